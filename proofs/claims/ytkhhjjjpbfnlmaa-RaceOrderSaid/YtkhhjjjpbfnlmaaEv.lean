/- Events, as they lie in memory and as plain data; the kinds of events. -/
import Derived.Test.YtkhhjjjpbfnlmaaRecs
import Derived.Test.YtkhhjjjpbfnlmaaMemS
import Derived.Test.YtkhhjjjpbfnlmaaLocKey
import Derived.Test.YtkhhjjjpbfnlmaaClk4
import Derived.Test.YtkhhjjjpbfnlmaaFlatI
namespace Go.Proofs.Ytkhhjjjpbfnlmaa
set_option linter.unusedVariables false
set_option linter.unusedSimpArgs false
open Go.RowKit Go.Proofs.YtkhhjjjpbfnlmaaMem Go.Proofs.YtkhhjjjpbfnlmaaFlat

structure EvS where
  who : Int
  kind : Int
  loc : LocS
  deriving DecidableEq
def EvS.cells (e : EvS) : List Value := [.int .i64 e.who, .int .i64 e.kind, .int .i64 e.loc.kind, .int .i64 e.loc.a, .int .i64 e.loc.b]
def LocS.Ok (x : LocS) : Prop := I64 x.kind ∧ I64 x.a ∧ I64 x.b
def EvS.Ok (e : EvS) : Prop := I64 e.who ∧ I64 e.kind ∧ e.loc.Ok
def EvS.zero : EvS := ⟨0, 0, 0, 0, 0⟩
def evs (l : List EvS) : List Value := l.flatMap EvS.cells
theorem ev_cells (e : EvS) : e.cells.length = 5 := rfl
theorem evs_length (l : List EvS) : (evs l).length = l.length * 5 := recs_length ev_cells l
theorem evs_append (a b : List EvS) : evs (a ++ b) = evs a ++ evs b := by simp [evs]
theorem evs_one (l : List EvS) : ∀ u ∈ evs l, u.oneCell' = true := by
  intro u hu
  simp only [evs, List.mem_flatMap, EvS.cells] at hu
  obtain ⟨p, _, hu⟩ := hu
  simp only [List.mem_cons, List.not_mem_nil, or_false] at hu
  rcases hu with rfl | rfl | rfl | rfl | rfl <;> rfl
def nthE (l : List EvS) (k : Nat) : EvS := l.getD k EvS.zero
theorem nthE_eq {l : List EvS} {k : Nat} (h : k < l.length) : nthE l k = l[k] := by simp [nthE, h]
theorem nthE_some {l : List EvS} {k : Nat} (h : k < l.length) : l[k]? = some (nthE l k) := by rw [nthE_eq h]; simp [h]

structure RdE (w : World) (ao : Option Addr) (n cap : Nat) (l : List EvS) : Prop where
  rd : RdS w ao n cap 5 (evs l)
  len : l.length = n
  ok : ∀ e ∈ l, e.Ok
theorem RdE.below {w w' : World} {ao : Option Addr} {n cap : Nat} {l : List EvS} (h : RdE w ao n cap l) (hb : Below w.heap.size w w') : RdE w' ao n cap l := ⟨h.rd.below hb, h.len, h.ok⟩
theorem RdE.nth_ok {w : World} {ao : Option Addr} {n cap : Nat} {l : List EvS} (h : RdE w ao n cap l) (k : Nat) : (nthE l k).Ok := by
  by_cases hk : k < l.length
  · rw [nthE_eq hk]; exact h.ok _ (List.getElem_mem hk)
  · have : nthE l k = EvS.zero := by simp [nthE, List.getD_eq_getElem?_getD, List.getElem?_eq_none (show l.length ≤ k by omega)]
    rw [this]; exact ⟨by decide, by decide, by decide, by decide, by decide⟩
theorem RdE.cells {w : World} {ao : Option Addr} {n cap : Nat} {l : List EvS} (h : RdE w ao n cap l) {k : Nat} (hk : k < n) :
    ∃ b off, ao = some ⟨b, off, none⟩ ∧ b < w.heap.size ∧ ∀ w', Below w.heap.size w w' → w'.cell? ⟨b, off + k * 5, none⟩ = some (.int .i64 (nthE l k).who) ∧ w'.cell? ⟨b, off + k * 5 + 1, none⟩ = some (.int .i64 (nthE l k).kind) ∧ w'.cell? ⟨b, off + k * 5 + 2, none⟩ = some (.int .i64 (nthE l k).loc.kind) ∧ w'.cell? ⟨b, off + k * 5 + 3, none⟩ = some (.int .i64 (nthE l k).loc.a) ∧ w'.cell? ⟨b, off + k * 5 + 4, none⟩ = some (.int .i64 (nthE l k).loc.b) := by
  have hx := nthE_some (l := l) (k := k) (by rw [h.len]; exact hk)
  obtain ⟨b, off, e, hb, hc⟩ := rds_rec ev_cells (by omega) h.rd hx
  exact ⟨b, off, e, hb, fun w' hbl => ⟨hc w' hbl 0 _ rfl, hc w' hbl 1 _ rfl, hc w' hbl 2 _ rfl, hc w' hbl 3 _ rfl, hc w' hbl 4 _ rfl⟩⟩
theorem ev_of {cs : List Value} (h : FlatOk [.int .i64, .int .i64, .int .i64, .int .i64, .int .i64] cs) : ∃ e : EvS, cs = e.cells ∧ e.Ok := by
  obtain ⟨c, r, rfl, ⟨a, rfl, ha⟩, c2, r2, rfl, ⟨b, rfl, hb⟩, c3, r3, rfl, ⟨d, rfl, hd⟩, c4, r4, rfl, ⟨f, rfl, hf⟩, c5, r5, rfl, ⟨g, rfl, hg⟩, rfl⟩ := h
  exact ⟨⟨a, b, d, f, g⟩, rfl, i64_of_wf ha, i64_of_wf hb, i64_of_wf hd, i64_of_wf hf, i64_of_wf hg⟩
theorem loc_of {cs : List Value} (h : FlatOk [.int .i64, .int .i64, .int .i64] cs) : ∃ x : LocS, cs = [.int .i64 x.kind, .int .i64 x.a, .int .i64 x.b] ∧ x.Ok := by
  obtain ⟨c, r, rfl, ⟨a, rfl, ha⟩, c2, r2, rfl, ⟨b, rfl, hb⟩, c3, r3, rfl, ⟨d, rfl, hd⟩, rfl⟩ := h
  exact ⟨⟨a, b, d⟩, rfl, i64_of_wf ha, i64_of_wf hb, i64_of_wf hd⟩
theorem rows_evs {L : List (List Value)} (h : ∀ l ∈ L, FlatOk [.int .i64, .int .i64, .int .i64, .int .i64, .int .i64] l) : ∃ ls : List EvS, L.flatten = evs ls ∧ L.length = ls.length ∧ ∀ a ∈ ls, a.Ok := by
  induction L with
  | nil => exact ⟨[], rfl, rfl, fun a ha => by cases ha⟩
  | cons l L ih =>
    obtain ⟨ls, e1, e2, ho⟩ := ih fun l hl => h l (List.mem_cons_of_mem _ hl)
    obtain ⟨a, rfl, ha⟩ := ev_of (h l (List.mem_cons_self ..))
    refine ⟨a :: ls, by rw [List.flatten_cons, e1]; simp [evs], by simp [e2], fun a' h' => ?_⟩
    rcases List.mem_cons.1 h' with rfl | h'
    · exact ha
    · exact ho a' h'
theorem isRows_rdE {w : World} {ao : Option Addr} {len cap : Nat} {L : List (List Value)} (h : IsRows w [.int .i64, .int .i64, .int .i64, .int .i64, .int .i64] ao len cap L) : ∃ l, RdE w ao len cap l := by
  have hr := isRows_rdS (by decide) h
  obtain ⟨ls, e1, e2, ho⟩ := rows_evs h.2.2.2.2.1
  rw [e1] at hr
  exact ⟨ls, hr, by rw [← e2]; exact h.1, ho⟩
theorem owns_rdE {w : World} {base : Nat} {ao : Option Addr} {n cap : Nat} {l : List EvS} (h : w.ownsRow base 36 5 (.slice ao n cap) n (evs l)) (ho : ∀ e ∈ l, e.Ok) : RdE w ao n cap l :=
  ⟨owns_rdS h (evs_one l), by have := h.1; rw [evs_length] at this; omega, ho⟩

/-! ### Kinds -/
def atomicB (k : Int) : Bool := decide (k = 1 ∨ k = 2 ∨ k = 3 ∨ k = 4)
def plainB (k : Int) : Bool := decide (k = 5 ∨ k = 6)
def writesB (k : Int) : Bool := decide (k = 2 ∨ k = 3 ∨ k = 6)
def hearsB (k : Int) : Bool := decide (k = 1 ∨ k = 3 ∨ k = 4)
def tellsB (k : Int) : Bool := decide (k = 2 ∨ k = 3)

set_option maxHeartbeats 400000 in
theorem atomic_any (k : Int) (w : World) : Calls Try.prog 34 #[.int .i64 k] w fun e w' => e = .returned (.bool (atomicB k)) ∧ w = w' := by
  rcases (show k = 1 ∨ k = 2 ∨ k = 3 ∨ k = 4 ∨ (k ≠ 1 ∧ k ≠ 2 ∧ k ≠ 3 ∧ k ≠ 4) by omega) with rfl | rfl | rfl | rfl | ⟨h1, h2, h3, h4⟩
  · go_enter Try.func34, Try.ntmps34
    go_wp2
    go_ret
    exact ⟨rfl, rfl⟩
  · go_enter Try.func34, Try.ntmps34
    go_wp2
    go_ret
    exact ⟨rfl, rfl⟩
  · go_enter Try.func34, Try.ntmps34
    go_wp2
    go_ret
    exact ⟨rfl, rfl⟩
  · go_enter Try.func34, Try.ntmps34
    go_wp2
    go_ret
    exact ⟨rfl, rfl⟩
  · have E : Hid (atomicB k = false) := by unfold Hid atomicB; simp [h1, h2, h3, h4]
    have e1 : (k == 1) = false := by simpa using h1
    have e2 : (k == 2) = false := by simpa using h2
    have e3 : (k == 3) = false := by simpa using h3
    have e4 : (k == 4) = false := by simpa using h4
    clear h1 h2 h3 h4
    go_enter Try.func34, Try.ntmps34
    go_wp2
    go_ret
    exact ⟨by rw [E.out]; rfl, rfl⟩

set_option maxHeartbeats 400000 in
theorem plain_any (k : Int) (w : World) : Calls Try.prog 35 #[.int .i64 k] w fun e w' => e = .returned (.bool (plainB k)) ∧ w = w' := by
  rcases (show k = 5 ∨ k = 6 ∨ k = 5 ∨ k = 6 ∨ (k ≠ 5 ∧ k ≠ 6 ∧ k ≠ 5 ∧ k ≠ 6) by omega) with rfl | rfl | rfl | rfl | ⟨h1, h2, h3, h4⟩
  · go_enter Try.func35, Try.ntmps35
    go_wp2
    go_ret
    exact ⟨rfl, rfl⟩
  · go_enter Try.func35, Try.ntmps35
    go_wp2
    go_ret
    exact ⟨rfl, rfl⟩
  · go_enter Try.func35, Try.ntmps35
    go_wp2
    go_ret
    exact ⟨rfl, rfl⟩
  · go_enter Try.func35, Try.ntmps35
    go_wp2
    go_ret
    exact ⟨rfl, rfl⟩
  · have E : Hid (plainB k = false) := by unfold Hid plainB; simp [h1, h2, h3, h4]
    have e1 : (k == 5) = false := by simpa using h1
    have e2 : (k == 6) = false := by simpa using h2
    have e3 : (k == 5) = false := by simpa using h3
    have e4 : (k == 6) = false := by simpa using h4
    clear h1 h2 h3 h4
    go_enter Try.func35, Try.ntmps35
    go_wp2
    go_ret
    exact ⟨by rw [E.out]; rfl, rfl⟩

set_option maxHeartbeats 400000 in
theorem writes_any (k : Int) (w : World) : Calls Try.prog 46 #[.int .i64 k] w fun e w' => e = .returned (.bool (writesB k)) ∧ w = w' := by
  rcases (show k = 2 ∨ k = 3 ∨ k = 6 ∨ k = 6 ∨ (k ≠ 2 ∧ k ≠ 3 ∧ k ≠ 6 ∧ k ≠ 6) by omega) with rfl | rfl | rfl | rfl | ⟨h1, h2, h3, h4⟩
  · go_enter Try.func46, Try.ntmps46
    go_wp2
    go_ret
    exact ⟨rfl, rfl⟩
  · go_enter Try.func46, Try.ntmps46
    go_wp2
    go_ret
    exact ⟨rfl, rfl⟩
  · go_enter Try.func46, Try.ntmps46
    go_wp2
    go_ret
    exact ⟨rfl, rfl⟩
  · go_enter Try.func46, Try.ntmps46
    go_wp2
    go_ret
    exact ⟨rfl, rfl⟩
  · have E : Hid (writesB k = false) := by unfold Hid writesB; simp [h1, h2, h3, h4]
    have e1 : (k == 2) = false := by simpa using h1
    have e2 : (k == 3) = false := by simpa using h2
    have e3 : (k == 6) = false := by simpa using h3
    have e4 : (k == 6) = false := by simpa using h4
    clear h1 h2 h3 h4
    go_enter Try.func46, Try.ntmps46
    go_wp2
    go_ret
    exact ⟨by rw [E.out]; rfl, rfl⟩

set_option maxHeartbeats 400000 in
theorem hears_any (k : Int) (w : World) : Calls Try.prog 37 #[.int .i64 k] w fun e w' => e = .returned (.bool (hearsB k)) ∧ w = w' := by
  rcases (show k = 1 ∨ k = 3 ∨ k = 4 ∨ k = 4 ∨ (k ≠ 1 ∧ k ≠ 3 ∧ k ≠ 4 ∧ k ≠ 4) by omega) with rfl | rfl | rfl | rfl | ⟨h1, h2, h3, h4⟩
  · go_enter Try.func37, Try.ntmps37
    go_wp2
    go_ret
    exact ⟨rfl, rfl⟩
  · go_enter Try.func37, Try.ntmps37
    go_wp2
    go_ret
    exact ⟨rfl, rfl⟩
  · go_enter Try.func37, Try.ntmps37
    go_wp2
    go_ret
    exact ⟨rfl, rfl⟩
  · go_enter Try.func37, Try.ntmps37
    go_wp2
    go_ret
    exact ⟨rfl, rfl⟩
  · have E : Hid (hearsB k = false) := by unfold Hid hearsB; simp [h1, h2, h3, h4]
    have e1 : (k == 1) = false := by simpa using h1
    have e2 : (k == 3) = false := by simpa using h2
    have e3 : (k == 4) = false := by simpa using h3
    have e4 : (k == 4) = false := by simpa using h4
    clear h1 h2 h3 h4
    go_enter Try.func37, Try.ntmps37
    go_wp2
    go_ret
    exact ⟨by rw [E.out]; rfl, rfl⟩

set_option maxHeartbeats 400000 in
theorem tells_any (k : Int) (w : World) : Calls Try.prog 40 #[.int .i64 k] w fun e w' => e = .returned (.bool (tellsB k)) ∧ w = w' := by
  rcases (show k = 2 ∨ k = 3 ∨ k = 2 ∨ k = 3 ∨ (k ≠ 2 ∧ k ≠ 3 ∧ k ≠ 2 ∧ k ≠ 3) by omega) with rfl | rfl | rfl | rfl | ⟨h1, h2, h3, h4⟩
  · go_enter Try.func40, Try.ntmps40
    go_wp2
    go_ret
    exact ⟨rfl, rfl⟩
  · go_enter Try.func40, Try.ntmps40
    go_wp2
    go_ret
    exact ⟨rfl, rfl⟩
  · go_enter Try.func40, Try.ntmps40
    go_wp2
    go_ret
    exact ⟨rfl, rfl⟩
  · go_enter Try.func40, Try.ntmps40
    go_wp2
    go_ret
    exact ⟨rfl, rfl⟩
  · have E : Hid (tellsB k = false) := by unfold Hid tellsB; simp [h1, h2, h3, h4]
    have e1 : (k == 2) = false := by simpa using h1
    have e2 : (k == 3) = false := by simpa using h2
    have e3 : (k == 2) = false := by simpa using h3
    have e4 : (k == 3) = false := by simpa using h4
    clear h1 h2 h3 h4
    go_enter Try.func40, Try.ntmps40
    go_wp2
    go_ret
    exact ⟨by rw [E.out]; rfl, rfl⟩

end Go.Proofs.Ytkhhjjjpbfnlmaa
