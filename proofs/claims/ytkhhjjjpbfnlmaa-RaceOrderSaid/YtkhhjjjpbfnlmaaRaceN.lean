/- The law's own: events of a few workers at a few places; some of them; long lists. -/
import Derived.Test.YtkhhjjjpbfnlmaaRaceH
import Derived.Test.YtkhhjjjpbfnlmaaHelpI
import Derived.StillTailTactics
namespace Go.Proofs.Ytkhhjjjpbfnlmaa
set_option linter.unusedVariables false
set_option linter.unusedSimpArgs false
open Go.RowKit Go.Proofs.YtkhhjjjpbfnlmaaMem Go.Proofs.YtkhhjjjpbfnlmaaFlat Go.Proofs.YtkhhjjjpbfnlmaaMapK

theorem EE : ElT Try.prog 22 36 (.agg #[.int .i64 0, .int .i64 0, .int .i64 0, .int .i64 0, .int .i64 0]) 5 := ⟨Try.underlying22, ⟨40, by kernel_rfl, by omega⟩, rfl, by omega⟩
def nearE (e : EvS) : EvS := if modZ e.who 211 = 210 then e else ⟨modZ e.who 4, 1 + modZ e.kind 6, ⟨modZ e.loc.kind 2, modZ e.loc.a 3, 0⟩⟩
theorem nearE_ok {e : EvS} (h : e.Ok) : (nearE e).Ok := by
  unfold nearE
  split
  · exact h
  · have h1 := modZ_bd e.who (n := 4) (by omega)
    have h2 := modZ_bd e.kind (n := 6) (by omega)
    have h3 := modZ_bd e.loc.kind (n := 2) (by omega)
    have h4 := modZ_bd e.loc.a (n := 3) (by omega)
    refine ⟨?_, ?_, ?_, ?_, ?_⟩ <;> unfold I64 <;> simp only <;> omega

set_option maxHeartbeats 1000000 in
theorem near_any (x : EvS) (w : World) :
    Calls Try.prog 20 #[.agg #[.int .i64 x.who, .int .i64 x.kind, .int .i64 x.loc.kind, .int .i64 x.loc.a, .int .i64 x.loc.b]] w fun e w' => e = .returned (.agg #[.int .i64 (nearE x).who, .int .i64 (nearE x).kind, .int .i64 (nearE x).loc.kind, .int .i64 (nearE x).loc.a, .int .i64 (nearE x).loc.b]) ∧ Below w.heap.size w w' := by
  by_cases hm : modZ x.who 211 = 210
  · have E : Hid (nearE x = x) := by unfold Hid nearE; rw [if_pos hm]
    have e1 : (modZ x.who 211 == 210) = true := by simpa using hm
    clear hm
    go_enter Try.func20, Try.ntmps20
    go_wp2_with fail
    refine (mod_any x.who 211 (by omega) (by omega) _).mono ?_
    rintro e w' ⟨rfl, rfl⟩
    go_wp2
    refine bodyPost_ret (v := .agg #[.int .i64 x.who, .int .i64 x.kind, .int .i64 x.loc.kind, .int .i64 x.loc.a, .int .i64 x.loc.b]) (by simp [results, Try.results20, go_sem]) rfl ⟨by rw [E.out], ?_⟩
    exact below2 _ _ _
  · have e1 : (modZ x.who 211 == 210) = false := by simpa using hm
    have E : Hid (nearE x = ⟨modZ x.who 4, 1 + modZ x.kind 6, ⟨modZ x.loc.kind 2, modZ x.loc.a 3, 0⟩⟩) := by unfold Hid nearE; rw [if_neg hm]
    clear hm
    have m2 := modZ_bd x.kind (n := 6) (by omega)
    have hw : IntKind.i64.wrap (1 + modZ x.kind 6) = 1 + modZ x.kind 6 := by rw [IntKind.wrap_i64]; omega
    go_enter Try.func20, Try.ntmps20
    go_wp2_with fail
    refine (mod_any x.who 211 (by omega) (by omega) _).mono ?_
    rintro e w' ⟨rfl, rfl⟩
    go_upto_region 3 with fail
    obtain ⟨W, hW⟩ : ∃ W, W = ((w.alloc (.cells #[.int .i64 x.who, .int .i64 x.kind, .int .i64 x.loc.kind, .int .i64 x.loc.a, .int .i64 x.loc.b] 36)).alloc (.cells #[.int .i64 0, .int .i64 0, .int .i64 0, .int .i64 0, .int .i64 0] 36)) := ⟨_, rfl⟩
    have hbW : Below w.heap.size w W := by rw [hW]; exact below2 _ _ _
    have hcs : W.cell? ⟨w.heap.size, 0, none⟩ = some (.int .i64 x.who) ∧ W.cell? ⟨w.heap.size, 1, none⟩ = some (.int .i64 x.kind) ∧ W.cell? ⟨w.heap.size, 2, none⟩ = some (.int .i64 x.loc.kind) ∧ W.cell? ⟨w.heap.size, 3, none⟩ = some (.int .i64 x.loc.a) ∧ W.cell? ⟨w.heap.size, 4, none⟩ = some (.int .i64 x.loc.b) ∧ W.cell? ⟨w.heap.size + 1, 0, none⟩ = some (.int .i64 0) ∧ W.cell? ⟨w.heap.size + 1, 1, none⟩ = some (.int .i64 0) ∧ W.cell? ⟨w.heap.size + 1, 2, none⟩ = some (.int .i64 0) ∧ W.cell? ⟨w.heap.size + 1, 3, none⟩ = some (.int .i64 0) ∧ W.cell? ⟨w.heap.size + 1, 4, none⟩ = some (.int .i64 0) := by
      have := two_boxes w (.int .i64 x.who) (.int .i64 x.kind) (.int .i64 x.loc.kind) (.int .i64 x.loc.a) (.int .i64 x.loc.b) (.int .i64 0) (.int .i64 0) (.int .i64 0) (.int .i64 0) (.int .i64 0) 36 _ (Below.refl _ _)
      rw [← hW] at this
      simpa [and_assoc] using this
    have hfz : ∀ o, W.frozen? ⟨w.heap.size + 1, o, none⟩ = false := by
      intro o
      have hs : (w.alloc (.cells #[.int .i64 x.who, .int .i64 x.kind, .int .i64 x.loc.kind, .int .i64 x.loc.a, .int .i64 x.loc.b] 36)).heap.size = w.heap.size + 1 := by simp
      have h2 := heap_alloc_new (w.alloc (.cells #[.int .i64 x.who, .int .i64 x.kind, .int .i64 x.loc.kind, .int .i64 x.loc.a, .int .i64 x.loc.b] 36)) (.cells #[.int .i64 0, .int .i64 0, .int .i64 0, .int .i64 0, .int .i64 0] 36)
      rw [hs, ← hW] at h2
      simp [World.frozen?, h2]
    obtain ⟨a0, a1, a2, a3, a4, b0, b1, b2, b3, b4⟩ := hcs
    have z0 := hfz 0
    have z1 := hfz 1
    have z2 := hfz 2
    have z3 := hfz 3
    have z4 := hfz 4
    clear hfz
    rw [← hW]
    clear hW
    go_still_tail 17, (by kernel_rfl)
    still_call ((mod_any x.who 4 (by omega) (by omega) _).mono fun e w' h => ⟨h.1, h.2.symm⟩)
    repeat still_step
    still_call ((mod_any x.kind 6 (by omega) (by omega) _).mono fun e w' h => ⟨h.1, h.2.symm⟩)
    repeat still_step
    still_call ((mod_any x.loc.kind 2 (by omega) (by omega) _).mono fun e w' h => ⟨h.1, h.2.symm⟩)
    repeat still_step
    still_call ((mod_any x.loc.a 3 (by omega) (by omega) _).mono fun e w' h => ⟨h.1, h.2.symm⟩)
    repeat still_step
    refine wpStill_nil ?_
    change wpList _ _ _ _ _ W.drew
    go_wp2
    refine bodyPost_ret (v := .agg #[.int .i64 (modZ x.who 4), .int .i64 (1 + modZ x.kind 6), .int .i64 (modZ x.loc.kind 2), .int .i64 (modZ x.loc.a 3), .int .i64 0]) (by simp [results, Try.results20, go_sem, b0, b1, b2, b3, b4]) rfl ⟨by rw [E.out], ?_⟩
    have hle : w.heap.size ≤ w.heap.size + 1 := Nat.le_succ _
    exact (((((hbW.setCell (p := ⟨w.heap.size + 1, 0, none⟩) hle _).setCell (p := ⟨w.heap.size + 1, 1, none⟩) hle _).setCell (p := ⟨w.heap.size + 1, 2, none⟩) hle _).setCell (p := ⟨w.heap.size + 1, 3, none⟩) hle _).setCell (p := ⟨w.heap.size + 1, 4, none⟩) hle _).drew

theorem evs_snoc (l : List EvS) (e : EvS) : evs (l ++ [e]) = evs l ++ e.cells := by simp [evs]
theorem map_take_snoc (f : EvS → EvS) (l : List EvS) {k : Nat} (h : k < l.length) : (l.take (k + 1)).map f = (l.take k).map f ++ [f (nthE l k)] := by
  rw [List.take_add_one, List.map_append, nthE_some h]; rfl
def someE (l : List EvS) (m : Nat) : List EvS := (l.take m).map nearE
theorem someE_length (l : List EvS) (m : Nat) : (someE l m).length = min m l.length := by simp [someE]
theorem someE_ok {l : List EvS} (h : ∀ e ∈ l, e.Ok) (m : Nat) : ∀ e ∈ someE l m, e.Ok := by
  intro e he
  simp only [someE, List.mem_map] at he
  obtain ⟨x, hx, rfl⟩ := he
  exact nearE_ok (h x (List.mem_of_mem_take hx))

/-- A call that hands back events in memory of its own. -/
def RetE (w : World) (l : List EvS) (en : Ending) (w' : World) : Prop := ∃ v, en = .returned v ∧ w'.ownsRow w.heap.size 36 5 v l.length (evs l) ∧ Below w.heap.size w w'

set_option maxHeartbeats 1000000 in
theorem some_any (ao : Option Addr) (n cap : Nat) (l : List EvS) (m : Nat) (w : World) (h : RdE w ao n cap l) (hm : m ≤ 1000) :
    Calls Try.prog 30 #[.slice ao n cap, .int .i64 m] w (RetE w (someE l m)) := by
  have s0 := h.rd.small
  have L0 := Lib.hid h.len
  go_enter Try.func30, Try.ntmps30
  go_wp2
  go_loopw [5, 6] (fun v i wr => ∃ k : Nat, k ≤ n ∧ k ≤ m ∧ i = .int .i64 k ∧ wr.ownsRow w.heap.size 36 5 v k (evs ((l.take k).map nearE)) ∧ Below w.heap.size w wr) (fun _ i _ => n - (intOf i).toNat)
  case atStart => exact ⟨0, Nat.zero_le _, Nat.zero_le _, rfl, by simpa [evs] using World.ownsRow_nil w _ _ _, Below.refl _ _⟩
  case round =>
    obtain ⟨k, hk, hkm, rfl, hown, hbr⟩ := hrel
    by_cases hl : k < n
    · by_cases hl2 : k < m
      · obtain ⟨b, o, rfl, hlt, hc⟩ := h.cells hl
        obtain ⟨c0, c1, c2, c3, c4⟩ := hc wr hbr
        have kn : (k : Int) < n := by omega
        have km : (k : Int) < m := by omega
        have S := Lib.hid (map_take_snoc nearE l (show k < l.length by rw [L0.out]; exact hl))
        go_wp2_with fail
        refine (near_any (nthE l k) _).mono ?_
        rintro e w2 ⟨rfl, hb2⟩
        have hown2 := owns_below (B := 0) hown hb2
        have hbase : w.heap.size ≤ w2.heap.size := Nat.le_trans hbr.size hb2.size
        have hn2 : k + 1 ≤ 1099511627776 := by omega
        go_wp2_with ((at_builtin; refine ap_new w2 _ EE rfl _ _ rfl w.heap.size _ k _ rfl hown2 hbase 1 rfl rfl (by simp [Value.oneCell']) hn2 ?_; intro v' w3 hown3 hg3 hb3 hfr3))
        go_roundw
        case rel => exact ⟨k + 1, by omega, by omega, by go_num, by rw [S.out, evs_snoc]; exact hown3, (hbr.trans (hb2.mono hbr.size)).trans hb3⟩
        case measure => simp [intOf]; omega
      · obtain rfl : k = m := by omega
        have kn : (k : Int) < n := by omega
        have E : Hid ((someE l k).length = k) := by unfold Hid; rw [someE_length, L0.out]; omega
        go_wp2
        go_ret
        exact ⟨_, rfl, by rw [E.out]; exact hown, hbr⟩
    · obtain rfl : k = n := by omega
      have E : Hid (someE l m = (l.take k).map nearE) := by unfold Hid someE; rw [List.take_of_length_le (by rw [L0.out]; omega), List.take_of_length_le (by rw [L0.out]; omega)]
      have E2 : Hid ((someE l m).length = k) := by unfold Hid; rw [someE_length, L0.out]; omega
      go_wp2
      go_ret
      exact ⟨_, rfl, by rw [E2.out, E.out]; exact hown, hbr⟩

/-- One that looks like it, by another worker, of another kind. -/
def turnE (x : EvS) (t : Int) : EvS := ⟨modZ (wrap64 (x.who + t.tmod 3)) 4, 1 + modZ (wrap64 (x.kind + t.tmod 5)) 6, x.loc⟩
theorem turnE_ok {x : EvS} (h : x.Ok) (t : Int) : (turnE x t).Ok := by
  have h1 := modZ_bd (wrap64 (x.who + t.tmod 3)) (n := 4) (by omega)
  have h2 := modZ_bd (wrap64 (x.kind + t.tmod 5)) (n := 6) (by omega)
  refine ⟨?_, ?_, h.2.2⟩ <;> unfold I64 turnE <;> simp only <;> omega
def moreE (s : List EvS) (ts : List Int) : List EvS := ts.map fun t => turnE (nthE s (modZ t s.length).toNat) t
def longE (l : List EvS) (ts : List Int) : List EvS := someE l 20 ++ if (someE l 20).length = 0 then [] else moreE (someE l 20) (ts.take 20)
theorem longE_length (l : List EvS) (ts : List Int) : (longE l ts).length ≤ 40 := by
  have := someE_length l 20
  unfold longE moreE
  split <;> simp <;> omega
theorem longE_ok {l : List EvS} (h : ∀ e ∈ l, e.Ok) (ts : List Int) : ∀ e ∈ longE l ts, e.Ok := by
  have hs := someE_ok h 20
  intro e he
  unfold longE at he
  rcases List.mem_append.1 he with he | he
  · exact hs e he
  · split at he
    · cases he
    · simp only [moreE, List.mem_map] at he
      obtain ⟨t, _, rfl⟩ := he
      refine turnE_ok ?_ t
      by_cases hk : (modZ t (someE l 20).length).toNat < (someE l 20).length
      · rw [nthE_eq hk]; exact hs _ (List.getElem_mem hk)
      · have : nthE (someE l 20) (modZ t (someE l 20).length).toNat = EvS.zero := by simp [nthE, List.getD_eq_getElem?_getD, List.getElem?_eq_none (Nat.le_of_not_lt hk)]
        rw [this]; exact ⟨by decide, by decide, by decide, by decide, by decide⟩

theorem box_cells {w : World} {B : Nat} {c0 c1 c2 c3 c4 : Value} {t : TypeId} (h : w.heap[B]? = some (.cells #[c0, c1, c2, c3, c4] t (0, 0))) :
    w.cell? ⟨B, 0, none⟩ = some c0 ∧ w.cell? ⟨B, 1, none⟩ = some c1 ∧ w.cell? ⟨B, 2, none⟩ = some c2 ∧ w.cell? ⟨B, 3, none⟩ = some c3 ∧ w.cell? ⟨B, 4, none⟩ = some c4 ∧ w.frozen? ⟨B, 0, none⟩ = false ∧ w.frozen? ⟨B, 1, none⟩ = false := by
  simp only [World.cell?, World.frozen?, h]
  exact ⟨rfl, rfl, rfl, rfl, rfl, rfl, rfl⟩
theorem box_set0 {w : World} {B : Nat} {c0 c1 c2 c3 c4 : Value} {t : TypeId} (h : w.heap[B]? = some (.cells #[c0, c1, c2, c3, c4] t (0, 0))) (v : Value) :
    (w.setCell ⟨B, 0, none⟩ v).drew.heap[B]? = some (.cells #[v, c1, c2, c3, c4] t (0, 0)) := by
  simp [World.setCell, World.drew, Array.getElem?_modify, h]
theorem box_set1 {w : World} {B : Nat} {c0 c1 c2 c3 c4 : Value} {t : TypeId} (h : w.heap[B]? = some (.cells #[c0, c1, c2, c3, c4] t (0, 0))) (v : Value) :
    (w.setCell ⟨B, 1, none⟩ v).drew.heap[B]? = some (.cells #[c0, v, c2, c3, c4] t (0, 0)) := by
  simp [World.setCell, World.drew, Array.getElem?_modify, h]
theorem nthE_append_lt {l r : List EvS} {k : Nat} (h : k < l.length) : nthE (l ++ r) k = nthE l k := by
  simp only [nthE, List.getD_eq_getElem?_getD]; rw [List.getElem?_append_left h]
theorem moreE_snoc (s : List EvS) (ts : List Int) {k : Nat} (h : k < ts.length) : moreE s (ts.take (k + 1)) = moreE s (ts.take k) ++ [turnE (nthE s (modZ (nth ts k) s.length).toNat) (nth ts k)] := by
  unfold moreE
  rw [List.take_add_one, List.map_append, List.getElem?_eq_getElem h, nth_eq h]; rfl

set_option maxHeartbeats 2000000 in
theorem long_any (ao at' : Option Addr) (n cap m capt : Nat) (l : List EvS) (ts : List Int) (w : World) (h : RdE w ao n cap l) (ht : RdI w at' m capt ts) :
    Calls Try.prog 11 #[.slice ao n cap, .slice at' m capt] w (RetE w (longE l ts)) := by
  have s0 := h.rd.small
  have s1 := ht.small
  have L0 := Lib.hid h.len
  have L1 := Lib.hid ht.len
  have hok := Lib.hid (someE_ok h.ok 20)
  go_enter Try.func11, Try.ntmps11
  go_wp2_with fail
  refine (some_any ao n cap l 20 _ h (by omega)).mono ?_
  rintro e w1 ⟨v, rfl, hown, hb1⟩
  obtain ⟨sa, sc, rfl⟩ := owns_slice hown
  have hs20 : (someE l 20).length ≤ 20 := by rw [someE_length]; omega
  obtain ⟨q, hq⟩ : ∃ q, (someE l 20).length = q := ⟨_, rfl⟩
  rw [hq] at hown hs20 ⊢
  have HQ := Lib.hid hq
  clear hq
  go_wp2_with fail
  go_loopw [5, 7] (fun v i wr => ∃ k : Nat, k ≤ m ∧ k ≤ 20 ∧ (k = 0 ∨ q ≠ 0) ∧ i = .int .i64 k ∧ (∃ a c, v = .slice a (q + k) c ∧ wr.ownsRow w.heap.size 36 5 (.slice a (q + k) c) (q + k) (evs (someE l 20 ++ moreE (someE l 20) (ts.take k)))) ∧ Below w.heap.size w wr) (fun _ i _ => m - (intOf i).toNat)
  case atStart => exact ⟨0, Nat.zero_le _, Nat.zero_le _, .inl rfl, rfl, ⟨sa, sc, rfl, by simpa [moreE] using hown⟩, hb1⟩
  case round =>
    obtain ⟨k, hk, hk20, hkq, rfl, ⟨a, c, rfl, hownr⟩, hbr⟩ := hrel
    by_cases hl : k < m
    · have km : (k : Int) < m := by omega
      by_cases hl2 : k < 20
      · have k20 : (k : Int) < 20 := by omega
        by_cases hq0 : q = 0
        · subst hq0
          obtain rfl : k = 0 := by omega
          have hs0 : someE l 20 = [] := List.eq_nil_of_length_eq_zero HQ.out
          have E : Hid (longE l ts = []) := by unfold Hid longE; rw [hs0]; rfl
          have HO : Hid (evs (someE l 20 ++ moreE (someE l 20) (ts.take 0)) = evs []) := by unfold Hid; rw [hs0]; rfl
          clear hs0
          go_wp2
          go_ret
          exact ⟨_, rfl, by rw [E.out]; rw [HO.out] at hownr; exact hownr, hbr⟩
        · have hqp : (0 : Int) < (q : Int) := by omega
          have hq1 : (1 : Int) ≤ (q : Int) := by omega
          have hq9 : (q : Int) ≤ 9223372036854775807 := by omega
          obtain ⟨bt, ot, rfl, hltt, hct⟩ := ht.at_ k hl
          have hct1 := (hbr.cell (p := ⟨bt, ot + k, none⟩) hltt).trans hct
          have hmb := modZ_bd (nth ts k) hq1
          obtain ⟨p, hp⟩ := Int.eq_ofNat_of_zero_le hmb.1
          have HP := Lib.hid hp
          rw [hp] at hmb
          obtain ⟨hp0, hpq⟩ := hmb
          have hpk : (p : Int) < ((q + k : Nat) : Int) := by omega
          have hrE := owns_rdE hownr (by
            intro e he
            rcases List.mem_append.1 he with he | he
            · exact hok.out e he
            · simp only [moreE, List.mem_map] at he
              obtain ⟨t, _, rfl⟩ := he
              refine turnE_ok ?_ t
              by_cases hk : (modZ t (someE l 20).length).toNat < (someE l 20).length
              · rw [nthE_eq hk]; exact hok.out _ (List.getElem_mem hk)
              · have : nthE (someE l 20) (modZ t (someE l 20).length).toNat = EvS.zero := by simp [nthE, List.getD_eq_getElem?_getD, List.getElem?_eq_none (Nat.le_of_not_lt hk)]
                rw [this]; exact ⟨by decide, by decide, by decide, by decide, by decide⟩)
          obtain ⟨bo, oo, ho', hlto, hco⟩ := hrE.cells (show p < q + k by omega)
          subst ho'
          rw [nthE_append_lt (show p < (someE l 20).length by rw [HQ.out]; omega)] at hco
          obtain ⟨x, hx⟩ : ∃ x, nthE (someE l 20) p = x := ⟨_, rfl⟩
          rw [hx] at hco
          obtain ⟨x0, x1, x2, x3, x4⟩ := hco _ (Below.refl _ _)
          clear hco hct hp
          go_wp2_with fail
          refine (mod_any (nth ts k) q hq1 hq9 _).mono ?_
          rintro e w' ⟨rfl, rfl⟩
          rw [HP.out]
          go_upto_region 7 with fail
          obtain ⟨W, hW⟩ : ∃ W, W = wr.alloc (.cells #[.int .i64 x.who, .int .i64 x.kind, .int .i64 x.loc.kind, .int .i64 x.loc.a, .int .i64 x.loc.b] 36) := ⟨_, rfl⟩
          have hbW : Below wr.heap.size wr W := by rw [hW]; exact below1 _ _
          have hBx : W.heap[wr.heap.size]? = some (.cells #[.int .i64 x.who, .int .i64 x.kind, .int .i64 x.loc.kind, .int .i64 x.loc.a, .int .i64 x.loc.b] 36 (0, 0)) := by rw [hW]; exact heap_alloc_new _ _
          rw [← hW]
          clear hW x0 x1 x2 x3 x4
          generalize hBn : wr.heap.size = B at *
          have hct2 := (hbW.cell (p := ⟨bt, ot + k, none⟩) (by have := hbr.size; simp only; omega)).trans hct1
          obtain ⟨y0, y1, y2, y3, y4, z0, z1⟩ := box_cells hBx
          go_still_tail 10, (by kernel_rfl)
          still_call ((mod_any _ 4 (by omega) (by omega) _).mono fun e w' h => ⟨h.1, h.2.symm⟩)
          repeat still_step
          refine wpStill_nil ?_
          change wpList _ _ _ _ _ W.drew
          go_wp2_with fail
          go_upto_region 8 with fail
          obtain ⟨W2, hW2⟩ : ∃ W2, W2 = (W.setCell ⟨B, 0, none⟩ (.int .i64 (modZ (wrap64 (x.who + (nth ts k).tmod 3)) 4))).drew := ⟨_, rfl⟩
          have hbW2 : Below B wr W2 := by rw [hW2]; exact (hbW.setCell (p := ⟨B, 0, none⟩) (Nat.le_refl _) _).drew
          have hB2 := box_set0 hBx (.int .i64 (modZ (wrap64 (x.who + (nth ts k).tmod 3)) 4))
          rw [← hW2] at hB2
          rw [← hW2]
          clear hW2 hBx hbW y0 y1 y2 y3 y4 z0 z1 hct2
          have hct3 := (hbW2.cell (p := ⟨bt, ot + k, none⟩) (by have := hbr.size; simp only; omega)).trans hct1
          obtain ⟨y0, y1, y2, y3, y4, z0, z1⟩ := box_cells hB2
          have mb6 := modZ_bd (wrap64 (x.kind + (nth ts k).tmod 5)) (n := 6) (by omega)
          have hw7 : Hid (wrap64 (1 + modZ (wrap64 (x.kind + (nth ts k).tmod 5)) 6) = 1 + modZ (wrap64 (x.kind + (nth ts k).tmod 5)) 6) := (show ∀ t : Int, 0 ≤ t ∧ t < 6 → wrap64 (1 + t) = 1 + t by intro t ht; unfold RowKit.wrap64; omega) _ mb6
          go_still_tail 11, (by kernel_rfl)
          still_call ((mod_any _ 6 (by omega) (by omega) _).mono fun e w' h => ⟨h.1, h.2.symm⟩)
          repeat still_step
          refine wpStill_nil ?_
          change wpList _ _ _ _ _ W2.drew
          go_upto_region 9 with fail
          obtain ⟨W3, hW3⟩ : ∃ W3, W3 = (W2.setCell ⟨B, 1, none⟩ (.int .i64 (wrap64 (1 + modZ (wrap64 (x.kind + (nth ts k).tmod 5)) 6)))).drew := ⟨_, rfl⟩
          have hbW3 : Below B wr W3 := by rw [hW3]; exact (hbW2.setCell (p := ⟨B, 1, none⟩) (Nat.le_refl _) _).drew
          have hB3 := box_set1 hB2 (.int .i64 (wrap64 (1 + modZ (wrap64 (x.kind + (nth ts k).tmod 5)) 6)))
          rw [← hW3, hw7.out] at hB3
          rw [← hW3]
          clear hW3 hB2 hbW2 y0 y1 y2 y3 y4 z0 z1 hct3 hw7
          obtain ⟨y0, y1, y2, y3, y4, _, _⟩ := box_cells hB3
          have hown3 := owns_below (B := 0) hownr (by rw [hBn]; exact hbW3)
          have hbase : w.heap.size ≤ W3.heap.size := Nat.le_trans hbr.size hbW3.size
          have hn2 : q + k + 1 ≤ 1099511627776 := by omega
          have hts := Lib.hid (moreE_snoc (someE l 20) ts (show k < ts.length by rw [L1.out]; exact hl))
          go_wp2_with ((at_builtin; refine ap_new W3 _ EE rfl _ _ rfl w.heap.size _ (q + k) _ rfl hown3 hbase 1 rfl rfl (by simp [Value.oneCell']) hn2 ?_; intro v' w6 hown6 hg6 hb6 hfr6))
          obtain ⟨a6, c6, rfl⟩ := owns_slice hown6
          go_roundw
          case rel =>
            refine ⟨k + 1, by omega, by omega, .inr hq0, by go_num, ⟨a6, c6, rfl, ?_⟩, (hbr.trans (hbW3.mono (by have := hbr.size; omega))).trans hb6⟩
            rw [hts.out, HQ.out, HP.out, ← List.append_assoc, evs_snoc]
            have e : nthE (someE l 20) ((p : Int)).toNat = x := by rw [Int.toNat_natCast]; exact hx
            rw [e]
            exact hown6
          case measure => simp [intOf]; omega
      · obtain rfl : k = 20 := by omega
        have hqn : q ≠ 0 := by omega
        have E : Hid (longE l ts = someE l 20 ++ moreE (someE l 20) (ts.take 20)) := by unfold Hid longE; rw [if_neg (by rw [HQ.out]; exact hqn)]
        have E2 : Hid ((longE l ts).length = q + 20) := by unfold Hid; rw [E.out, List.length_append, HQ.out]; simp [moreE, L1.out]; omega
        go_wp2
        go_ret
        exact ⟨_, rfl, by rw [E2.out, E.out]; exact hownr, hbr⟩
    · obtain rfl : k = m := by omega
      have E : Hid (longE l ts = someE l 20 ++ moreE (someE l 20) (ts.take k)) := by
        unfold Hid longE
        split
        · rename_i h0
          rw [HQ.out] at h0
          have hk0 : k = 0 := by omega
          rw [hk0]; rfl
        · rw [List.take_of_length_le (i := 20) (by rw [L1.out]; exact hk20), List.take_of_length_le (i := k) (by rw [L1.out]; omega)]
      have E2 : Hid ((longE l ts).length = q + k) := by unfold Hid; rw [E.out, List.length_append, HQ.out]; simp [moreE, L1.out]
      go_wp2
      go_ret
      exact ⟨_, rfl, by rw [E2.out, E.out]; exact hownr, hbr⟩
end Go.Proofs.Ytkhhjjjpbfnlmaa
