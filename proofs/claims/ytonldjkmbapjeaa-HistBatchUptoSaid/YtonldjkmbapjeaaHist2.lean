/- Calls of a history: whether they may be, whether all have ended: the program. -/
import Derived.Test.YtonldjkmbapjeaaHist1
import Derived.Deep.RegionWith
namespace Go.Proofs.Ytonldjkmbapjeaa
set_option linter.unusedVariables false
set_option linter.unusedSimpArgs false
open Go.RowKit Go.Proofs.YtonldjkmbapjeaaMem Go.Proofs.YtonldjkmbapjeaaFlat

theorem all_frontD {p : DoneS → Bool} (l : List DoneS) : (∀ k, k < l.length → p (nthD l k) = true) → l.all p = true := by
  intro h
  rw [List.all_eq_true]
  intro e he
  obtain ⟨k, hk, rfl⟩ := List.mem_iff_getElem.1 he
  rw [← nthD_eq hk]; exact h k hk
theorem all_failD {p : DoneS → Bool} {l : List DoneS} {k : Nat} (hk : k < l.length) (h : p (nthD l k) = false) : l.all p = false := by
  rw [← Bool.not_eq_true]
  intro hr
  have := List.all_eq_true.1 hr _ (List.getElem_mem hk)
  rw [nthD_eq hk] at h
  rw [h] at this; cases this
theorem all_nthD {p : DoneS → Bool} {l : List DoneS} (h : l.all p = true) {k : Nat} (hk : k < l.length) : p (nthD l k) = true := by
  rw [nthD_eq hk]; exact List.all_eq_true.1 h _ (List.getElem_mem hk)
theorem RdD.at12 {w w' : World} {ao : Option Addr} {n cap : Nat} {l : List DoneS} {b off k : Nat} (hc : ∀ w', Below w.heap.size w w' → ∀ i u, (nthD l k).cells[i]? = some u → w'.cell? ⟨b, off + k * 12 + i, none⟩ = some u) (hb : Below w.heap.size w w') :
    w'.cell? ⟨b, off + k * 12, none⟩ = some (.int .i64 (nthD l k).who) ∧ w'.cell? ⟨b, off + k * 12 + 1, none⟩ = some (.int .i64 (nthD l k).place) ∧ w'.cell? ⟨b, off + k * 12 + 2, none⟩ = some (.int .i64 (nthD l k).op) ∧ w'.cell? ⟨b, off + k * 12 + 3, none⟩ = some (.int .i64 (nthD l k).fl) ∧ w'.cell? ⟨b, off + k * 12 + 4, none⟩ = some (.int .i64 (nthD l k).a) ∧ w'.cell? ⟨b, off + k * 12 + 5, none⟩ = some (.int .i64 (nthD l k).b) ∧ w'.cell? ⟨b, off + k * 12 + 6, none⟩ = some (.int .i64 (nthD l k).e) ∧ w'.cell? ⟨b, off + k * 12 + 7, none⟩ = some (.slice (nthD l k).ao (nthD l k).len (nthD l k).cap) ∧ w'.cell? ⟨b, off + k * 12 + 8, none⟩ = some (.int .i64 (nthD l k).n) ∧ w'.cell? ⟨b, off + k * 12 + 9, none⟩ = some (.int .u64 (nthD l k).v) ∧ w'.cell? ⟨b, off + k * 12 + 10, none⟩ = some (.int .i64 (nthD l k).fr) ∧ w'.cell? ⟨b, off + k * 12 + 11, none⟩ = some (.int .i64 (nthD l k).to) :=
  ⟨hc w' hb 0 _ rfl, hc w' hb 1 _ rfl, hc w' hb 2 _ rfl, hc w' hb 3 _ rfl, hc w' hb 4 _ rfl, hc w' hb 5 _ rfl, hc w' hb 6 _ rfl, hc w' hb 7 _ rfl, hc w' hb 8 _ rfl, hc w' hb 9 _ rfl, hc w' hb 10 _ rfl, hc w' hb 11 _ rfl⟩

set_option maxHeartbeats 1000000 in
theorem each1_right (d : DoneS) (B : Nat) (w : World) (hB : w.cell? ⟨B, 0, none⟩ = some (.func (.func 33) #[] #[])) (hlt : B < w.heap.size) :
    Calls Try.prog 42 #[(.agg #[.int .i64 d.who, .int .i64 d.place, .int .i64 d.op, .int .i64 d.fl, .int .i64 d.a, .int .i64 d.b, .int .i64 d.e, .slice d.ao d.len d.cap, .int .i64 d.n, .int .u64 d.v, .int .i64 d.fr, .int .i64 d.to]), .pointer (some ⟨B, 0, none⟩)] w fun e w' => e = .returned (.bool (!rightD d)) ∧ Below w.heap.size w w' := by
  go_enter Try.func42, Try.ntmps42
  go_wp2_with fail
  refine (right_any d _).mono ?_
  rintro e w1 ⟨rfl, hb1⟩
  go_wp2
  go_ret
  exact ⟨rfl, below_step (below1 _ _) hb1⟩

set_option maxHeartbeats 1000000 in
theorem ix_right (ao : Option Addr) (n cap : Nat) (l : List DoneS) (B : Nat) (w : World) (h : RdD w ao n cap l) (hB : w.cell? ⟨B, 0, none⟩ = some (.func (.func 33) #[] #[])) (hBl : B < w.heap.size) :
    Calls Try.prog 46 #[.slice ao n cap, .func (.func 42) #[] #[.pointer (some ⟨B, 0, none⟩)]] w fun e w' => (∃ r : Int, e = .returned (.int .i64 r) ∧ (0 ≤ r ↔ l.all rightD = false)) ∧ Below w.heap.size w w' := by
  have L0 := Lib.hid h.len
  have s0 := h.rd.small
  go_enter Try.func46, Try.ntmps46
  go_wp2
  go_loopw [8] (fun i wr => ∃ k : Nat, k ≤ n ∧ i = .int .i64 k ∧ (∀ j : Nat, j < k → rightD (nthD l j) = true) ∧ Below w.heap.size w wr) (fun i _ => n - (intOf i).toNat)
  case atStart => exact ⟨0, Nat.zero_le _, rfl, fun j hj => absurd hj (Nat.not_lt_zero _), Below.refl _ _⟩
  case round =>
    obtain ⟨k, hk, rfl, heq, hbr⟩ := hrel
    have HQ := Lib.hid heq
    clear heq
    by_cases hl : k < n
    · obtain ⟨b, o, rfl, hlt, hc⟩ := h.cells hl
      obtain ⟨c0, c1, c2, c3, c4, c5, c6, c7, c8, c9, c10, c11⟩ := RdD.at12 (ao := none) (n := 0) (cap := 0) hc hbr
      have hBr := (hbr.cell (p := ⟨B, 0, none⟩) hBl).trans hB
      have hBs : B < wr.heap.size := Nat.lt_of_lt_of_le hBl hbr.size
      go_wp2_with fail
      refine (each1_right (nthD l k) B _ hBr hBs).mono ?_
      rintro e w' ⟨rfl, hb'⟩
      cases r : rightD (nthD l k)
      · have E : Hid (l.all rightD = false) := all_failD (k := k) (by rw [L0.out]; exact hl) r
        go_wp2
        go_ret
        exact ⟨⟨k, rfl, by simp [E.out]⟩, hbr.trans (hb'.mono hbr.size)⟩
      · have R := Lib.hid r
        clear r
        go_wp2
        go_roundw
        case rel => exact ⟨k + 1, by omega, by go_num, fun j hj => by
          by_cases hjk : j = k
          · subst hjk; exact R.out
          · exact HQ.out j (by omega), hbr.trans (hb'.mono hbr.size)⟩
        case measure => simp [intOf]; omega
    · have E : Hid (l.all rightD = true) := all_frontD l fun j hj => HQ.out j (by rw [L0.out] at hj; omega)
      go_wp2
      go_ret
      exact ⟨⟨-1, rfl, by simp [E.out]⟩, hbr⟩

set_option maxHeartbeats 1000000 in
theorem each_right (ao : Option Addr) (n cap : Nat) (l : List DoneS) (w : World) (h : RdD w ao n cap l) :
    Calls Try.prog 32 #[.slice ao n cap, .func (.func 33) #[] #[]] w fun e w' => e = .returned (.bool (l.all rightD)) ∧ Below w.heap.size w w' := by
  have hmf : ∀ (fn : Fn) (first cap : Array Value) (w : World), (Instr.makeFunc fn first cap).run Try.prog w = .ok (.func fn first cap) w := fun _ _ _ _ => rfl
  have hx : ∀ w : World, RdD w ao n cap l → ∀ B, w.cell? ⟨B, 0, none⟩ = some (.func (.func 33) #[] #[]) → B < w.heap.size → Calls Try.prog 41 #[.slice ao n cap, .func (.func 42) #[] #[.pointer (some ⟨B, 0, none⟩)]] w fun e w' => e = .returned (.bool (!l.all rightD)) ∧ Below w.heap.size w w' := by
    intro w h B hB hBl
    go_enter Try.func41, Try.ntmps41
    go_wp2_with fail
    refine (ix_right ao n cap l B _ h hB hBl).mono ?_
    rintro e w' ⟨⟨r, rfl, hr⟩, hb⟩
    cases hv : l.all rightD
    · have h0 : (0 : Int) ≤ r := hr.2 hv
      go_wp2
      go_ret
      exact ⟨by rw [hv]; rfl, hb⟩
    · have h0 : ¬ (0 : Int) ≤ r := fun h => by rw [hr.1 h] at hv; cases hv
      have h1 : r < 0 := by omega
      go_wp2
      go_ret
      exact ⟨by rw [hv]; rfl, hb⟩
  go_enter Try.func32, Try.ntmps32
  go_wp2_with fail
  refine (hx _ (h.below (below1 _ _)) _ (by simp [go_sem]) (by simp)).mono ?_
  rintro e w' ⟨rfl, hb⟩
  cases hv : l.all rightD
  all_goals
    go_wp2
    go_ret
    exact ⟨by rw [hv]; rfl, below_step (below1 _ _) hb⟩
set_option maxHeartbeats 1000000 in
theorem each1_ended (d : DoneS) (B : Nat) (w : World) (hB : w.cell? ⟨B, 0, none⟩ = some (.func (.func 36) #[] #[])) (hlt : B < w.heap.size) :
    Calls Try.prog 42 #[(.agg #[.int .i64 d.who, .int .i64 d.place, .int .i64 d.op, .int .i64 d.fl, .int .i64 d.a, .int .i64 d.b, .int .i64 d.e, .slice d.ao d.len d.cap, .int .i64 d.n, .int .u64 d.v, .int .i64 d.fr, .int .i64 d.to]), .pointer (some ⟨B, 0, none⟩)] w fun e w' => e = .returned (.bool (!endedB d)) ∧ Below w.heap.size w w' := by
  go_enter Try.func42, Try.ntmps42
  go_wp2_with fail
  refine (ended_any d _).mono ?_
  rintro e w1 ⟨rfl, hb1⟩
  go_wp2
  go_ret
  exact ⟨rfl, below_step (below1 _ _) hb1⟩

set_option maxHeartbeats 1000000 in
theorem ix_ended (ao : Option Addr) (n cap : Nat) (l : List DoneS) (B : Nat) (w : World) (h : RdD w ao n cap l) (hB : w.cell? ⟨B, 0, none⟩ = some (.func (.func 36) #[] #[])) (hBl : B < w.heap.size) :
    Calls Try.prog 46 #[.slice ao n cap, .func (.func 42) #[] #[.pointer (some ⟨B, 0, none⟩)]] w fun e w' => (∃ r : Int, e = .returned (.int .i64 r) ∧ (0 ≤ r ↔ l.all endedB = false)) ∧ Below w.heap.size w w' := by
  have L0 := Lib.hid h.len
  have s0 := h.rd.small
  go_enter Try.func46, Try.ntmps46
  go_wp2
  go_loopw [8] (fun i wr => ∃ k : Nat, k ≤ n ∧ i = .int .i64 k ∧ (∀ j : Nat, j < k → endedB (nthD l j) = true) ∧ Below w.heap.size w wr) (fun i _ => n - (intOf i).toNat)
  case atStart => exact ⟨0, Nat.zero_le _, rfl, fun j hj => absurd hj (Nat.not_lt_zero _), Below.refl _ _⟩
  case round =>
    obtain ⟨k, hk, rfl, heq, hbr⟩ := hrel
    have HQ := Lib.hid heq
    clear heq
    by_cases hl : k < n
    · obtain ⟨b, o, rfl, hlt, hc⟩ := h.cells hl
      obtain ⟨c0, c1, c2, c3, c4, c5, c6, c7, c8, c9, c10, c11⟩ := RdD.at12 (ao := none) (n := 0) (cap := 0) hc hbr
      have hBr := (hbr.cell (p := ⟨B, 0, none⟩) hBl).trans hB
      have hBs : B < wr.heap.size := Nat.lt_of_lt_of_le hBl hbr.size
      go_wp2_with fail
      refine (each1_ended (nthD l k) B _ hBr hBs).mono ?_
      rintro e w' ⟨rfl, hb'⟩
      cases r : endedB (nthD l k)
      · have E : Hid (l.all endedB = false) := all_failD (k := k) (by rw [L0.out]; exact hl) r
        go_wp2
        go_ret
        exact ⟨⟨k, rfl, by simp [E.out]⟩, hbr.trans (hb'.mono hbr.size)⟩
      · have R := Lib.hid r
        clear r
        go_wp2
        go_roundw
        case rel => exact ⟨k + 1, by omega, by go_num, fun j hj => by
          by_cases hjk : j = k
          · subst hjk; exact R.out
          · exact HQ.out j (by omega), hbr.trans (hb'.mono hbr.size)⟩
        case measure => simp [intOf]; omega
    · have E : Hid (l.all endedB = true) := all_frontD l fun j hj => HQ.out j (by rw [L0.out] at hj; omega)
      go_wp2
      go_ret
      exact ⟨⟨-1, rfl, by simp [E.out]⟩, hbr⟩

set_option maxHeartbeats 1000000 in
theorem each_ended (ao : Option Addr) (n cap : Nat) (l : List DoneS) (w : World) (h : RdD w ao n cap l) :
    Calls Try.prog 32 #[.slice ao n cap, .func (.func 36) #[] #[]] w fun e w' => e = .returned (.bool (l.all endedB)) ∧ Below w.heap.size w w' := by
  have hmf : ∀ (fn : Fn) (first cap : Array Value) (w : World), (Instr.makeFunc fn first cap).run Try.prog w = .ok (.func fn first cap) w := fun _ _ _ _ => rfl
  have hx : ∀ w : World, RdD w ao n cap l → ∀ B, w.cell? ⟨B, 0, none⟩ = some (.func (.func 36) #[] #[]) → B < w.heap.size → Calls Try.prog 41 #[.slice ao n cap, .func (.func 42) #[] #[.pointer (some ⟨B, 0, none⟩)]] w fun e w' => e = .returned (.bool (!l.all endedB)) ∧ Below w.heap.size w w' := by
    intro w h B hB hBl
    go_enter Try.func41, Try.ntmps41
    go_wp2_with fail
    refine (ix_ended ao n cap l B _ h hB hBl).mono ?_
    rintro e w' ⟨⟨r, rfl, hr⟩, hb⟩
    cases hv : l.all endedB
    · have h0 : (0 : Int) ≤ r := hr.2 hv
      go_wp2
      go_ret
      exact ⟨by rw [hv]; rfl, hb⟩
    · have h0 : ¬ (0 : Int) ≤ r := fun h => by rw [hr.1 h] at hv; cases hv
      have h1 : r < 0 := by omega
      go_wp2
      go_ret
      exact ⟨by rw [hv]; rfl, hb⟩
  go_enter Try.func32, Try.ntmps32
  go_wp2_with fail
  refine (hx _ (h.below (below1 _ _)) _ (by simp [go_sem]) (by simp)).mono ?_
  rintro e w' ⟨rfl, hb⟩
  cases hv : l.all endedB
  all_goals
    go_wp2
    go_ret
    exact ⟨by rw [hv]; rfl, below_step (below1 _ _) hb⟩

set_option maxHeartbeats 400000 in
theorem histEnded_any (ao : Option Addr) (n cap : Nat) (l : List DoneS) (w : World) (h : RdD w ao n cap l) :
    Calls Try.prog 14 #[.slice ao n cap] w fun e w' => e = .returned (.bool (l.all endedB)) ∧ Below w.heap.size w w' := by
  go_enter Try.func14, Try.ntmps14
  go_wp2_with fail
  refine (each_ended ao n cap l _ h).mono ?_
  rintro e w' ⟨rfl, hb⟩
  go_wp2
  go_ret
  exact ⟨rfl, hb⟩
end Go.Proofs.Ytonldjkmbapjeaa
