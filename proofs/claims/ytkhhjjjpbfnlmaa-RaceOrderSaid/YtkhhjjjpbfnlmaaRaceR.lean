/- The reference on events: whether they may be; the last own one; the last one told. -/
import Derived.Test.YtkhhjjjpbfnlmaaRaceS
import Derived.Test.YtkhhjjjpbfnlmaaRaceC
namespace Go.Proofs.Ytkhhjjjpbfnlmaa
set_option linter.unusedVariables false
set_option linter.unusedSimpArgs false
open Go.RowKit Go.Proofs.YtkhhjjjpbfnlmaaMem Go.Proofs.YtkhhjjjpbfnlmaaFlat

def optI : Option Nat → Int
  | some k => k
  | none => -1

theorem all_front (l : List EvS) : (∀ k, k < l.length → rightE (nthE l k) = true) → rightB l = true := by
  intro h
  unfold rightB
  rw [List.all_eq_true]
  intro e he
  obtain ⟨k, hk, rfl⟩ := List.mem_iff_getElem.1 he
  rw [← nthE_eq hk]; exact h k hk
theorem right_fail {l : List EvS} {k : Nat} (hk : k < l.length) (h : rightE (nthE l k) = false) : rightB l = false := by
  rw [← Bool.not_eq_true]
  intro hr
  have := List.all_eq_true.1 hr _ (List.getElem_mem hk)
  rw [nthE_eq hk] at h
  rw [h] at this; cases this

set_option maxHeartbeats 1000000 in
theorem refRight_any (ao : Option Addr) (n cap : Nat) (l : List EvS) (w : World) (h : RdE w ao n cap l) :
    Calls Try.prog 16 #[.slice ao n cap] w fun e w' => e = .returned (.bool (rightB l)) ∧ Below w.heap.size w w' := by
  have L0 := Lib.hid h.len
  have s0 := h.rd.small
  go_enter Try.func16, Try.ntmps16
  go_wp2
  go_loopw [3] (fun i wr => ∃ k : Nat, k ≤ n ∧ i = .int .i64 k ∧ (∀ j : Nat, j < k → rightE (nthE l j) = true) ∧ Below w.heap.size w wr) (fun i _ => n - (intOf i).toNat)
  case atStart => exact ⟨0, Nat.zero_le _, rfl, fun j hj => absurd hj (Nat.not_lt_zero _), Below.refl _ _⟩
  case round =>
    obtain ⟨k, hk, rfl, heq, hbr⟩ := hrel
    have HQ := Lib.hid heq
    clear heq
    by_cases hl : k < n
    · obtain ⟨b, o, rfl, hlt, hc⟩ := h.cells hl
      obtain ⟨c0, c1, _, _, _⟩ := hc wr hbr
      have F : Hid (rightE (nthE l k) = decide (0 ≤ (nthE l k).who ∧ (nthE l k).who ≤ 63 ∧ 1 ≤ (nthE l k).kind ∧ (nthE l k).kind ≤ 6)) := rfl
      rcases (show (nthE l k).who < 0 ∨ (¬ (nthE l k).who < 0 ∧ 63 < (nthE l k).who) ∨ (¬ (nthE l k).who < 0 ∧ ¬ 63 < (nthE l k).who ∧ (nthE l k).kind < 1) ∨ (¬ (nthE l k).who < 0 ∧ ¬ 63 < (nthE l k).who ∧ ¬ (nthE l k).kind < 1 ∧ 6 < (nthE l k).kind) ∨ (¬ (nthE l k).who < 0 ∧ ¬ 63 < (nthE l k).who ∧ ¬ (nthE l k).kind < 1 ∧ ¬ 6 < (nthE l k).kind) by omega) with t1 | ⟨t1, t2⟩ | ⟨t1, t2, t3⟩ | ⟨t1, t2, t3, t4⟩ | ⟨t1, t2, t3, t4⟩
      iterate 4
        · have E : Hid (rightB l = false) := right_fail (k := k) (by rw [L0.out]; exact hl) (by rw [F.out]; simp; omega)
          go_wp2
          go_ret
          exact ⟨by rw [E.out]; rfl, hbr⟩
      · have E : Hid (rightE (nthE l k) = true) := by unfold Hid; rw [F.out]; simp; omega
        go_wp2
        go_roundw
        case rel => exact ⟨k + 1, by omega, by go_num, fun j hj => by
          by_cases hjk : j = k
          · subst hjk; exact E.out
          · exact HQ.out j (by omega), hbr⟩
        case measure => simp [intOf]; omega
    · have E : Hid (rightB l = true) := all_front l fun j hj => HQ.out j (by rw [L0.out] at hj; omega)
      go_wp2
      go_ret
      exact ⟨by rw [E.out]; rfl, hbr⟩

set_option maxHeartbeats 1000000 in
theorem refOwn_any (ao : Option Addr) (n cap : Nat) (l : List EvS) (i : Nat) (w : World) (h : RdE w ao n cap l) (hi : i < n) :
    Calls Try.prog 42 #[.slice ao n cap, .int .i64 i] w fun e w' => e = .returned (.int .i64 (optI (lastP (ownP l (nthE l i).who) i))) ∧ Below w.heap.size w w' := by
  have s0 := h.rd.small
  obtain ⟨b, o, rfl, hlt, hc⟩ := h.cells hi
  go_enter Try.func42, Try.ntmps42
  go_wp2
  go_loopw [5] (fun v wr => ∃ m : Nat, m ≤ i ∧ v = .int .i64 ((m : Int) - 1) ∧ (∀ j : Nat, m ≤ j → j < i → ownP l (nthE l i).who j = false) ∧ Below w.heap.size w wr) (fun v _ => (intOf v + 1).toNat)
  case atStart => exact ⟨i, Nat.le_refl _, by go_num, fun j h1 h2 => by omega, Below.refl _ _⟩
  case round =>
    obtain ⟨m, hm, rfl, heq, hbr⟩ := hrel
    have HQ := Lib.hid heq
    clear heq
    cases m with
    | zero =>
      have E : Hid (lastP (ownP l (nthE l i).who) i = none) := lastP_none fun j hj => HQ.out j (Nat.zero_le _) hj
      go_wp2
      go_ret
      exact ⟨by rw [E.out]; rfl, hbr⟩
    | succ k =>
      obtain ⟨b', o', e', _, hc'⟩ := h.cells (show k < n by omega)
      simp only [Option.some.injEq, Addr.mk.injEq, and_true] at e'
      obtain ⟨rfl, rfl⟩ := e'
      have ek : ((k + 1 : Nat) : Int) - 1 = k := by omega
      rw [ek]
      obtain ⟨c0, _, _, _, _⟩ := hc wr hbr
      obtain ⟨d0, _, _, _, _⟩ := hc' wr hbr
      by_cases hv : (nthE l k).who = (nthE l i).who
      · have E : Hid (lastP (ownP l (nthE l i).who) i = some k) := lastP_eq (by omega) (by simp [ownP, hv]) fun j h1 h2 => HQ.out j (by omega) h2
        have e1 : ((nthE l k).who == (nthE l i).who) = true := by simpa using hv
        clear hv
        go_wp2
        go_region
        go_wp2
        go_ret
        exact ⟨by rw [E.out]; rfl, hbr.drew⟩
      · have E : Hid (ownP l (nthE l i).who k = false) := by unfold Hid ownP; simp [hv]
        have e1 : ((nthE l k).who == (nthE l i).who) = false := by simpa using hv
        clear hv
        go_wp2
        go_region
        go_wp2
        go_roundw
        case rel => exact ⟨k, by omega, by go_num, fun j h1 h2 => by
          by_cases hjk : j = k
          · subst hjk; exact E.out
          · exact HQ.out j (by omega) h2, hbr.drew⟩
        case measure => simp [intOf]
end Go.Proofs.Ytkhhjjjpbfnlmaa
