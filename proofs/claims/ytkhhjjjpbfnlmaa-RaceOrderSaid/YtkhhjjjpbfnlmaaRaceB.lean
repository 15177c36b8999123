/- Which event is before which. -/
import Derived.Test.YtkhhjjjpbfnlmaaRaceF
namespace Go.Proofs.Ytkhhjjjpbfnlmaa
set_option linter.unusedVariables false
set_option linter.unusedSimpArgs false
open Go.RowKit Go.Proofs.YtkhhjjjpbfnlmaaMem Go.Proofs.YtkhhjjjpbfnlmaaFlat Go.Proofs.YtkhhjjjpbfnlmaaMapK

def beforeB (l : List EvS) (i j : Int) : Bool :=
  decide (0 ≤ i) && (decide (0 ≤ j) && (decide (i < (allC l).length) && (decide (j < (allC l).length) && (decide (i ≠ j) && leqC (nthC (allC l) i.toNat) (nthC (allC l) j.toNat)))))
theorem RdC.held {W w' : World} {ao : Option Addr} {n cap : Nat} {cs : List (List Int)} (h : RdC W ao n cap cs) (hs : Below W.heap.size W w' ∧ (∀ b o, b < W.heap.size → w'.cell? ⟨b, o, none⟩ = W.cell? ⟨b, o, none⟩)) : RdC w' ao n cap cs := h.below hs.1

set_option maxHeartbeats 1000000 in
theorem before_any (ao : Option Addr) (n cap : Nat) (l : List EvS) (i j : Int) (w : World) (h : RdE w ao n cap l) (hn : n ≤ 1000) :
    Calls Try.prog 24 #[.slice ao n cap, .int .i64 i, .int .i64 j] w fun e w' => e = .returned (.bool (beforeB l i j)) ∧ Below w.heap.size w w' := by
  have hfit := allC_fits l (by rw [h.len]; exact hn)
  have h64 := Lib.hid (allC_64 l)
  obtain ⟨m, hm⟩ : ∃ m, m = (allC l).length := ⟨_, rfl⟩
  have HM := Lib.hid hm
  rcases (show (¬ 0 ≤ i) ∨ (0 ≤ i ∧ ¬ 0 ≤ j) ∨ (0 ≤ i ∧ 0 ≤ j ∧ ¬ i < (m : Int)) ∨ (0 ≤ i ∧ 0 ≤ j ∧ i < (m : Int) ∧ ¬ j < (m : Int)) ∨ (0 ≤ i ∧ 0 ≤ j ∧ i < (m : Int) ∧ j < (m : Int) ∧ i = j) ∨ (0 ≤ i ∧ 0 ≤ j ∧ i < (m : Int) ∧ j < (m : Int) ∧ i ≠ j) by omega) with t1 | ⟨t1, t2⟩ | ⟨t1, t2, t3⟩ | ⟨t1, t2, t3, t4⟩ | ⟨t1, t2, t3, t4, t5⟩ | ⟨t1, t2, t3, t4, t5⟩
  iterate 4
    · try have d1 : decide (0 ≤ i) = true := decide_eq_true t1
      try have d1 : decide (0 ≤ i) = false := decide_eq_false t1
      try have d2 : decide (0 ≤ j) = true := decide_eq_true t2
      try have d2 : decide (0 ≤ j) = false := decide_eq_false t2
      try have d3 : decide (i < (m : Int)) = true := decide_eq_true t3
      try have d3 : decide (i < (m : Int)) = false := decide_eq_false t3
      try have d4 : decide (j < (m : Int)) = false := decide_eq_false t4
      have E : Hid (beforeB l i j = false) := by unfold Hid beforeB; rw [← hm]; simp; omega
      clear hm
      go_enter Try.func24, Try.ntmps24
      go_wp2_with fail
      refine (clocks_any ao n cap l _ h hn).mono ?_
      rintro e W ⟨v, rfl, hown, hbW⟩
      obtain ⟨ao', cap', rfl⟩ := hown.slice
      rw [← HM.out] at hown ⊢
      go_wp2_with fail
      go_region
      go_wp2
      go_ret
      exact ⟨by rw [E.out]; rfl, hbW.drew⟩
  · have E : Hid (beforeB l i j = false) := by unfold Hid beforeB; rw [← hm]; simp [t5]
    have e5 : (i != j) = false := by simp [t5]
    have d1 : decide (0 ≤ i) = true := decide_eq_true t1
    have d2 : decide (0 ≤ j) = true := decide_eq_true t2
    have d3 : decide (i < (m : Int)) = true := decide_eq_true t3
    have d4 : decide (j < (m : Int)) = true := decide_eq_true t4
    clear hm t5
    go_enter Try.func24, Try.ntmps24
    go_wp2_with fail
    refine (clocks_any ao n cap l _ h hn).mono ?_
    rintro e W ⟨v, rfl, hown, hbW⟩
    obtain ⟨ao', cap', rfl⟩ := hown.slice
    rw [← HM.out] at hown ⊢
    go_wp2_with fail
    go_region
    go_wp2
    go_ret
    exact ⟨by rw [E.out]; rfl, hbW.drew⟩
  · have e5 : (i != j) = true := by simpa using t5
    obtain ⟨p, rfl⟩ := Int.eq_ofNat_of_zero_le t1
    obtain ⟨q, rfl⟩ := Int.eq_ofNat_of_zero_le t2
    have E : Hid (beforeB l p q = leqC (nthC (allC l) p) (nthC (allC l) q)) := by
      unfold Hid beforeB; rw [← hm]; simp at t3 t4 t5 ⊢; simp [t3, t4, t5]
    have d1 : decide (0 ≤ (p : Int)) = true := decide_eq_true t1
    have d2 : decide (0 ≤ (q : Int)) = true := decide_eq_true t2
    have d3 : decide ((p : Int) < (m : Int)) = true := decide_eq_true t3
    have d4 : decide ((q : Int) < (m : Int)) = true := decide_eq_true t4
    clear hm
    go_enter Try.func24, Try.ntmps24
    go_wp2_with fail
    refine (clocks_any ao n cap l _ h hn).mono ?_
    rintro e W ⟨v, rfl, hown, hbW⟩
    obtain ⟨ao', cap', rfl⟩ := hown.slice
    have rd := hown.rd hfit
    rw [← HM.out] at rd hown ⊢
    obtain ⟨g, off, a1, c1, rfl, hlt, hc1, hr1⟩ := rd.at_ p (by omega)
    obtain ⟨g', off', a2, c2, e', _, hc2, hr2⟩ := rd.at_ q (by omega)
    simp only [Option.some.injEq, Addr.mk.injEq, and_true] at e'
    obtain ⟨rfl, rfl⟩ := e'
    have l1 := nthC_length h64.out p
    have l2 := nthC_length h64.out q
    cases r : leqC (nthC (allC l) p) (nthC (allC l) q)
    all_goals
      have R := Lib.hid r
      go_wp2_with fail
      go_region_held3 (fun w' => Below W.heap.size W w' ∧ (∀ b o, b < W.heap.size → w'.cell? ⟨b, o, none⟩ = W.cell? ⟨b, o, none⟩)) (first | exact hs_refl ((Below.refl _ _).drew) | exact hs_step (by assumption) (by assumption))
        (first | (go_at_call 31; (with_reducible refine (leq_any a1 a2 _ c1 _ c2 _ _ _ (hr1.held (by assumption)) (hr2.held (by assumption)) (by omega) (by omega)).mono ?_); rw [r]; rintro e w' ⟨rfl, hb'⟩))
      go_wp2
      go_ret
      exact ⟨by rw [E.out, R.out]; rfl, below_step hbW (‹Below W.heap.size W _ ∧ _›).1⟩
end Go.Proofs.Ytkhhjjjpbfnlmaa
