/- The laws on clocks: each answers true at every input. -/
import Derived.Test.YtocpanhhbjhklaaClkN
import Derived.Test.YtocpanhhbjhklaaFlatI
namespace Go.Proofs.Ytocpanhhbjhklaa
set_option linter.unusedVariables false
set_option linter.unusedSimpArgs false
open Go.RowKit Go.Proofs.YtocpanhhbjhklaaMem Go.Proofs.YtocpanhhbjhklaaFlat

theorem nth_I64 {zs : List Int} (h : ∀ z ∈ zs, I64 z) (k : Nat) : I64 (nth zs k) := by
  by_cases hk : k < zs.length
  · rw [nth_eq hk]; exact h _ (List.getElem_mem hk)
  · have : nth zs k = 0 := by simp [nth, List.getD_eq_getElem?_getD, List.getElem?_eq_none (show zs.length ≤ k by omega)]
    rw [this]; decide
theorem atC_I64 {zs : List Int} (h : ∀ z ∈ zs, I64 z) (i : Int) : I64 (atC zs i) := by
  unfold atC; split
  · exact nth_I64 h _
  · decide
theorem near_fits {zs : List Int} (h : ∀ z ∈ zs, I64 z) : ∀ z ∈ nearC zs, I64 z := by
  intro z hz
  simp only [nearC, nearL, List.mem_map] at hz
  obtain ⟨j, _, rfl⟩ := hz
  exact nearV_fits (nth_I64 h j)
theorem join_fits {x y : List Int} (h : ∀ z ∈ x, I64 z) (h' : ∀ z ∈ y, I64 z) : ∀ z ∈ joinC x y, I64 z := by
  intro z hz
  simp only [joinC, row, List.mem_map] at hz
  obtain ⟨j, _, rfl⟩ := hz
  have := atC_I64 h j
  have := atC_I64 h' j
  unfold more I64 at *; omega
theorem wrap64_I64 (z : Int) : I64 (wrap64 z) := by unfold wrap64 I64; omega
theorem tick_fits {x : List Int} (h : ∀ z ∈ x, I64 z) (i : Int) : ∀ z ∈ tickC x i, I64 z := by
  intro z hz
  unfold tickC at hz
  split at hz
  · rcases List.mem_or_eq_of_mem_set hz with hz | rfl
    · simp only [padC, List.mem_append, List.mem_replicate] at hz
      rcases hz with hz | ⟨_, rfl⟩
      · exact h z hz
      · decide
    · exact wrap64_I64 _
  · exact h z hz
theorem eqI_all : ∀ x : List Int, eqI x x = true := eqI_same

set_option maxHeartbeats 1000000 in
theorem ClockAll_any (w : World) (a0 : Option Addr) (n0 c0 : Nat) (L0 : List (List Value)) (h0 : IsRows w [.int .i64] a0 n0 c0 L0) (a1 : Option Addr) (n1 c1 : Nat) (L1 : List (List Value)) (h1 : IsRows w [.int .i64] a1 n1 c1 L1) (i : Int) (hi : (Lit.int .i64 i).wf = true) :
    Calls Try.prog 3 #[.slice a0 n0 c0, .slice a1 n1 c1, .int .i64 i] w fun e w' => e = .returned (.bool true) ∧ Below w.heap.size w w' := by
  obtain ⟨x, r0⟩ := isRows_rdI h0
  obtain ⟨y, r1⟩ := isRows_rdI h1
  have FA := Lib.hid (near_fits r0.fits)
  have FB := Lib.hid (near_fits r1.fits)
  have hm := modZ_bd i (n := 68) (by omega)
  have h5 := modZ_bd i (n := 5) (by omega)
  have hq := eqI_all
  have hcase : (0 < modZ i 5) ∨ (modZ i 5 ≤ 0) := by omega
  rcases hcase with hc | hc
  · go_enter Try.func3, Try.ntmps3
    have B0 := Below.refl w.heap.size w
    go_wp2_with fail
    refine (near_any a0 n0 c0 x _ r0).mono ?_
    rintro e w1 ⟨v, rfl, hown, hb⟩
    have B1 := below_step B0 hb
    clear B0
    replace r0 := RdI.below (B := 0) r0 hb
    replace r1 := RdI.below (B := 0) r1 hb
    clear hb
    obtain ⟨ara, cra, rfl⟩ := owns_slice hown
    have ra := owns_rdI hown FA.out
    clear hown
    go_wp2_with fail
    refine (near_any a1 n1 c1 y _ r1).mono ?_
    rintro e w2 ⟨v, rfl, hown, hb⟩
    have B2 := below_step B1 hb
    clear B1
    replace r0 := RdI.below (B := 0) r0 hb
    replace r1 := RdI.below (B := 0) r1 hb
    replace ra := RdI.below (B := 0) ra hb
    clear hb
    obtain ⟨arb, crb, rfl⟩ := owns_slice hown
    have rb := owns_rdI hown FB.out
    clear hown
    clear r0 r1
    go_wp2_with fail
    refine (mod_any _ _ (by omega) (by omega) _).mono ?_
    rintro e w' ⟨rfl, rfl⟩
    go_wp2_with fail
    refine (mod_any _ _ (by omega) (by omega) _).mono ?_
    rintro e w' ⟨rfl, rfl⟩
    go_wp2_with fail
    refine (awake_any _).mono ?_
    rintro e w3 ⟨rfl, hb⟩
    have B3 := below_step B2 hb
    clear B2
    replace ra := RdI.below (B := 0) ra hb
    replace rb := RdI.below (B := 0) rb hb
    clear hb
    go_wp2_with fail
    refine (at_any _ _ _ _ (modZ i 68 - 2) _ ra).mono ?_
    rintro e w' ⟨rfl, rfl⟩
    go_wp2_with fail
    refine (refAt_any _ _ _ _ (modZ i 68 - 2) _ ra).mono ?_
    rintro e w' ⟨rfl, rfl⟩
    go_wp2_with fail
    refine (tick_any _ _ _ _ (modZ i 68 - 2) _ ra (by omega)).mono ?_
    rintro e w4 ⟨v, rfl, hown, hb⟩
    have B4 := below_step B3 hb
    clear B3
    replace ra := RdI.below (B := 0) ra hb
    replace rb := RdI.below (B := 0) rb hb
    clear hb
    obtain ⟨art, crt, rfl⟩ := owns_slice hown
    have rt := owns_rdI hown (tick_fits FA.out _)
    clear hown
    go_wp2_with fail
    refine (refTick_any _ _ _ _ (modZ i 68 - 2) _ ra (by omega)).mono ?_
    rintro e w5 ⟨v, rfl, hown, hb⟩
    have B5 := below_step B4 hb
    clear B4
    replace ra := RdI.below (B := 0) ra hb
    replace rb := RdI.below (B := 0) rb hb
    replace rt := RdI.below (B := 0) rt hb
    clear hb
    obtain ⟨ars, crs, rfl⟩ := owns_slice hown
    have rs := owns_rdI hown (tick_fits FA.out _)
    clear hown
    go_wp2_with fail
    refine (plainI_any _ _ _ _ _ _ _ _ _ rt rs).mono ?_
    rintro e w6 ⟨rfl, hb⟩
    have B6 := below_step B5 hb
    clear B5
    replace ra := RdI.below (B := 0) ra hb
    replace rb := RdI.below (B := 0) rb hb
    replace rt := RdI.below (B := 0) rt hb
    replace rs := RdI.below (B := 0) rs hb
    clear hb
    clear rt rs
    go_wp2_with fail
    refine (join_any _ _ _ _ _ _ _ _ _ ra rb (by omega) (by omega)).mono ?_
    rintro e w7 ⟨v, rfl, hown, hb⟩
    have B7 := below_step B6 hb
    clear B6
    replace ra := RdI.below (B := 0) ra hb
    replace rb := RdI.below (B := 0) rb hb
    clear hb
    obtain ⟨art, crt, rfl⟩ := owns_slice hown
    have rt := owns_rdI hown (join_fits FA.out FB.out)
    clear hown
    go_wp2_with fail
    refine (refJoin_any _ _ _ _ _ _ _ _ _ ra rb (by omega) (by omega)).mono ?_
    rintro e w8 ⟨v, rfl, hown, hb⟩
    have B8 := below_step B7 hb
    clear B7
    replace ra := RdI.below (B := 0) ra hb
    replace rb := RdI.below (B := 0) rb hb
    replace rt := RdI.below (B := 0) rt hb
    clear hb
    obtain ⟨ars, crs, rfl⟩ := owns_slice hown
    have rs := owns_rdI hown (join_fits FA.out FB.out)
    clear hown
    go_wp2_with fail
    refine (plainI_any _ _ _ _ _ _ _ _ _ rt rs).mono ?_
    rintro e w9 ⟨rfl, hb⟩
    have B9 := below_step B8 hb
    clear B8
    replace ra := RdI.below (B := 0) ra hb
    replace rb := RdI.below (B := 0) rb hb
    replace rt := RdI.below (B := 0) rt hb
    replace rs := RdI.below (B := 0) rs hb
    clear hb
    clear rt rs
    go_wp2_with fail
    refine (leq_any _ _ _ _ _ _ _ _ _ ra rb (by omega) (by omega)).mono ?_
    rintro e w10 ⟨rfl, hb⟩
    have B10 := below_step B9 hb
    clear B9
    replace ra := RdI.below (B := 0) ra hb
    replace rb := RdI.below (B := 0) rb hb
    clear hb
    go_wp2_with fail
    refine (refLeq_any _ _ _ _ _ _ _ _ _ ra rb).mono ?_
    rintro e w' ⟨rfl, rfl⟩
    go_wp2_with fail
    refine (cmp_any _ _ _ _ _ _ _ _ _ ra rb (by omega) (by omega)).mono ?_
    rintro e w11 ⟨rfl, hb⟩
    have B11 := below_step B10 hb
    clear B10
    replace ra := RdI.below (B := 0) ra hb
    replace rb := RdI.below (B := 0) rb hb
    clear hb
    go_wp2_with fail
    refine (refCmp_any _ _ _ _ _ _ _ _ _ ra rb).mono ?_
    rintro e w' ⟨rfl, rfl⟩
    go_wp2
    go_ret
    exact ⟨rfl, B11⟩
  · go_enter Try.func3, Try.ntmps3
    have B0 := Below.refl w.heap.size w
    go_wp2_with fail
    refine (near_any a0 n0 c0 x _ r0).mono ?_
    rintro e w1 ⟨v, rfl, hown, hb⟩
    have B1 := below_step B0 hb
    clear B0
    replace r0 := RdI.below (B := 0) r0 hb
    replace r1 := RdI.below (B := 0) r1 hb
    clear hb
    obtain ⟨ara, cra, rfl⟩ := owns_slice hown
    have ra := owns_rdI hown FA.out
    clear hown
    go_wp2_with fail
    refine (near_any a1 n1 c1 y _ r1).mono ?_
    rintro e w2 ⟨v, rfl, hown, hb⟩
    have B2 := below_step B1 hb
    clear B1
    replace r0 := RdI.below (B := 0) r0 hb
    replace r1 := RdI.below (B := 0) r1 hb
    replace ra := RdI.below (B := 0) ra hb
    clear hb
    obtain ⟨arb, crb, rfl⟩ := owns_slice hown
    have rb := owns_rdI hown FB.out
    clear hown
    clear r0 r1
    go_wp2_with fail
    refine (mod_any _ _ (by omega) (by omega) _).mono ?_
    rintro e w' ⟨rfl, rfl⟩
    go_wp2_with fail
    refine (awake_any _).mono ?_
    rintro e w3 ⟨rfl, hb⟩
    have B3 := below_step B2 hb
    clear B2
    replace ra := RdI.below (B := 0) ra hb
    replace rb := RdI.below (B := 0) rb hb
    clear hb
    go_wp2_with fail
    refine (at_any _ _ _ _ i _ ra).mono ?_
    rintro e w' ⟨rfl, rfl⟩
    go_wp2_with fail
    refine (refAt_any _ _ _ _ i _ ra).mono ?_
    rintro e w' ⟨rfl, rfl⟩
    go_wp2_with fail
    refine (tick_any _ _ _ _ i _ ra (by omega)).mono ?_
    rintro e w4 ⟨v, rfl, hown, hb⟩
    have B4 := below_step B3 hb
    clear B3
    replace ra := RdI.below (B := 0) ra hb
    replace rb := RdI.below (B := 0) rb hb
    clear hb
    obtain ⟨art, crt, rfl⟩ := owns_slice hown
    have rt := owns_rdI hown (tick_fits FA.out _)
    clear hown
    go_wp2_with fail
    refine (refTick_any _ _ _ _ i _ ra (by omega)).mono ?_
    rintro e w5 ⟨v, rfl, hown, hb⟩
    have B5 := below_step B4 hb
    clear B4
    replace ra := RdI.below (B := 0) ra hb
    replace rb := RdI.below (B := 0) rb hb
    replace rt := RdI.below (B := 0) rt hb
    clear hb
    obtain ⟨ars, crs, rfl⟩ := owns_slice hown
    have rs := owns_rdI hown (tick_fits FA.out _)
    clear hown
    go_wp2_with fail
    refine (plainI_any _ _ _ _ _ _ _ _ _ rt rs).mono ?_
    rintro e w6 ⟨rfl, hb⟩
    have B6 := below_step B5 hb
    clear B5
    replace ra := RdI.below (B := 0) ra hb
    replace rb := RdI.below (B := 0) rb hb
    replace rt := RdI.below (B := 0) rt hb
    replace rs := RdI.below (B := 0) rs hb
    clear hb
    clear rt rs
    go_wp2_with fail
    refine (join_any _ _ _ _ _ _ _ _ _ ra rb (by omega) (by omega)).mono ?_
    rintro e w7 ⟨v, rfl, hown, hb⟩
    have B7 := below_step B6 hb
    clear B6
    replace ra := RdI.below (B := 0) ra hb
    replace rb := RdI.below (B := 0) rb hb
    clear hb
    obtain ⟨art, crt, rfl⟩ := owns_slice hown
    have rt := owns_rdI hown (join_fits FA.out FB.out)
    clear hown
    go_wp2_with fail
    refine (refJoin_any _ _ _ _ _ _ _ _ _ ra rb (by omega) (by omega)).mono ?_
    rintro e w8 ⟨v, rfl, hown, hb⟩
    have B8 := below_step B7 hb
    clear B7
    replace ra := RdI.below (B := 0) ra hb
    replace rb := RdI.below (B := 0) rb hb
    replace rt := RdI.below (B := 0) rt hb
    clear hb
    obtain ⟨ars, crs, rfl⟩ := owns_slice hown
    have rs := owns_rdI hown (join_fits FA.out FB.out)
    clear hown
    go_wp2_with fail
    refine (plainI_any _ _ _ _ _ _ _ _ _ rt rs).mono ?_
    rintro e w9 ⟨rfl, hb⟩
    have B9 := below_step B8 hb
    clear B8
    replace ra := RdI.below (B := 0) ra hb
    replace rb := RdI.below (B := 0) rb hb
    replace rt := RdI.below (B := 0) rt hb
    replace rs := RdI.below (B := 0) rs hb
    clear hb
    clear rt rs
    go_wp2_with fail
    refine (leq_any _ _ _ _ _ _ _ _ _ ra rb (by omega) (by omega)).mono ?_
    rintro e w10 ⟨rfl, hb⟩
    have B10 := below_step B9 hb
    clear B9
    replace ra := RdI.below (B := 0) ra hb
    replace rb := RdI.below (B := 0) rb hb
    clear hb
    go_wp2_with fail
    refine (refLeq_any _ _ _ _ _ _ _ _ _ ra rb).mono ?_
    rintro e w' ⟨rfl, rfl⟩
    go_wp2_with fail
    refine (cmp_any _ _ _ _ _ _ _ _ _ ra rb (by omega) (by omega)).mono ?_
    rintro e w11 ⟨rfl, hb⟩
    have B11 := below_step B10 hb
    clear B10
    replace ra := RdI.below (B := 0) ra hb
    replace rb := RdI.below (B := 0) rb hb
    clear hb
    go_wp2_with fail
    refine (refCmp_any _ _ _ _ _ _ _ _ _ ra rb).mono ?_
    rintro e w' ⟨rfl, rfl⟩
    go_wp2
    go_ret
    exact ⟨rfl, B11⟩

end Go.Proofs.Ytocpanhhbjhklaa
