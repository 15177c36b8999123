/- The laws on clocks, next: one more. -/
import Derived.Test.YtocpanhhbjhklaaClkLaw2
namespace Go.Proofs.Ytocpanhhbjhklaa
set_option linter.unusedVariables false
set_option linter.unusedSimpArgs false
open Go.RowKit Go.Proofs.YtocpanhhbjhklaaMem Go.Proofs.YtocpanhhbjhklaaFlat

theorem nth_append_zeros (zs : List Int) (m j : Nat) : nth (zs ++ List.replicate m 0) j = nth zs j := by
  simp only [nth, List.getD_eq_getElem?_getD, List.getElem?_append]
  by_cases h : j < zs.length
  · rw [if_pos h]
  · rw [if_neg h, List.getElem?_replicate, List.getElem?_eq_none (show zs.length ≤ j by omega)]
    split <;> rfl
theorem atC_nth (zs : List Int) (j : Nat) : atC zs j = nth zs j := by
  by_cases h : j < zs.length
  · exact atC_lt h
  · rw [atC_ge (by omega)]; simp [nth, List.getD_eq_getElem?_getD, List.getElem?_eq_none (show zs.length ≤ j by omega)]
theorem atC_tick (zs : List Int) (k j : Nat) (hk : k < 64) : atC (tickC zs k) j = if j = k then wrap64 (atC zs k + 1) else atC zs j := by
  have e : tickC zs k = (padC zs k).set k (wrap64 (nth (padC zs k) k + 1)) := by unfold tickC; rw [if_pos (by omega)]; simp
  have hl : k < (padC zs k).length := by unfold padC; simp; omega
  rw [e, atC_nth, atC_nth, atC_nth]
  unfold padC at *
  rw [nth_append_zeros]
  by_cases hj : j = k
  · subst hj
    rw [if_pos rfl]
    simp only [nth, List.getD_eq_getElem?_getD]
    rw [List.getElem?_set_self hl]; rfl
  · rw [if_neg hj]
    have : nth ((zs ++ List.replicate (k + 1 - zs.length) 0).set k (wrap64 (nth zs k + 1))) j = nth (zs ++ List.replicate (k + 1 - zs.length) 0) j := by
      simp only [nth, List.getD_eq_getElem?_getD]
      rw [List.getElem?_set_ne (fun h => hj h.symm)]
    rw [this, nth_append_zeros]
theorem cmp_tick (zs : List Int) (k : Nat) (hk : k < 64) (hf : I64 (atC zs k)) (hlt : atC zs k ≠ 9223372036854775807) : atC (tickC zs k) k = atC zs k + 1 ∧ cmpC zs (tickC zs k) = -1 := by
  have h1 : atC (tickC zs k) k = atC zs k + 1 := by
    rw [atC_tick zs k k hk, if_pos rfl]; unfold wrap64; unfold I64 at hf; omega
  have ha : leqC zs (tickC zs k) = true := (leq_all _ _).2 fun i => by
    by_cases hi : i = k
    · subst hi; rw [h1]; omega
    · rw [atC_tick zs k i hk, if_neg hi]; omega
  have hb : leqC (tickC zs k) zs = false := by
    rw [← Bool.not_eq_true]
    intro h
    have := (leq_all _ _).1 h k
    rw [h1] at this; omega
  exact ⟨h1, by simp [cmpC, ha, hb]⟩

set_option maxHeartbeats 2000000 in
theorem ClockTicks_1 (a0 : Option Addr) (n0 c0 m ι κ : Nat) (i k : Int) (x A : List Int) (w : World) (r0 : RdI w a0 n0 c0 x) (hι : ι < 64) (hκ : κ < 64) (hm : m ≤ 70)
    (hnear : ∀ w, RdI w a0 n0 c0 x → Calls Try.prog 9 #[.slice a0 n0 c0] w (RetRow w 3 1 m (ints A))) (FA : Hid (∀ z ∈ A, I64 z))
    (hmi : Hid (∀ w, Calls Try.prog 10 #[.int .i64 i, .int .i64 64] w fun e w' => e = .returned (.int .i64 ι) ∧ w = w')) (hmk : Hid (∀ w, Calls Try.prog 10 #[.int .i64 k, .int .i64 64] w fun e w' => e = .returned (.int .i64 κ) ∧ w = w'))
    (ht : Hid (∀ w ao cap, RdI w ao m cap A → Calls Try.prog 15 #[.slice ao m cap, .int .i64 ι] w (RetRow w 3 1 (ι + 1) (ints (tickC A ι))))) (hB : m ≤ ι) (hs : ι = κ) (h9 : (atC A ι == 9223372036854775807) = true) :
    Calls Try.prog 6 #[.slice a0 n0 c0, .int .i64 i, .int .i64 k] w fun e w' => e = .returned (.bool true) ∧ Below w.heap.size w w' := by
  have hq0 := eqI_all
  subst hs
  go_enter Try.func6, Try.ntmps6
  have B0 := Below.refl w.heap.size w
  go_wp2_with fail
  refine (hnear _ r0).mono ?_
  rintro e w1 ⟨v, rfl, hown, hb⟩
  have B1 := below_step B0 hb
  clear B0
  replace r0 := RdI.below (B := 0) r0 hb
  clear hb
  obtain ⟨ara, cra, rfl⟩ := owns_slice hown
  have ra := owns_rdI hown FA.out
  clear hown
  clear r0
  go_wp2_with fail
  refine (hmi.out _).mono ?_
  rintro e w' ⟨rfl, rfl⟩
  go_wp2_with fail
  refine (hmk.out _).mono ?_
  rintro e w' ⟨rfl, rfl⟩
  go_wp2_with fail
  refine ((ht.out _ _ _ ra)).mono ?_
  rintro e w2 ⟨v, rfl, hown, hb⟩
  have B2 := below_step B1 hb
  clear B1
  replace ra := RdI.below (B := 0) ra hb
  clear hb
  obtain ⟨art, crt, rfl⟩ := owns_slice hown
  have rt := owns_rdI hown (tick_fits FA.out _)
  clear hown
  go_wp2_with fail
  refine (at_any _ _ _ _ (ι : Int) _ ra).mono ?_
  rintro e w' ⟨rfl, rfl⟩
  go_wp2_with fail
  refine (awake_any _).mono ?_
  rintro e w3 ⟨rfl, hb⟩
  have B3 := below_step B2 hb
  clear B2
  replace ra := RdI.below (B := 0) ra hb
  replace rt := RdI.below (B := 0) rt hb
  clear hb
  go_wp2_with fail
  refine (tick_out _ _ _ _ _ _ ra (by omega) (by omega)).mono ?_
  rintro e w4 ⟨v, rfl, hown, hb⟩
  have B4 := below_step B3 hb
  clear B3
  replace ra := RdI.below (B := 0) ra hb
  replace rt := RdI.below (B := 0) rt hb
  clear hb
  obtain ⟨aru, cru, rfl⟩ := owns_slice hown
  have ru := owns_rdI hown FA.out
  clear hown
  go_wp2_with fail
  refine (plainI_any _ _ _ _ _ _ _ _ _ ru ra).mono ?_
  rintro e w5 ⟨rfl, hb⟩
  have B5 := below_step B4 hb
  clear B4
  replace ra := RdI.below (B := 0) ra hb
  replace rt := RdI.below (B := 0) rt hb
  replace ru := RdI.below (B := 0) ru hb
  clear hb
  clear ru
  go_wp2_with fail
  refine (tick_out _ _ _ _ _ _ ra (by omega) (by omega)).mono ?_
  rintro e w6 ⟨v, rfl, hown, hb⟩
  have B6 := below_step B5 hb
  clear B5
  replace ra := RdI.below (B := 0) ra hb
  replace rt := RdI.below (B := 0) rt hb
  clear hb
  obtain ⟨aru, cru, rfl⟩ := owns_slice hown
  have ru := owns_rdI hown FA.out
  clear hown
  go_wp2_with fail
  refine (plainI_any _ _ _ _ _ _ _ _ _ ru ra).mono ?_
  rintro e w7 ⟨rfl, hb⟩
  have B7 := below_step B6 hb
  clear B6
  replace ra := RdI.below (B := 0) ra hb
  replace rt := RdI.below (B := 0) rt hb
  replace ru := RdI.below (B := 0) ru hb
  clear hb
  clear ru
  go_wp2
  go_ret
  exact ⟨rfl, B7⟩

set_option maxHeartbeats 2000000 in
theorem ClockTicks_2 (a0 : Option Addr) (n0 c0 m ι κ : Nat) (i k : Int) (x A : List Int) (w : World) (r0 : RdI w a0 n0 c0 x) (hι : ι < 64) (hκ : κ < 64) (hm : m ≤ 70)
    (hnear : ∀ w, RdI w a0 n0 c0 x → Calls Try.prog 9 #[.slice a0 n0 c0] w (RetRow w 3 1 m (ints A))) (FA : Hid (∀ z ∈ A, I64 z))
    (hmi : Hid (∀ w, Calls Try.prog 10 #[.int .i64 i, .int .i64 64] w fun e w' => e = .returned (.int .i64 ι) ∧ w = w')) (hmk : Hid (∀ w, Calls Try.prog 10 #[.int .i64 k, .int .i64 64] w fun e w' => e = .returned (.int .i64 κ) ∧ w = w'))
    (ht : Hid (∀ w ao cap, RdI w ao m cap A → Calls Try.prog 15 #[.slice ao m cap, .int .i64 ι] w (RetRow w 3 1 (ι + 1) (ints (tickC A ι))))) (hB : m ≤ ι) (hs : ι = κ) (h9 : (atC A ι == 9223372036854775807) = false) (hq1 : atC (tickC A ι) ι = atC A ι + 1) (hq2 : cmpC A (tickC A ι) = -1) (u1 : -9223372036854775808 ≤ atC A ι) (u2 : atC A ι ≤ 9223372036854775806) :
    Calls Try.prog 6 #[.slice a0 n0 c0, .int .i64 i, .int .i64 k] w fun e w' => e = .returned (.bool true) ∧ Below w.heap.size w w' := by
  have hq0 := eqI_all
  subst hs
  go_enter Try.func6, Try.ntmps6
  have B0 := Below.refl w.heap.size w
  go_wp2_with fail
  refine (hnear _ r0).mono ?_
  rintro e w1 ⟨v, rfl, hown, hb⟩
  have B1 := below_step B0 hb
  clear B0
  replace r0 := RdI.below (B := 0) r0 hb
  clear hb
  obtain ⟨ara, cra, rfl⟩ := owns_slice hown
  have ra := owns_rdI hown FA.out
  clear hown
  clear r0
  go_wp2_with fail
  refine (hmi.out _).mono ?_
  rintro e w' ⟨rfl, rfl⟩
  go_wp2_with fail
  refine (hmk.out _).mono ?_
  rintro e w' ⟨rfl, rfl⟩
  go_wp2_with fail
  refine ((ht.out _ _ _ ra)).mono ?_
  rintro e w2 ⟨v, rfl, hown, hb⟩
  have B2 := below_step B1 hb
  clear B1
  replace ra := RdI.below (B := 0) ra hb
  clear hb
  obtain ⟨art, crt, rfl⟩ := owns_slice hown
  have rt := owns_rdI hown (tick_fits FA.out _)
  clear hown
  go_wp2_with fail
  refine (at_any _ _ _ _ (ι : Int) _ ra).mono ?_
  rintro e w' ⟨rfl, rfl⟩
  go_wp2_with fail
  refine (awake_any _).mono ?_
  rintro e w3 ⟨rfl, hb⟩
  have B3 := below_step B2 hb
  clear B2
  replace ra := RdI.below (B := 0) ra hb
  replace rt := RdI.below (B := 0) rt hb
  clear hb
  go_wp2_with fail
  refine (tick_out _ _ _ _ _ _ ra (by omega) (by omega)).mono ?_
  rintro e w4 ⟨v, rfl, hown, hb⟩
  have B4 := below_step B3 hb
  clear B3
  replace ra := RdI.below (B := 0) ra hb
  replace rt := RdI.below (B := 0) rt hb
  clear hb
  obtain ⟨aru, cru, rfl⟩ := owns_slice hown
  have ru := owns_rdI hown FA.out
  clear hown
  go_wp2_with fail
  refine (plainI_any _ _ _ _ _ _ _ _ _ ru ra).mono ?_
  rintro e w5 ⟨rfl, hb⟩
  have B5 := below_step B4 hb
  clear B4
  replace ra := RdI.below (B := 0) ra hb
  replace rt := RdI.below (B := 0) rt hb
  replace ru := RdI.below (B := 0) ru hb
  clear hb
  clear ru
  go_wp2_with fail
  refine (tick_out _ _ _ _ _ _ ra (by omega) (by omega)).mono ?_
  rintro e w6 ⟨v, rfl, hown, hb⟩
  have B6 := below_step B5 hb
  clear B5
  replace ra := RdI.below (B := 0) ra hb
  replace rt := RdI.below (B := 0) rt hb
  clear hb
  obtain ⟨aru, cru, rfl⟩ := owns_slice hown
  have ru := owns_rdI hown FA.out
  clear hown
  go_wp2_with fail
  refine (plainI_any _ _ _ _ _ _ _ _ _ ru ra).mono ?_
  rintro e w7 ⟨rfl, hb⟩
  have B7 := below_step B6 hb
  clear B6
  replace ra := RdI.below (B := 0) ra hb
  replace rt := RdI.below (B := 0) rt hb
  replace ru := RdI.below (B := 0) ru hb
  clear hb
  clear ru
  go_wp2_with fail
  refine (at_any _ _ _ _ (ι : Int) _ rt).mono ?_
  rintro e w' ⟨rfl, rfl⟩
  go_wp2_with fail
  refine (cmp_any _ _ _ _ _ _ _ _ _ ra rt (by omega) (by omega)).mono ?_
  rintro e w8 ⟨rfl, hb⟩
  have B8 := below_step B7 hb
  clear B7
  replace ra := RdI.below (B := 0) ra hb
  replace rt := RdI.below (B := 0) rt hb
  clear hb
  go_wp2
  go_ret
  exact ⟨rfl, B8⟩

set_option maxHeartbeats 2000000 in
theorem ClockTicks_3 (a0 : Option Addr) (n0 c0 m ι κ : Nat) (i k : Int) (x A : List Int) (w : World) (r0 : RdI w a0 n0 c0 x) (hι : ι < 64) (hκ : κ < 64) (hm : m ≤ 70)
    (hnear : ∀ w, RdI w a0 n0 c0 x → Calls Try.prog 9 #[.slice a0 n0 c0] w (RetRow w 3 1 m (ints A))) (FA : Hid (∀ z ∈ A, I64 z))
    (hmi : Hid (∀ w, Calls Try.prog 10 #[.int .i64 i, .int .i64 64] w fun e w' => e = .returned (.int .i64 ι) ∧ w = w')) (hmk : Hid (∀ w, Calls Try.prog 10 #[.int .i64 k, .int .i64 64] w fun e w' => e = .returned (.int .i64 κ) ∧ w = w'))
    (ht : Hid (∀ w ao cap, RdI w ao m cap A → Calls Try.prog 15 #[.slice ao m cap, .int .i64 ι] w (RetRow w 3 1 (ι + 1) (ints (tickC A ι))))) (hB : m ≤ ι) (hs : ((ι : Int) != (κ : Int)) = true) (hq : atC (tickC A ι) κ = atC A κ) (h9 : (atC A ι == 9223372036854775807) = true) :
    Calls Try.prog 6 #[.slice a0 n0 c0, .int .i64 i, .int .i64 k] w fun e w' => e = .returned (.bool true) ∧ Below w.heap.size w w' := by
  have hq0 := eqI_all
  go_enter Try.func6, Try.ntmps6
  have B0 := Below.refl w.heap.size w
  go_wp2_with fail
  refine (hnear _ r0).mono ?_
  rintro e w1 ⟨v, rfl, hown, hb⟩
  have B1 := below_step B0 hb
  clear B0
  replace r0 := RdI.below (B := 0) r0 hb
  clear hb
  obtain ⟨ara, cra, rfl⟩ := owns_slice hown
  have ra := owns_rdI hown FA.out
  clear hown
  clear r0
  go_wp2_with fail
  refine (hmi.out _).mono ?_
  rintro e w' ⟨rfl, rfl⟩
  go_wp2_with fail
  refine (hmk.out _).mono ?_
  rintro e w' ⟨rfl, rfl⟩
  go_wp2_with fail
  refine ((ht.out _ _ _ ra)).mono ?_
  rintro e w2 ⟨v, rfl, hown, hb⟩
  have B2 := below_step B1 hb
  clear B1
  replace ra := RdI.below (B := 0) ra hb
  clear hb
  obtain ⟨art, crt, rfl⟩ := owns_slice hown
  have rt := owns_rdI hown (tick_fits FA.out _)
  clear hown
  go_wp2_with fail
  refine (at_any _ _ _ _ (ι : Int) _ ra).mono ?_
  rintro e w' ⟨rfl, rfl⟩
  go_wp2_with fail
  refine (awake_any _).mono ?_
  rintro e w3 ⟨rfl, hb⟩
  have B3 := below_step B2 hb
  clear B2
  replace ra := RdI.below (B := 0) ra hb
  replace rt := RdI.below (B := 0) rt hb
  clear hb
  go_wp2_with fail
  refine (at_any _ _ _ _ (κ : Int) _ rt).mono ?_
  rintro e w' ⟨rfl, rfl⟩
  go_wp2_with fail
  refine (at_any _ _ _ _ (κ : Int) _ ra).mono ?_
  rintro e w' ⟨rfl, rfl⟩
  go_wp2_with fail
  refine (tick_out _ _ _ _ _ _ ra (by omega) (by omega)).mono ?_
  rintro e w4 ⟨v, rfl, hown, hb⟩
  have B4 := below_step B3 hb
  clear B3
  replace ra := RdI.below (B := 0) ra hb
  replace rt := RdI.below (B := 0) rt hb
  clear hb
  obtain ⟨aru, cru, rfl⟩ := owns_slice hown
  have ru := owns_rdI hown FA.out
  clear hown
  go_wp2_with fail
  refine (plainI_any _ _ _ _ _ _ _ _ _ ru ra).mono ?_
  rintro e w5 ⟨rfl, hb⟩
  have B5 := below_step B4 hb
  clear B4
  replace ra := RdI.below (B := 0) ra hb
  replace rt := RdI.below (B := 0) rt hb
  replace ru := RdI.below (B := 0) ru hb
  clear hb
  clear ru
  go_wp2_with fail
  refine (tick_out _ _ _ _ _ _ ra (by omega) (by omega)).mono ?_
  rintro e w6 ⟨v, rfl, hown, hb⟩
  have B6 := below_step B5 hb
  clear B5
  replace ra := RdI.below (B := 0) ra hb
  replace rt := RdI.below (B := 0) rt hb
  clear hb
  obtain ⟨aru, cru, rfl⟩ := owns_slice hown
  have ru := owns_rdI hown FA.out
  clear hown
  go_wp2_with fail
  refine (plainI_any _ _ _ _ _ _ _ _ _ ru ra).mono ?_
  rintro e w7 ⟨rfl, hb⟩
  have B7 := below_step B6 hb
  clear B6
  replace ra := RdI.below (B := 0) ra hb
  replace rt := RdI.below (B := 0) rt hb
  replace ru := RdI.below (B := 0) ru hb
  clear hb
  clear ru
  go_wp2
  go_ret
  exact ⟨rfl, B7⟩

set_option maxHeartbeats 2000000 in
theorem ClockTicks_4 (a0 : Option Addr) (n0 c0 m ι κ : Nat) (i k : Int) (x A : List Int) (w : World) (r0 : RdI w a0 n0 c0 x) (hι : ι < 64) (hκ : κ < 64) (hm : m ≤ 70)
    (hnear : ∀ w, RdI w a0 n0 c0 x → Calls Try.prog 9 #[.slice a0 n0 c0] w (RetRow w 3 1 m (ints A))) (FA : Hid (∀ z ∈ A, I64 z))
    (hmi : Hid (∀ w, Calls Try.prog 10 #[.int .i64 i, .int .i64 64] w fun e w' => e = .returned (.int .i64 ι) ∧ w = w')) (hmk : Hid (∀ w, Calls Try.prog 10 #[.int .i64 k, .int .i64 64] w fun e w' => e = .returned (.int .i64 κ) ∧ w = w'))
    (ht : Hid (∀ w ao cap, RdI w ao m cap A → Calls Try.prog 15 #[.slice ao m cap, .int .i64 ι] w (RetRow w 3 1 (ι + 1) (ints (tickC A ι))))) (hB : m ≤ ι) (hs : ((ι : Int) != (κ : Int)) = true) (hq : atC (tickC A ι) κ = atC A κ) (h9 : (atC A ι == 9223372036854775807) = false) (hq1 : atC (tickC A ι) ι = atC A ι + 1) (hq2 : cmpC A (tickC A ι) = -1) (u1 : -9223372036854775808 ≤ atC A ι) (u2 : atC A ι ≤ 9223372036854775806) :
    Calls Try.prog 6 #[.slice a0 n0 c0, .int .i64 i, .int .i64 k] w fun e w' => e = .returned (.bool true) ∧ Below w.heap.size w w' := by
  have hq0 := eqI_all
  go_enter Try.func6, Try.ntmps6
  have B0 := Below.refl w.heap.size w
  go_wp2_with fail
  refine (hnear _ r0).mono ?_
  rintro e w1 ⟨v, rfl, hown, hb⟩
  have B1 := below_step B0 hb
  clear B0
  replace r0 := RdI.below (B := 0) r0 hb
  clear hb
  obtain ⟨ara, cra, rfl⟩ := owns_slice hown
  have ra := owns_rdI hown FA.out
  clear hown
  clear r0
  go_wp2_with fail
  refine (hmi.out _).mono ?_
  rintro e w' ⟨rfl, rfl⟩
  go_wp2_with fail
  refine (hmk.out _).mono ?_
  rintro e w' ⟨rfl, rfl⟩
  go_wp2_with fail
  refine ((ht.out _ _ _ ra)).mono ?_
  rintro e w2 ⟨v, rfl, hown, hb⟩
  have B2 := below_step B1 hb
  clear B1
  replace ra := RdI.below (B := 0) ra hb
  clear hb
  obtain ⟨art, crt, rfl⟩ := owns_slice hown
  have rt := owns_rdI hown (tick_fits FA.out _)
  clear hown
  go_wp2_with fail
  refine (at_any _ _ _ _ (ι : Int) _ ra).mono ?_
  rintro e w' ⟨rfl, rfl⟩
  go_wp2_with fail
  refine (awake_any _).mono ?_
  rintro e w3 ⟨rfl, hb⟩
  have B3 := below_step B2 hb
  clear B2
  replace ra := RdI.below (B := 0) ra hb
  replace rt := RdI.below (B := 0) rt hb
  clear hb
  go_wp2_with fail
  refine (at_any _ _ _ _ (κ : Int) _ rt).mono ?_
  rintro e w' ⟨rfl, rfl⟩
  go_wp2_with fail
  refine (at_any _ _ _ _ (κ : Int) _ ra).mono ?_
  rintro e w' ⟨rfl, rfl⟩
  go_wp2_with fail
  refine (tick_out _ _ _ _ _ _ ra (by omega) (by omega)).mono ?_
  rintro e w4 ⟨v, rfl, hown, hb⟩
  have B4 := below_step B3 hb
  clear B3
  replace ra := RdI.below (B := 0) ra hb
  replace rt := RdI.below (B := 0) rt hb
  clear hb
  obtain ⟨aru, cru, rfl⟩ := owns_slice hown
  have ru := owns_rdI hown FA.out
  clear hown
  go_wp2_with fail
  refine (plainI_any _ _ _ _ _ _ _ _ _ ru ra).mono ?_
  rintro e w5 ⟨rfl, hb⟩
  have B5 := below_step B4 hb
  clear B4
  replace ra := RdI.below (B := 0) ra hb
  replace rt := RdI.below (B := 0) rt hb
  replace ru := RdI.below (B := 0) ru hb
  clear hb
  clear ru
  go_wp2_with fail
  refine (tick_out _ _ _ _ _ _ ra (by omega) (by omega)).mono ?_
  rintro e w6 ⟨v, rfl, hown, hb⟩
  have B6 := below_step B5 hb
  clear B5
  replace ra := RdI.below (B := 0) ra hb
  replace rt := RdI.below (B := 0) rt hb
  clear hb
  obtain ⟨aru, cru, rfl⟩ := owns_slice hown
  have ru := owns_rdI hown FA.out
  clear hown
  go_wp2_with fail
  refine (plainI_any _ _ _ _ _ _ _ _ _ ru ra).mono ?_
  rintro e w7 ⟨rfl, hb⟩
  have B7 := below_step B6 hb
  clear B6
  replace ra := RdI.below (B := 0) ra hb
  replace rt := RdI.below (B := 0) rt hb
  replace ru := RdI.below (B := 0) ru hb
  clear hb
  clear ru
  go_wp2_with fail
  refine (at_any _ _ _ _ (ι : Int) _ rt).mono ?_
  rintro e w' ⟨rfl, rfl⟩
  go_wp2_with fail
  refine (cmp_any _ _ _ _ _ _ _ _ _ ra rt (by omega) (by omega)).mono ?_
  rintro e w8 ⟨rfl, hb⟩
  have B8 := below_step B7 hb
  clear B7
  replace ra := RdI.below (B := 0) ra hb
  replace rt := RdI.below (B := 0) rt hb
  clear hb
  go_wp2
  go_ret
  exact ⟨rfl, B8⟩

set_option maxHeartbeats 2000000 in
theorem ClockTicks_5 (a0 : Option Addr) (n0 c0 m ι κ : Nat) (i k : Int) (x A : List Int) (w : World) (r0 : RdI w a0 n0 c0 x) (hι : ι < 64) (hκ : κ < 64) (hm : m ≤ 70)
    (hnear : ∀ w, RdI w a0 n0 c0 x → Calls Try.prog 9 #[.slice a0 n0 c0] w (RetRow w 3 1 m (ints A))) (FA : Hid (∀ z ∈ A, I64 z))
    (hmi : Hid (∀ w, Calls Try.prog 10 #[.int .i64 i, .int .i64 64] w fun e w' => e = .returned (.int .i64 ι) ∧ w = w')) (hmk : Hid (∀ w, Calls Try.prog 10 #[.int .i64 k, .int .i64 64] w fun e w' => e = .returned (.int .i64 κ) ∧ w = w'))
    (ht : Hid (∀ w ao cap, RdI w ao m cap A → Calls Try.prog 15 #[.slice ao m cap, .int .i64 ι] w (RetRow w 3 1 m (ints (tickC A ι))))) (hB : ι + 1 ≤ m) (hs : ι = κ) (h9 : (atC A ι == 9223372036854775807) = true) :
    Calls Try.prog 6 #[.slice a0 n0 c0, .int .i64 i, .int .i64 k] w fun e w' => e = .returned (.bool true) ∧ Below w.heap.size w w' := by
  have hq0 := eqI_all
  subst hs
  go_enter Try.func6, Try.ntmps6
  have B0 := Below.refl w.heap.size w
  go_wp2_with fail
  refine (hnear _ r0).mono ?_
  rintro e w1 ⟨v, rfl, hown, hb⟩
  have B1 := below_step B0 hb
  clear B0
  replace r0 := RdI.below (B := 0) r0 hb
  clear hb
  obtain ⟨ara, cra, rfl⟩ := owns_slice hown
  have ra := owns_rdI hown FA.out
  clear hown
  clear r0
  go_wp2_with fail
  refine (hmi.out _).mono ?_
  rintro e w' ⟨rfl, rfl⟩
  go_wp2_with fail
  refine (hmk.out _).mono ?_
  rintro e w' ⟨rfl, rfl⟩
  go_wp2_with fail
  refine ((ht.out _ _ _ ra)).mono ?_
  rintro e w2 ⟨v, rfl, hown, hb⟩
  have B2 := below_step B1 hb
  clear B1
  replace ra := RdI.below (B := 0) ra hb
  clear hb
  obtain ⟨art, crt, rfl⟩ := owns_slice hown
  have rt := owns_rdI hown (tick_fits FA.out _)
  clear hown
  go_wp2_with fail
  refine (at_any _ _ _ _ (ι : Int) _ ra).mono ?_
  rintro e w' ⟨rfl, rfl⟩
  go_wp2_with fail
  refine (awake_any _).mono ?_
  rintro e w3 ⟨rfl, hb⟩
  have B3 := below_step B2 hb
  clear B2
  replace ra := RdI.below (B := 0) ra hb
  replace rt := RdI.below (B := 0) rt hb
  clear hb
  go_wp2_with fail
  refine (tick_out _ _ _ _ _ _ ra (by omega) (by omega)).mono ?_
  rintro e w4 ⟨v, rfl, hown, hb⟩
  have B4 := below_step B3 hb
  clear B3
  replace ra := RdI.below (B := 0) ra hb
  replace rt := RdI.below (B := 0) rt hb
  clear hb
  obtain ⟨aru, cru, rfl⟩ := owns_slice hown
  have ru := owns_rdI hown FA.out
  clear hown
  go_wp2_with fail
  refine (plainI_any _ _ _ _ _ _ _ _ _ ru ra).mono ?_
  rintro e w5 ⟨rfl, hb⟩
  have B5 := below_step B4 hb
  clear B4
  replace ra := RdI.below (B := 0) ra hb
  replace rt := RdI.below (B := 0) rt hb
  replace ru := RdI.below (B := 0) ru hb
  clear hb
  clear ru
  go_wp2_with fail
  refine (tick_out _ _ _ _ _ _ ra (by omega) (by omega)).mono ?_
  rintro e w6 ⟨v, rfl, hown, hb⟩
  have B6 := below_step B5 hb
  clear B5
  replace ra := RdI.below (B := 0) ra hb
  replace rt := RdI.below (B := 0) rt hb
  clear hb
  obtain ⟨aru, cru, rfl⟩ := owns_slice hown
  have ru := owns_rdI hown FA.out
  clear hown
  go_wp2_with fail
  refine (plainI_any _ _ _ _ _ _ _ _ _ ru ra).mono ?_
  rintro e w7 ⟨rfl, hb⟩
  have B7 := below_step B6 hb
  clear B6
  replace ra := RdI.below (B := 0) ra hb
  replace rt := RdI.below (B := 0) rt hb
  replace ru := RdI.below (B := 0) ru hb
  clear hb
  clear ru
  go_wp2
  go_ret
  exact ⟨rfl, B7⟩

set_option maxHeartbeats 2000000 in
theorem ClockTicks_6 (a0 : Option Addr) (n0 c0 m ι κ : Nat) (i k : Int) (x A : List Int) (w : World) (r0 : RdI w a0 n0 c0 x) (hι : ι < 64) (hκ : κ < 64) (hm : m ≤ 70)
    (hnear : ∀ w, RdI w a0 n0 c0 x → Calls Try.prog 9 #[.slice a0 n0 c0] w (RetRow w 3 1 m (ints A))) (FA : Hid (∀ z ∈ A, I64 z))
    (hmi : Hid (∀ w, Calls Try.prog 10 #[.int .i64 i, .int .i64 64] w fun e w' => e = .returned (.int .i64 ι) ∧ w = w')) (hmk : Hid (∀ w, Calls Try.prog 10 #[.int .i64 k, .int .i64 64] w fun e w' => e = .returned (.int .i64 κ) ∧ w = w'))
    (ht : Hid (∀ w ao cap, RdI w ao m cap A → Calls Try.prog 15 #[.slice ao m cap, .int .i64 ι] w (RetRow w 3 1 m (ints (tickC A ι))))) (hB : ι + 1 ≤ m) (hs : ι = κ) (h9 : (atC A ι == 9223372036854775807) = false) (hq1 : atC (tickC A ι) ι = atC A ι + 1) (hq2 : cmpC A (tickC A ι) = -1) (u1 : -9223372036854775808 ≤ atC A ι) (u2 : atC A ι ≤ 9223372036854775806) :
    Calls Try.prog 6 #[.slice a0 n0 c0, .int .i64 i, .int .i64 k] w fun e w' => e = .returned (.bool true) ∧ Below w.heap.size w w' := by
  have hq0 := eqI_all
  subst hs
  go_enter Try.func6, Try.ntmps6
  have B0 := Below.refl w.heap.size w
  go_wp2_with fail
  refine (hnear _ r0).mono ?_
  rintro e w1 ⟨v, rfl, hown, hb⟩
  have B1 := below_step B0 hb
  clear B0
  replace r0 := RdI.below (B := 0) r0 hb
  clear hb
  obtain ⟨ara, cra, rfl⟩ := owns_slice hown
  have ra := owns_rdI hown FA.out
  clear hown
  clear r0
  go_wp2_with fail
  refine (hmi.out _).mono ?_
  rintro e w' ⟨rfl, rfl⟩
  go_wp2_with fail
  refine (hmk.out _).mono ?_
  rintro e w' ⟨rfl, rfl⟩
  go_wp2_with fail
  refine ((ht.out _ _ _ ra)).mono ?_
  rintro e w2 ⟨v, rfl, hown, hb⟩
  have B2 := below_step B1 hb
  clear B1
  replace ra := RdI.below (B := 0) ra hb
  clear hb
  obtain ⟨art, crt, rfl⟩ := owns_slice hown
  have rt := owns_rdI hown (tick_fits FA.out _)
  clear hown
  go_wp2_with fail
  refine (at_any _ _ _ _ (ι : Int) _ ra).mono ?_
  rintro e w' ⟨rfl, rfl⟩
  go_wp2_with fail
  refine (awake_any _).mono ?_
  rintro e w3 ⟨rfl, hb⟩
  have B3 := below_step B2 hb
  clear B2
  replace ra := RdI.below (B := 0) ra hb
  replace rt := RdI.below (B := 0) rt hb
  clear hb
  go_wp2_with fail
  refine (tick_out _ _ _ _ _ _ ra (by omega) (by omega)).mono ?_
  rintro e w4 ⟨v, rfl, hown, hb⟩
  have B4 := below_step B3 hb
  clear B3
  replace ra := RdI.below (B := 0) ra hb
  replace rt := RdI.below (B := 0) rt hb
  clear hb
  obtain ⟨aru, cru, rfl⟩ := owns_slice hown
  have ru := owns_rdI hown FA.out
  clear hown
  go_wp2_with fail
  refine (plainI_any _ _ _ _ _ _ _ _ _ ru ra).mono ?_
  rintro e w5 ⟨rfl, hb⟩
  have B5 := below_step B4 hb
  clear B4
  replace ra := RdI.below (B := 0) ra hb
  replace rt := RdI.below (B := 0) rt hb
  replace ru := RdI.below (B := 0) ru hb
  clear hb
  clear ru
  go_wp2_with fail
  refine (tick_out _ _ _ _ _ _ ra (by omega) (by omega)).mono ?_
  rintro e w6 ⟨v, rfl, hown, hb⟩
  have B6 := below_step B5 hb
  clear B5
  replace ra := RdI.below (B := 0) ra hb
  replace rt := RdI.below (B := 0) rt hb
  clear hb
  obtain ⟨aru, cru, rfl⟩ := owns_slice hown
  have ru := owns_rdI hown FA.out
  clear hown
  go_wp2_with fail
  refine (plainI_any _ _ _ _ _ _ _ _ _ ru ra).mono ?_
  rintro e w7 ⟨rfl, hb⟩
  have B7 := below_step B6 hb
  clear B6
  replace ra := RdI.below (B := 0) ra hb
  replace rt := RdI.below (B := 0) rt hb
  replace ru := RdI.below (B := 0) ru hb
  clear hb
  clear ru
  go_wp2_with fail
  refine (at_any _ _ _ _ (ι : Int) _ rt).mono ?_
  rintro e w' ⟨rfl, rfl⟩
  go_wp2_with fail
  refine (cmp_any _ _ _ _ _ _ _ _ _ ra rt (by omega) (by omega)).mono ?_
  rintro e w8 ⟨rfl, hb⟩
  have B8 := below_step B7 hb
  clear B7
  replace ra := RdI.below (B := 0) ra hb
  replace rt := RdI.below (B := 0) rt hb
  clear hb
  go_wp2
  go_ret
  exact ⟨rfl, B8⟩

set_option maxHeartbeats 2000000 in
theorem ClockTicks_7 (a0 : Option Addr) (n0 c0 m ι κ : Nat) (i k : Int) (x A : List Int) (w : World) (r0 : RdI w a0 n0 c0 x) (hι : ι < 64) (hκ : κ < 64) (hm : m ≤ 70)
    (hnear : ∀ w, RdI w a0 n0 c0 x → Calls Try.prog 9 #[.slice a0 n0 c0] w (RetRow w 3 1 m (ints A))) (FA : Hid (∀ z ∈ A, I64 z))
    (hmi : Hid (∀ w, Calls Try.prog 10 #[.int .i64 i, .int .i64 64] w fun e w' => e = .returned (.int .i64 ι) ∧ w = w')) (hmk : Hid (∀ w, Calls Try.prog 10 #[.int .i64 k, .int .i64 64] w fun e w' => e = .returned (.int .i64 κ) ∧ w = w'))
    (ht : Hid (∀ w ao cap, RdI w ao m cap A → Calls Try.prog 15 #[.slice ao m cap, .int .i64 ι] w (RetRow w 3 1 m (ints (tickC A ι))))) (hB : ι + 1 ≤ m) (hs : ((ι : Int) != (κ : Int)) = true) (hq : atC (tickC A ι) κ = atC A κ) (h9 : (atC A ι == 9223372036854775807) = true) :
    Calls Try.prog 6 #[.slice a0 n0 c0, .int .i64 i, .int .i64 k] w fun e w' => e = .returned (.bool true) ∧ Below w.heap.size w w' := by
  have hq0 := eqI_all
  go_enter Try.func6, Try.ntmps6
  have B0 := Below.refl w.heap.size w
  go_wp2_with fail
  refine (hnear _ r0).mono ?_
  rintro e w1 ⟨v, rfl, hown, hb⟩
  have B1 := below_step B0 hb
  clear B0
  replace r0 := RdI.below (B := 0) r0 hb
  clear hb
  obtain ⟨ara, cra, rfl⟩ := owns_slice hown
  have ra := owns_rdI hown FA.out
  clear hown
  clear r0
  go_wp2_with fail
  refine (hmi.out _).mono ?_
  rintro e w' ⟨rfl, rfl⟩
  go_wp2_with fail
  refine (hmk.out _).mono ?_
  rintro e w' ⟨rfl, rfl⟩
  go_wp2_with fail
  refine ((ht.out _ _ _ ra)).mono ?_
  rintro e w2 ⟨v, rfl, hown, hb⟩
  have B2 := below_step B1 hb
  clear B1
  replace ra := RdI.below (B := 0) ra hb
  clear hb
  obtain ⟨art, crt, rfl⟩ := owns_slice hown
  have rt := owns_rdI hown (tick_fits FA.out _)
  clear hown
  go_wp2_with fail
  refine (at_any _ _ _ _ (ι : Int) _ ra).mono ?_
  rintro e w' ⟨rfl, rfl⟩
  go_wp2_with fail
  refine (awake_any _).mono ?_
  rintro e w3 ⟨rfl, hb⟩
  have B3 := below_step B2 hb
  clear B2
  replace ra := RdI.below (B := 0) ra hb
  replace rt := RdI.below (B := 0) rt hb
  clear hb
  go_wp2_with fail
  refine (at_any _ _ _ _ (κ : Int) _ rt).mono ?_
  rintro e w' ⟨rfl, rfl⟩
  go_wp2_with fail
  refine (at_any _ _ _ _ (κ : Int) _ ra).mono ?_
  rintro e w' ⟨rfl, rfl⟩
  go_wp2_with fail
  refine (tick_out _ _ _ _ _ _ ra (by omega) (by omega)).mono ?_
  rintro e w4 ⟨v, rfl, hown, hb⟩
  have B4 := below_step B3 hb
  clear B3
  replace ra := RdI.below (B := 0) ra hb
  replace rt := RdI.below (B := 0) rt hb
  clear hb
  obtain ⟨aru, cru, rfl⟩ := owns_slice hown
  have ru := owns_rdI hown FA.out
  clear hown
  go_wp2_with fail
  refine (plainI_any _ _ _ _ _ _ _ _ _ ru ra).mono ?_
  rintro e w5 ⟨rfl, hb⟩
  have B5 := below_step B4 hb
  clear B4
  replace ra := RdI.below (B := 0) ra hb
  replace rt := RdI.below (B := 0) rt hb
  replace ru := RdI.below (B := 0) ru hb
  clear hb
  clear ru
  go_wp2_with fail
  refine (tick_out _ _ _ _ _ _ ra (by omega) (by omega)).mono ?_
  rintro e w6 ⟨v, rfl, hown, hb⟩
  have B6 := below_step B5 hb
  clear B5
  replace ra := RdI.below (B := 0) ra hb
  replace rt := RdI.below (B := 0) rt hb
  clear hb
  obtain ⟨aru, cru, rfl⟩ := owns_slice hown
  have ru := owns_rdI hown FA.out
  clear hown
  go_wp2_with fail
  refine (plainI_any _ _ _ _ _ _ _ _ _ ru ra).mono ?_
  rintro e w7 ⟨rfl, hb⟩
  have B7 := below_step B6 hb
  clear B6
  replace ra := RdI.below (B := 0) ra hb
  replace rt := RdI.below (B := 0) rt hb
  replace ru := RdI.below (B := 0) ru hb
  clear hb
  clear ru
  go_wp2
  go_ret
  exact ⟨rfl, B7⟩

set_option maxHeartbeats 2000000 in
theorem ClockTicks_8 (a0 : Option Addr) (n0 c0 m ι κ : Nat) (i k : Int) (x A : List Int) (w : World) (r0 : RdI w a0 n0 c0 x) (hι : ι < 64) (hκ : κ < 64) (hm : m ≤ 70)
    (hnear : ∀ w, RdI w a0 n0 c0 x → Calls Try.prog 9 #[.slice a0 n0 c0] w (RetRow w 3 1 m (ints A))) (FA : Hid (∀ z ∈ A, I64 z))
    (hmi : Hid (∀ w, Calls Try.prog 10 #[.int .i64 i, .int .i64 64] w fun e w' => e = .returned (.int .i64 ι) ∧ w = w')) (hmk : Hid (∀ w, Calls Try.prog 10 #[.int .i64 k, .int .i64 64] w fun e w' => e = .returned (.int .i64 κ) ∧ w = w'))
    (ht : Hid (∀ w ao cap, RdI w ao m cap A → Calls Try.prog 15 #[.slice ao m cap, .int .i64 ι] w (RetRow w 3 1 m (ints (tickC A ι))))) (hB : ι + 1 ≤ m) (hs : ((ι : Int) != (κ : Int)) = true) (hq : atC (tickC A ι) κ = atC A κ) (h9 : (atC A ι == 9223372036854775807) = false) (hq1 : atC (tickC A ι) ι = atC A ι + 1) (hq2 : cmpC A (tickC A ι) = -1) (u1 : -9223372036854775808 ≤ atC A ι) (u2 : atC A ι ≤ 9223372036854775806) :
    Calls Try.prog 6 #[.slice a0 n0 c0, .int .i64 i, .int .i64 k] w fun e w' => e = .returned (.bool true) ∧ Below w.heap.size w w' := by
  have hq0 := eqI_all
  go_enter Try.func6, Try.ntmps6
  have B0 := Below.refl w.heap.size w
  go_wp2_with fail
  refine (hnear _ r0).mono ?_
  rintro e w1 ⟨v, rfl, hown, hb⟩
  have B1 := below_step B0 hb
  clear B0
  replace r0 := RdI.below (B := 0) r0 hb
  clear hb
  obtain ⟨ara, cra, rfl⟩ := owns_slice hown
  have ra := owns_rdI hown FA.out
  clear hown
  clear r0
  go_wp2_with fail
  refine (hmi.out _).mono ?_
  rintro e w' ⟨rfl, rfl⟩
  go_wp2_with fail
  refine (hmk.out _).mono ?_
  rintro e w' ⟨rfl, rfl⟩
  go_wp2_with fail
  refine ((ht.out _ _ _ ra)).mono ?_
  rintro e w2 ⟨v, rfl, hown, hb⟩
  have B2 := below_step B1 hb
  clear B1
  replace ra := RdI.below (B := 0) ra hb
  clear hb
  obtain ⟨art, crt, rfl⟩ := owns_slice hown
  have rt := owns_rdI hown (tick_fits FA.out _)
  clear hown
  go_wp2_with fail
  refine (at_any _ _ _ _ (ι : Int) _ ra).mono ?_
  rintro e w' ⟨rfl, rfl⟩
  go_wp2_with fail
  refine (awake_any _).mono ?_
  rintro e w3 ⟨rfl, hb⟩
  have B3 := below_step B2 hb
  clear B2
  replace ra := RdI.below (B := 0) ra hb
  replace rt := RdI.below (B := 0) rt hb
  clear hb
  go_wp2_with fail
  refine (at_any _ _ _ _ (κ : Int) _ rt).mono ?_
  rintro e w' ⟨rfl, rfl⟩
  go_wp2_with fail
  refine (at_any _ _ _ _ (κ : Int) _ ra).mono ?_
  rintro e w' ⟨rfl, rfl⟩
  go_wp2_with fail
  refine (tick_out _ _ _ _ _ _ ra (by omega) (by omega)).mono ?_
  rintro e w4 ⟨v, rfl, hown, hb⟩
  have B4 := below_step B3 hb
  clear B3
  replace ra := RdI.below (B := 0) ra hb
  replace rt := RdI.below (B := 0) rt hb
  clear hb
  obtain ⟨aru, cru, rfl⟩ := owns_slice hown
  have ru := owns_rdI hown FA.out
  clear hown
  go_wp2_with fail
  refine (plainI_any _ _ _ _ _ _ _ _ _ ru ra).mono ?_
  rintro e w5 ⟨rfl, hb⟩
  have B5 := below_step B4 hb
  clear B4
  replace ra := RdI.below (B := 0) ra hb
  replace rt := RdI.below (B := 0) rt hb
  replace ru := RdI.below (B := 0) ru hb
  clear hb
  clear ru
  go_wp2_with fail
  refine (tick_out _ _ _ _ _ _ ra (by omega) (by omega)).mono ?_
  rintro e w6 ⟨v, rfl, hown, hb⟩
  have B6 := below_step B5 hb
  clear B5
  replace ra := RdI.below (B := 0) ra hb
  replace rt := RdI.below (B := 0) rt hb
  clear hb
  obtain ⟨aru, cru, rfl⟩ := owns_slice hown
  have ru := owns_rdI hown FA.out
  clear hown
  go_wp2_with fail
  refine (plainI_any _ _ _ _ _ _ _ _ _ ru ra).mono ?_
  rintro e w7 ⟨rfl, hb⟩
  have B7 := below_step B6 hb
  clear B6
  replace ra := RdI.below (B := 0) ra hb
  replace rt := RdI.below (B := 0) rt hb
  replace ru := RdI.below (B := 0) ru hb
  clear hb
  clear ru
  go_wp2_with fail
  refine (at_any _ _ _ _ (ι : Int) _ rt).mono ?_
  rintro e w' ⟨rfl, rfl⟩
  go_wp2_with fail
  refine (cmp_any _ _ _ _ _ _ _ _ _ ra rt (by omega) (by omega)).mono ?_
  rintro e w8 ⟨rfl, hb⟩
  have B8 := below_step B7 hb
  clear B7
  replace ra := RdI.below (B := 0) ra hb
  replace rt := RdI.below (B := 0) rt hb
  clear hb
  go_wp2
  go_ret
  exact ⟨rfl, B8⟩

theorem ClockTicks_any (w : World) (a0 : Option Addr) (n0 c0 : Nat) (L0 : List (List Value)) (h0 : IsRows w [.int .i64] a0 n0 c0 L0) (i : Int) (hi : (Lit.int .i64 i).wf = true) (k : Int) (hk : (Lit.int .i64 k).wf = true) :
    Calls Try.prog 6 #[.slice a0 n0 c0, .int .i64 i, .int .i64 k] w fun e w' => e = .returned (.bool true) ∧ Below w.heap.size w w' := by
  obtain ⟨x, r0⟩ := isRows_rdI h0
  have FA := near_fits r0.fits
  obtain ⟨i0, i1⟩ := modZ_bd i (n := 64) (by omega)
  obtain ⟨k0, k1⟩ := modZ_bd k (n := 64) (by omega)
  have hmi := fun w => mod_any i 64 (by omega) (by omega) w
  have hmk := fun w => mod_any k 64 (by omega) (by omega) w
  obtain ⟨ι, hι⟩ := Int.eq_ofNat_of_zero_le i0
  obtain ⟨κ, hκ⟩ := Int.eq_ofNat_of_zero_le k0
  rw [hι] at hmi i1
  rw [hκ] at hmk k1
  have hnear := fun w h => near_any a0 n0 c0 x w h
  have hal : (nearC x).length = min n0 70 := by rw [nearC_length, r0.len]
  generalize hmm : min n0 70 = m at hnear hal
  generalize hA : nearC x = A at *
  have hm : m ≤ 70 := by omega
  have ht0 := fun w ao cap (h : RdI w ao m cap A) => tick_any ao m cap A ι w h (by omega)
  have hfi := atC_I64 FA ι
  have hB : (m ≤ ι ∧ tickN m ι = ι + 1) ∨ (ι + 1 ≤ m ∧ tickN m ι = m) := by unfold tickN; rw [if_pos (by omega)]; simp; omega
  have hq : ι ≠ κ → atC (tickC A ι) κ = atC A κ := fun h => by rw [atC_tick A ι κ (by omega), if_neg (fun e => h e.symm)]
  by_cases hs : ι = κ
  all_goals
    by_cases h9 : atC A ι = 9223372036854775807
    all_goals
      rcases hB with ⟨hB, e⟩ | ⟨hB, e⟩
      all_goals
        rw [e] at ht0
        first
          | exact ClockTicks_1 a0 n0 c0 m ι κ i k x A w r0 (by omega) (by omega) hm hnear FA hmi hmk ht0 hB hs (by rw [h9]; rfl)
          | exact ClockTicks_2 a0 n0 c0 m ι κ i k x A w r0 (by omega) (by omega) hm hnear FA hmi hmk ht0 hB hs (by simpa using h9) (cmp_tick A ι (by omega) hfi h9).1 (cmp_tick A ι (by omega) hfi h9).2 hfi.1 (by have := hfi.2; omega)
          | exact ClockTicks_3 a0 n0 c0 m ι κ i k x A w r0 (by omega) (by omega) hm hnear FA hmi hmk ht0 hB (by simp; omega) (hq hs) (by rw [h9]; rfl)
          | exact ClockTicks_4 a0 n0 c0 m ι κ i k x A w r0 (by omega) (by omega) hm hnear FA hmi hmk ht0 hB (by simp; omega) (hq hs) (by simpa using h9) (cmp_tick A ι (by omega) hfi h9).1 (cmp_tick A ι (by omega) hfi h9).2 hfi.1 (by have := hfi.2; omega)
          | exact ClockTicks_5 a0 n0 c0 m ι κ i k x A w r0 (by omega) (by omega) hm hnear FA hmi hmk ht0 hB hs (by rw [h9]; rfl)
          | exact ClockTicks_6 a0 n0 c0 m ι κ i k x A w r0 (by omega) (by omega) hm hnear FA hmi hmk ht0 hB hs (by simpa using h9) (cmp_tick A ι (by omega) hfi h9).1 (cmp_tick A ι (by omega) hfi h9).2 hfi.1 (by have := hfi.2; omega)
          | exact ClockTicks_7 a0 n0 c0 m ι κ i k x A w r0 (by omega) (by omega) hm hnear FA hmi hmk ht0 hB (by simp; omega) (hq hs) (by rw [h9]; rfl)
          | exact ClockTicks_8 a0 n0 c0 m ι κ i k x A w r0 (by omega) (by omega) hm hnear FA hmi hmk ht0 hB (by simp; omega) (hq hs) (by simpa using h9) (cmp_tick A ι (by omega) hfi h9).1 (cmp_tick A ι (by omega) hfi h9).2 hfi.1 (by have := hfi.2; omega)

end Go.Proofs.Ytocpanhhbjhklaa
