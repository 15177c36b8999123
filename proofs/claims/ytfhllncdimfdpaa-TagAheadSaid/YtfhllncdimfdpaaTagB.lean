import Derived.Test.YtfhllncdimfdpaaTagA
namespace Go.Proofs.Ytfhllncdimfdpaa
set_option linter.unusedVariables false
set_option linter.unusedSimpArgs false
open Go.RowKit

theorem satAdd_le {a b : Int} (ha : W64 a) (hb : W64 b) : a ≤ satAdd a b := by
  unfold W64 satAdd at *; split <;> omega
theorem satMul_le {a b : Int} (ha : W64 a) (hb : 1 ≤ b) : a ≤ satMul a b := by
  have := le_mul_pos ha.1 hb
  have := ha.2
  unfold satMul; split <;> omega

set_option maxHeartbeats 400000 in
theorem TagOrders_walk (a b c : Int) (ha : W64 a) (hb : W64 b) (hc : W64 c) (w : World) :
    Calls Try.prog 5 #[.int .u64 a, .int .u64 b, .int .u64 c] w fun e w' => e = .returned (.bool true) ∧ Below w.heap.size w w' := by
  have hab := satAdd_W ha hb
  have hbc := satAdd_W hb hc
  have mab := satMul_W ha hb
  have mbc := satMul_W hb hc
  have e1 : (satAdd a b == satAdd b a) = true := by rw [satAdd_comm]; simp
  have e2 : (satMul a b == satMul b a) = true := by rw [satMul_comm]; simp
  have e3 : (satAdd (satAdd a b) c == satAdd a (satAdd b c)) = true := by rw [satAdd_assoc ha hb hc]; simp
  have e4 : (satMul (satMul a b) c == satMul a (satMul b c)) = true := by rw [satMul_assoc ha hb hc]; simp
  have e5 : a ≤ satAdd a b := satAdd_le ha hb
  by_cases h0 : b = 0
  · have c0 : (b == 0) = true := by simpa using h0
    clear h0
    go_enter Try.func5, Try.ntmps5
    go_wp2_with (first
      | (go_at_call 10; refine (awake_any _).mono ?_; rintro e w1 ⟨rfl, hb1⟩)
      | (go_at_call 11; refine (add_any _ _ (by assumption) (by assumption) _).mono ?_; rintro e w' ⟨rfl, rfl⟩)
      | (go_at_call 13; refine (mul_any _ _ (by assumption) (by assumption) _).mono ?_; rintro e w' ⟨rfl, rfl⟩))
    go_ret
    exact ⟨rfl, hb1⟩
  · have c0 : (b == 0) = false := by simpa using h0
    have e6 : a ≤ satMul a b := satMul_le ha (by have := hb.1; omega)
    clear h0
    go_enter Try.func5, Try.ntmps5
    go_wp2_with (first
      | (go_at_call 10; refine (awake_any _).mono ?_; rintro e w1 ⟨rfl, hb1⟩)
      | (go_at_call 11; refine (add_any _ _ (by assumption) (by assumption) _).mono ?_; rintro e w' ⟨rfl, rfl⟩)
      | (go_at_call 13; refine (mul_any _ _ (by assumption) (by assumption) _).mono ?_; rintro e w' ⟨rfl, rfl⟩))
    go_ret
    exact ⟨rfl, hb1⟩

set_option maxHeartbeats 400000 in
theorem TagInverse_walk (u k : Int) (hu : W64 u) (w : World) :
    Calls Try.prog 6 #[.int .u64 u, .int .i64 k] w fun e w' => e = .returned (.bool true) ∧ Below w.heap.size w w' := by
  have c1 : (invR u k == invR u k) = true := by simp
  have c2 : (invB u k == invB u k) = true := by simp
  go_enter Try.func6, Try.ntmps6
  go_wp2_with (first
    | (go_at_call 10; refine (awake_any _).mono ?_; rintro e w1 ⟨rfl, hb1⟩)
    | (go_at_call 15; refine (inv_any _ _ hu _).mono ?_; rintro e w' ⟨rfl, rfl⟩)
    | (go_at_call 16; refine (refInv_any _ _ hu _).mono ?_; rintro e w' ⟨rfl, rfl⟩))
  go_ret
  exact ⟨rfl, hb1⟩

theorem invR_in {u k : Int} (u1 : 1 ≤ u) (u2 : u ≤ 4611686018427387904) (k1 : 1 ≤ k) (k2 : k ≤ 65536) : invR u k = max (u / k) 1 ∧ invB u k = true := by
  unfold invR invB
  exact ⟨by rw [if_pos ⟨u1, u2, k1, k2⟩], by simp; omega⟩
theorem ediv_anti {u a b : Int} (hu : 0 ≤ u) (ha : 1 ≤ a) (hab : a ≤ b) : u / b ≤ u / a := by
  rw [Int.le_ediv_iff_mul_le (by omega)]
  have h := Int.ediv_mul_le u (show b ≠ 0 by omega)
  have h2 : u / b * a ≤ u / b * b := Int.mul_le_mul_of_nonneg_left hab (Int.ediv_nonneg hu (by omega))
  omega


theorem weights_one {u k : Int} (u1 : 1 ≤ u) (u2 : u ≤ 4611686018427387904) (k1 : 1 ≤ k) (k2 : k ≤ 65536) : invB u k = true ∧ 1 ≤ invR u k ∧ invR u k ≤ u := by
  obtain ⟨e, e'⟩ := invR_in u1 u2 k1 k2
  have h : u / k ≤ u := Int.ediv_le_self _ (by omega)
  exact ⟨e', by rw [e]; omega, by rw [e]; omega⟩
theorem weights_unit {u : Int} (u1 : 1 ≤ u) (u2 : u ≤ 4611686018427387904) : (invR u 1 == u) = true := by
  rw [(invR_in u1 u2 (by omega) (by omega)).1, Int.ediv_one, beq_iff_eq]; omega
theorem weights_mono {u a b : Int} (u1 : 1 ≤ u) (u2 : u ≤ 4611686018427387904) (a1 : 1 ≤ a) (b2 : b ≤ 65536) (h : a ≤ b) : invR u b ≤ invR u a := by
  rw [(invR_in u1 u2 (by omega) b2).1, (invR_in u1 u2 a1 (by omega)).1]
  have := ediv_anti (show 0 ≤ u by omega) a1 h
  omega
theorem wrapu_bd (a : Int) : 0 ≤ IntKind.u64.wrap a ∧ IntKind.u64.wrap a < 18446744073709551616 := by
  rw [IntKind.wrap_u64]; omega

set_option maxHeartbeats 400000 in
theorem TagWeights_walk (u a b : Int) (hu : W64 u) (w : World) :
    Calls Try.prog 7 #[.int .u64 u, .int .i64 a, .int .i64 b] w fun e w' => e = .returned (.bool true) ∧ Below w.heap.size w w' := by
  obtain ⟨u1, u2⟩ := hu
  obtain ⟨wa1, wa2⟩ := wrapu_bd a
  obtain ⟨wb1, wb2⟩ := wrapu_bd b
  obtain ⟨x1, x2, x3⟩ := weights_one (u := 1 + u % 4611686018427387904) (k := 1 + IntKind.u64.wrap a % 65536) (by omega) (by omega) (by omega) (by omega)
  obtain ⟨y1, y2, y3⟩ := weights_one (u := 1 + u % 4611686018427387904) (k := 1 + IntKind.u64.wrap b % 65536) (by omega) (by omega) (by omega) (by omega)
  have z1 := (weights_one (u := 1 + u % 4611686018427387904) (k := 1) (by omega) (by omega) (by omega) (by omega)).1
  have z2 := weights_unit (u := 1 + u % 4611686018427387904) (by omega) (by omega)
  rcases Int.lt_trichotomy (IntKind.u64.wrap a % 65536) (IntKind.u64.wrap b % 65536) with h | h | h
  · have m := weights_mono (u := 1 + u % 4611686018427387904) (a := 1 + IntKind.u64.wrap a % 65536) (b := 1 + IntKind.u64.wrap b % 65536) (by omega) (by omega) (by omega) (by omega) (by omega)
    go_enter Try.func7, Try.ntmps7
    go_wp2_with (first
      | (go_at_call 10; refine (awake_any _).mono ?_; rintro e w1 ⟨rfl, hb1⟩)
      | (go_at_call 15; refine (inv_any _ _ (W64_intro (by omega) (by omega)) _).mono ?_; rintro e w' ⟨rfl, rfl⟩))
    go_ret
    exact ⟨rfl, hb1⟩
  · have H := Lib.hid h
    have h1 : IntKind.u64.wrap a % 65536 ≤ IntKind.u64.wrap b % 65536 := by omega
    have h2 : IntKind.u64.wrap b % 65536 ≤ IntKind.u64.wrap a % 65536 := by omega
    clear h
    go_enter Try.func7, Try.ntmps7
    go_wp2_with (first
      | (go_at_call 10; refine (awake_any _).mono ?_; rintro e w1 ⟨rfl, hb1⟩)
      | (go_at_call 15; refine (inv_any _ _ (W64_intro (by omega) (by omega)) _).mono ?_; rintro e w' ⟨rfl, rfl⟩))
    go_ret
    exact ⟨rfl, hb1⟩
  · have m := weights_mono (u := 1 + u % 4611686018427387904) (b := 1 + IntKind.u64.wrap a % 65536) (a := 1 + IntKind.u64.wrap b % 65536) (by omega) (by omega) (by omega) (by omega) (by omega)
    go_enter Try.func7, Try.ntmps7
    go_wp2_with (first
      | (go_at_call 10; refine (awake_any _).mono ?_; rintro e w1 ⟨rfl, hb1⟩)
      | (go_at_call 15; refine (inv_any _ _ (W64_intro (by omega) (by omega)) _).mono ?_; rintro e w' ⟨rfl, rfl⟩))
    go_ret
    exact ⟨rfl, hb1⟩

theorem cost_mono {n m r : Int} (hr : 0 ≤ r) (h : n ≤ m) : costOf n r ≤ costOf m r := by
  unfold costOf satMul
  have h1 : max n 0 * r ≤ max m 0 * r := Int.mul_le_mul_of_nonneg_right (by omega) hr
  split <;> split <;> omega
theorem cost_neg {n r : Int} (h : n ≤ 0) : costOf n r = 0 := by
  unfold costOf satMul
  rw [Int.max_eq_right h]; simp

set_option maxHeartbeats 400000 in
theorem TagCosts_walk (n m r : Int) (hr : W64 r) (w : World) :
    Calls Try.prog 8 #[.int .i64 n, .int .i64 m, .int .u64 r] w fun e w' => e = .returned (.bool true) ∧ Below w.heap.size w w' := by
  obtain ⟨wn1, wn2⟩ := wrapu_bd n
  obtain ⟨wm1, wm2⟩ := wrapu_bd m
  have c1 : (costOf (IntKind.u64.wrap n % 2000000 - 1000000) r == costOf (IntKind.u64.wrap n % 2000000 - 1000000) r) = true := by simp
  have c2 : costOf (IntKind.u64.wrap n % 2000000 - 1000000) r ≤ costOf (IntKind.u64.wrap n % 2000000 - 1000000 + IntKind.u64.wrap m % 1000000) r := cost_mono hr.1 (by omega)
  by_cases h : 0 < IntKind.u64.wrap n % 2000000 - 1000000
  · go_enter Try.func8, Try.ntmps8
    go_wp2_with (first
      | (go_at_call 10; refine (awake_any _).mono ?_; rintro e w1 ⟨rfl, hb1⟩)
      | (go_at_call 17; refine (cost_any _ _ (by omega) hr _).mono ?_; rintro e w' ⟨rfl, rfl⟩)
      | (go_at_call 18; refine (refCost_any _ _ (by omega) hr _).mono ?_; rintro e w' ⟨rfl, rfl⟩))
    go_ret
    exact ⟨rfl, hb1⟩
  · have E := Lib.hid (cost_neg (r := r) (show IntKind.u64.wrap n % 2000000 - 1000000 ≤ 0 by omega))
    have c3 : (costOf (IntKind.u64.wrap n % 2000000 - 1000000) r == 0) = true := by rw [E.out]; rfl
    go_enter Try.func8, Try.ntmps8
    go_wp2_with (first
      | (go_at_call 10; refine (awake_any _).mono ?_; rintro e w1 ⟨rfl, hb1⟩)
      | (go_at_call 17; refine (cost_any _ _ (by omega) hr _).mono ?_; rintro e w' ⟨rfl, rfl⟩)
      | (go_at_call 18; refine (refCost_any _ _ (by omega) hr _).mono ?_; rintro e w' ⟨rfl, rfl⟩))
    go_ret
    exact ⟨rfl, hb1⟩

end Go.Proofs.Ytfhllncdimfdpaa
