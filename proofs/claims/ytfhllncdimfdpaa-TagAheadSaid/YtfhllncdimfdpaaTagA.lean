import Derived.Test.YtfhllncdimfdpaaTagL
namespace Go.Proofs.Ytfhllncdimfdpaa
set_option linter.unusedVariables false
set_option linter.unusedSimpArgs false
open Go.RowKit
theorem quo_half {b : Int} (hb : 2 ≤ b) : 18446744073709551615 / b ≤ 9223372036854775807 := by
  have h := Int.ediv_mul_le 18446744073709551615 (show b ≠ 0 by omega)
  have h0 := (quo_W (show 1 ≤ b by omega)).1
  have h2 : 18446744073709551615 / b * 2 ≤ 18446744073709551615 / b * b := Int.mul_le_mul_of_nonneg_left hb h0
  omega

set_option maxHeartbeats 400000 in
theorem TagEdges_walk (a b : Int) (ha : W64 a) (hb : W64 b) (w : World) :
    Calls Try.prog 4 #[.int .u64 a, .int .u64 b] w fun e w' => e = .returned (.bool true) ∧ Below w.heap.size w w' := by
  have E1 := Lib.hid (add_edge ha)
  obtain ⟨a1, a2⟩ := ha
  obtain ⟨b1, b2⟩ := hb
  by_cases h2 : 2 ≤ b
  · have hq := quo_half h2
    have hq0 := (quo_W (show 1 ≤ b by omega)).1
    have m := mul_edge (show 1 ≤ b by omega)
    have E3 := Lib.hid m.1
    have m1 := m.2.1
    have m2 := m.2.2
    clear m
    have E4 := Lib.hid (mul_edge1 (show 1 ≤ b by omega))
    have c0 : (18446744073709551615 / b == 18446744073709551615) = false := by
      rw [beq_eq_false_iff_ne]; omega
    have c1 : (18446744073709551615 / b * b == 18446744073709551615 / b * b) = true := by simp
    have F : IntKind.u64.wrap (18446744073709551615 / b * b) = 18446744073709551615 / b * b := by rw [IntKind.wrap_u64]; omega
    by_cases h0 : a = 0
    · subst h0
      go_enter Try.func4, Try.ntmps4
      go_wp2_with (first
        | (go_at_call 10; refine (awake_any _).mono ?_; rintro e w1 ⟨rfl, hb1⟩)
        | (go_at_call 11; refine (add_any _ _ (W64_intro (by omega) (by omega)) (W64_intro (by omega) (by omega)) _).mono ?_; rintro e w' ⟨rfl, rfl⟩; have E := E1.out)
        | (go_at_call 13; refine (mul_any _ _ (W64_intro (by omega) (by omega)) (W64_intro (by omega) (by omega)) _).mono ?_; rintro e w' ⟨rfl, rfl⟩; have E := E3.out; have E' := E4.out))
      go_ret
      exact ⟨rfl, hb1⟩
    · have E2 := Lib.hid (add_edge1 ⟨a1, a2⟩ h0)
      have c2 : (a == 0) = false := by simpa using h0
      have a3 : 1 ≤ a := by omega
      clear h0
      go_enter Try.func4, Try.ntmps4
      go_wp2_with (first
        | (go_at_call 10; refine (awake_any _).mono ?_; rintro e w1 ⟨rfl, hb1⟩)
        | (go_at_call 11; refine (add_any _ _ (W64_intro (by omega) (by omega)) (W64_intro (by omega) (by omega)) _).mono ?_; rintro e w' ⟨rfl, rfl⟩; have E := E1.out; have E' := E2.out)
        | (go_at_call 13; refine (mul_any _ _ (W64_intro (by omega) (by omega)) (W64_intro (by omega) (by omega)) _).mono ?_; rintro e w' ⟨rfl, rfl⟩; have E := E3.out; have E' := E4.out))
      go_ret
      exact ⟨rfl, hb1⟩
  · have m0 : satMul 18446744073709551615 1 = 18446744073709551615 := by decide
    have hb' : b < 1 ∨ b = 1 := by omega
    by_cases h0 : a = 0
    · subst h0
      rcases hb' with hb' | rfl
      all_goals
        go_enter Try.func4, Try.ntmps4
        go_wp2_with (first
          | (go_at_call 10; refine (awake_any _).mono ?_; rintro e w1 ⟨rfl, hb1⟩)
          | (go_at_call 11; refine (add_any _ _ (W64_intro (by omega) (by omega)) (W64_intro (by omega) (by omega)) _).mono ?_; rintro e w' ⟨rfl, rfl⟩; have E := E1.out)
          | (go_at_call 13; refine (mul_any _ _ (W64_intro (by omega) (by omega)) (W64_intro (by omega) (by omega)) _).mono ?_; rintro e w' ⟨rfl, rfl⟩))
        go_ret
        exact ⟨rfl, hb1⟩
    · have E2 := Lib.hid (add_edge1 ⟨a1, a2⟩ h0)
      have c2 : (a == 0) = false := by simpa using h0
      have a3 : 1 ≤ a := by omega
      clear h0
      rcases hb' with hb' | rfl
      all_goals
        go_enter Try.func4, Try.ntmps4
        go_wp2_with (first
          | (go_at_call 10; refine (awake_any _).mono ?_; rintro e w1 ⟨rfl, hb1⟩)
          | (go_at_call 11; refine (add_any _ _ (W64_intro (by omega) (by omega)) (W64_intro (by omega) (by omega)) _).mono ?_; rintro e w' ⟨rfl, rfl⟩; have E := E1.out; have E' := E2.out)
          | (go_at_call 13; refine (mul_any _ _ (W64_intro (by omega) (by omega)) (W64_intro (by omega) (by omega)) _).mono ?_; rintro e w' ⟨rfl, rfl⟩))
        go_ret
        exact ⟨rfl, hb1⟩
end Go.Proofs.Ytfhllncdimfdpaa
