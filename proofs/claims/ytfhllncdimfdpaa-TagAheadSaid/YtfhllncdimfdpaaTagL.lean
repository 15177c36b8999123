/- The walks of the seven laws on tags: each law answers true at every input. -/
import Derived.Test.YtfhllncdimfdpaaTag
namespace Go.Proofs.Ytfhllncdimfdpaa
set_option linter.unusedVariables false
set_option linter.unusedSimpArgs false
open Go.RowKit

theorem satAdd_W {a b : Int} (ha : W64 a) (hb : W64 b) : W64 (satAdd a b) := by
  unfold W64 satAdd at *; split <;> omega
theorem satMul_W {a b : Int} (ha : W64 a) (hb : W64 b) : W64 (satMul a b) := by
  have := mul_nn ha.1 hb.1
  unfold W64 satMul at *; split <;> omega
theorem satAdd_comm (a b : Int) : satAdd a b = satAdd b a := by unfold satAdd; rw [Int.add_comm]
theorem satMul_comm (a b : Int) : satMul a b = satMul b a := by unfold satMul; rw [Int.mul_comm]
theorem satAdd_assoc {a b c : Int} (ha : W64 a) (hb : W64 b) (hc : W64 c) : satAdd (satAdd a b) c = satAdd a (satAdd b c) := by
  unfold W64 satAdd at *; split <;> split <;> split <;> (try split) <;> omega
theorem le_mul_pos {a b : Int} (ha : 0 ≤ a) (hb : 1 ≤ b) : a ≤ a * b := by
  have := Int.mul_le_mul_of_nonneg_left hb ha
  omega
theorem satMul_assoc {a b c : Int} (ha : W64 a) (hb : W64 b) (hc : W64 c) : satMul (satMul a b) c = satMul a (satMul b c) := by
  have hab := mul_nn ha.1 hb.1
  have hbc := mul_nn hb.1 hc.1
  have e : a * b * c = a * (b * c) := Int.mul_assoc a b c
  by_cases a0 : a = 0
  · subst a0; simp [satMul]
  by_cases c0 : c = 0
  · subst c0; simp [satMul]
  by_cases b0 : b = 0
  · subst b0; simp [satMul]
  have a1 : 1 ≤ a := by have := ha.1; omega
  have b1 : 1 ≤ b := by have := hb.1; omega
  have c1 : 1 ≤ c := by have := hc.1; omega
  have h1 := le_mul_pos hab c1
  have h2 : b * c ≤ a * (b * c) := by rw [Int.mul_comm a]; exact le_mul_pos hbc a1
  have h3 : (18446744073709551615 : Int) ≤ 18446744073709551615 * c := le_mul_pos (by omega) c1
  have h4 : (18446744073709551615 : Int) ≤ a * 18446744073709551615 := by rw [Int.mul_comm a]; exact le_mul_pos (by omega) a1
  have h5 : a * b ≠ 18446744073709551615 ∨ True := .inr trivial
  unfold satMul
  by_cases g1 : a * b < 18446744073709551616 <;> by_cases g2 : b * c < 18446744073709551616
  · rw [if_pos g1, if_pos g2, e]
  · rw [if_pos g1, if_neg g2, e, if_neg (by omega)]
    by_cases g3 : a * 18446744073709551615 < 18446744073709551616
    · rw [if_pos g3]; omega
    · rw [if_neg g3]
  · rw [if_neg g1, if_pos g2]
    rw [if_neg (show ¬ a * (b * c) < 18446744073709551616 by omega)]
    by_cases g3 : 18446744073709551615 * c < 18446744073709551616
    · rw [if_pos g3]; omega
    · rw [if_neg g3]
  · rw [if_neg g1, if_neg g2]
    have x1 : (if 18446744073709551615 * c < 18446744073709551616 then 18446744073709551615 * c else 18446744073709551615) = (18446744073709551615 : Int) := by split <;> omega
    have x2 : (if a * 18446744073709551615 < 18446744073709551616 then a * 18446744073709551615 else 18446744073709551615) = (18446744073709551615 : Int) := by split <;> omega
    rw [x1, x2]

set_option maxHeartbeats 400000 in
theorem TagAll_walk (a b : Int) (ha : W64 a) (hb : W64 b) (w : World) :
    Calls Try.prog 3 #[.int .u64 a, .int .u64 b] w fun e w' => e = .returned (.bool true) ∧ Below w.heap.size w w' := by
  go_enter Try.func3, Try.ntmps3
  go_wp2_with (first
    | (go_at_call 10; refine (awake_any _).mono ?_; rintro e w1 ⟨rfl, hb1⟩)
    | (go_at_call 11; refine (add_any _ _ ha hb _).mono ?_; rintro e w' ⟨rfl, rfl⟩)
    | (go_at_call 12; refine (refAdd_any _ _ ha hb _).mono ?_; rintro e w' ⟨rfl, rfl⟩)
    | (go_at_call 13; refine (mul_any _ _ ha hb _).mono ?_; rintro e w' ⟨rfl, rfl⟩)
    | (go_at_call 14; refine (refMul_any _ _ ha hb _).mono ?_; rintro e w' ⟨rfl, rfl⟩))
  go_ret
  exact ⟨rfl, hb1⟩

theorem W64_intro {a : Int} (h : 0 ≤ a) (h' : a < 18446744073709551616) : W64 a := ⟨h, h'⟩
theorem add_edge {a : Int} (ha : W64 a) : satAdd a (18446744073709551615 - a) = 18446744073709551615 := by
  unfold W64 satAdd at *; split <;> omega
theorem add_edge1 {a : Int} (ha : W64 a) (h : a ≠ 0) : satAdd (a - 1) (18446744073709551615 - a) = 18446744073709551614 := by
  unfold W64 satAdd at *; split <;> omega
theorem quo_W {b : Int} (hb : 1 ≤ b) : 0 ≤ 18446744073709551615 / b ∧ 18446744073709551615 / b ≤ 18446744073709551615 :=
  ⟨Int.ediv_nonneg (by omega) (by omega), Int.ediv_le_self _ (by omega)⟩
theorem mul_edge {b : Int} (hb : 1 ≤ b) : satMul (18446744073709551615 / b) b = 18446744073709551615 / b * b ∧ 18446744073709551615 / b * b < 18446744073709551616 ∧ 0 ≤ 18446744073709551615 / b * b := by
  have h := Int.ediv_mul_le 18446744073709551615 (show b ≠ 0 by omega)
  have h2 := Int.mul_nonneg (quo_W hb).1 (show 0 ≤ b by omega)
  unfold satMul
  rw [if_pos (by omega)]
  exact ⟨rfl, by omega, h2⟩
theorem mul_edge1 {b : Int} (hb : 1 ≤ b) : satMul (18446744073709551615 / b + 1) b = 18446744073709551615 := by
  have h := Int.lt_ediv_add_one_mul_self 18446744073709551615 (show 0 < b by omega)
  unfold satMul
  by_cases g : (18446744073709551615 / b + 1) * b < 18446744073709551616
  · rw [if_pos g]; omega
  · rw [if_neg g]

def topQ (b : Int) : Int := 18446744073709551615 / b

end Go.Proofs.Ytfhllncdimfdpaa
