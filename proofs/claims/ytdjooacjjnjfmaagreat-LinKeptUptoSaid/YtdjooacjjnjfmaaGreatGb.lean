/- Several texts in one: Tag PlayMod Flow Flow2 Flow3 Flow4 Flow5 Flow6. -/
import Derived.Test.YtdjooacjjnjfmaaGreatRows
import Derived.WalkKit
import Derived.WalkSpells
import Derived.WalkLawsBesides
import Derived.Lib.Mul64
import Derived.Lib.Hide
import Derived.Laws.Bits64b
import Derived.Test.YtdjooacjjnjfmaaGreatGa
import Derived.Deep.LoopGhost
import Derived.Deep.RegionLaw
import Derived.BigRegion
import Derived.StillTailTactics
import Derived.Lib.SliceRun
-- The functions of package tag and of its reference, each by what it answers: sums and products held at the greatest number, what a unit of length costs, the order of items.
section
namespace Go.Proofs.YtdjooacjjnjfmaaGreat
set_option linter.unusedVariables false
set_option linter.unusedSimpArgs false
open Go.RowKit

theorem add64 (x y : Int) (hx : 0 ≤ x) (hy : 0 ≤ y) (w : World) : (callFunc 159 #[.int .u64 x, .int .u64 y, .int .u64 0]).run Tryz.prog w =
    .ok (.value (.tuple #[.int .u64 ((x + y) % 18446744073709551616), .int .u64 ((x + y) / 18446744073709551616)])) w := by
  obtain ⟨x, rfl⟩ := Int.eq_ofNat_of_zero_le hx
  obtain ⟨y, rfl⟩ := Int.eq_ofNat_of_zero_le hy
  rw [run_callFunc_extern Tryz.func159 (by kernel_rfl) (by kernel_rfl) (by kernel_rfl) (e := add64Entry) (by kernel_rfl), run_add64 x y 0 (by omega) (by omega) (by omega) (by omega)]
  simp only [Result.andThen]
  congr 5 <;> omega

/-- A word of 64 bits. -/
def W64 (x : Int) : Prop := 0 ≤ x ∧ x < 18446744073709551616
def satAdd (a b : Int) : Int := if a + b < 18446744073709551616 then a + b else 18446744073709551615
def satMul (a b : Int) : Int := if a * b < 18446744073709551616 then a * b else 18446744073709551615

set_option maxHeartbeats 400000 in
theorem add_any (a b : Int) (ha : W64 a) (hb : W64 b) (w : World) :
    Calls Tryz.prog 155 #[.int .u64 a, .int .u64 b] w fun e w' => e = .returned (.int .u64 (satAdd a b)) ∧ w = w' := by
  obtain ⟨a1, a2⟩ := ha; obtain ⟨b1, b2⟩ := hb
  have h := add64 a b a1 b1
  by_cases hc : a + b < 18446744073709551616
  · have E : Hid (satAdd a b = (a + b) % 18446744073709551616) := by unfold Hid satAdd; rw [if_pos hc]; omega
    have c0 : ((a + b) / 18446744073709551616 != 0) = false := by
      have : (a + b) / 18446744073709551616 = 0 := by omega
      rw [this]; rfl
    go_enter Tryz.func155, Tryz.ntmps155
    go_wp2
    go_ret
    exact ⟨by rw [E.out]; rfl, rfl⟩
  · have E : Hid (satAdd a b = 18446744073709551615) := by unfold Hid satAdd; rw [if_neg hc]
    have c0 : ((a + b) / 18446744073709551616 != 0) = true := by
      have : (a + b) / 18446744073709551616 = 1 := by omega
      rw [this]; rfl
    go_enter Tryz.func155, Tryz.ntmps155
    go_wp2
    go_ret
    exact ⟨by rw [E.out]; rfl, rfl⟩

set_option maxHeartbeats 400000 in
theorem refAdd_any (a b : Int) (ha : W64 a) (hb : W64 b) (w : World) :
    Calls Tryz.prog 126 #[.int .u64 a, .int .u64 b] w fun e w' => e = .returned (.int .u64 (satAdd a b)) ∧ w = w' := by
  obtain ⟨a1, a2⟩ := ha; obtain ⟨b1, b2⟩ := hb
  by_cases hc : a + b < 18446744073709551616
  · have E : Hid (satAdd a b = a + b) := by unfold Hid satAdd; rw [if_pos hc]
    go_enter Tryz.func126, Tryz.ntmps126
    go_wp2
    go_ret
    exact ⟨by rw [E.out]; rfl, rfl⟩
  · have E : Hid (satAdd a b = 18446744073709551615) := by unfold Hid satAdd; rw [if_neg hc]
    go_enter Tryz.func126, Tryz.ntmps126
    go_wp2
    go_ret
    exact ⟨by rw [E.out]; rfl, rfl⟩

namespace M64
theorem maskN (a : Nat) (ha : a < 18446744073709551616) : bits .and .u64 (a : Int) 4294967295 = ((a % 4294967296 : Nat) : Int) := by
  have h := bits_and_u64_nat a 4294967295 ha (by omega)
  have e : a &&& 4294967295 = a % 4294967296 := Nat.and_two_pow_sub_one_eq_mod a 32
  rw [e] at h
  exact h
theorem divN (a : Nat) : (a : Int) / 4294967296 = ((a / 4294967296 : Nat) : Int) := by omega
theorem mulN (a b : Nat) : (a : Int) * (b : Int) = ((a * b : Nat) : Int) := (Int.natCast_mul a b).symm
theorem addN (a b : Nat) : (a : Int) + (b : Int) = ((a + b : Nat) : Int) := (Int.natCast_add a b).symm
theorem wrapN (a : Nat) (ha : a < 18446744073709551616) : IntKind.u64.wrap (a : Int) = (a : Int) := by rw [IntKind.wrap_u64]; omega
theorem wrapM (a : Nat) : IntKind.u64.wrap (a : Int) = ((a % 18446744073709551616 : Nat) : Int) := by rw [IntKind.wrap_u64]; omega
end M64

set_option maxHeartbeats 1000000 in
theorem mul64_nat (x y : Nat) (hx : x < 18446744073709551616) (hy : y < 18446744073709551616) (w : World) :
    Calls Tryz.prog 162 #[.int .u64 x, .int .u64 y] w fun e w' => e = .returned (.tuple #[.int .u64 ((x * y / 18446744073709551616 : Nat) : Int), .int .u64 ((x * y % 18446744073709551616 : Nat) : Int)]) ∧ w = w' := by
  obtain ⟨bd, bt, bw, hhi⟩ := Lib.mul64_hi x y hx hy
  have ba := Lib.half_mul_le (a := x / 4294967296) (b := y / 4294967296) (by omega) (by omega)
  have bb := Lib.half_mul_le (a := x / 4294967296) (b := y % 4294967296) (by omega) (by omega)
  have bc := Lib.half_mul_le (a := x % 4294967296) (b := y / 4294967296) (by omega) (by omega)
  have ba' : x / 4294967296 * (y / 4294967296) < 18446744073709551616 := by omega
  have bb' : x / 4294967296 * (y % 4294967296) < 18446744073709551616 := by omega
  have bc' : x % 4294967296 * (y / 4294967296) < 18446744073709551616 := by omega
  have bh1 : x / 4294967296 * (y / 4294967296) + (x / 4294967296 * (y % 4294967296) + x % 4294967296 * (y % 4294967296) / 4294967296) / 4294967296 < 18446744073709551616 := by omega
  have bh : x / 4294967296 * (y / 4294967296) + (x / 4294967296 * (y % 4294967296) + x % 4294967296 * (y % 4294967296) / 4294967296) / 4294967296 + ((x / 4294967296 * (y % 4294967296) + x % 4294967296 * (y % 4294967296) / 4294967296) % 4294967296 + x % 4294967296 * (y / 4294967296)) / 4294967296 < 18446744073709551616 := by omega
  go_enter Tryz.func162, Tryz.ntmps162
  go_wp2
  simp only [M64.maskN x hx, M64.maskN y hy, M64.divN, M64.mulN, M64.addN, M64.wrapN _ bd, M64.wrapN _ bb', M64.wrapN _ bt, M64.maskN _ bt, M64.wrapN _ bc', M64.wrapN _ bw, M64.wrapN _ ba', M64.wrapN _ bh1, M64.wrapN _ bh, M64.wrapM (x * y)]
  rw [hhi]
  go_ret2
  exact ⟨rfl, rfl⟩

def hi64 (x y : Int) : Int := x * y / 18446744073709551616
def lo64 (x y : Int) : Int := x * y % 18446744073709551616
theorem mul64_any (x y : Int) (hx : W64 x) (hy : W64 y) (w : World) :
    Calls Tryz.prog 162 #[.int .u64 x, .int .u64 y] w fun e w' => e = .returned (.tuple #[.int .u64 (hi64 x y), .int .u64 (lo64 x y)]) ∧ w = w' := by
  obtain ⟨x1, x2⟩ := hx; obtain ⟨y1, y2⟩ := hy
  obtain ⟨x, rfl⟩ := Int.eq_ofNat_of_zero_le x1
  obtain ⟨y, rfl⟩ := Int.eq_ofNat_of_zero_le y1
  refine (mul64_nat x y (by omega) (by omega) w).mono ?_
  rintro e w' ⟨rfl, rfl⟩
  refine ⟨?_, rfl⟩
  simp only [hi64, lo64, M64.mulN, Int.natCast_ediv, Int.natCast_emod]
  rfl

theorem mul_nn {x y : Int} (hx : 0 ≤ x) (hy : 0 ≤ y) : 0 ≤ x * y := Int.mul_nonneg hx hy

set_option maxHeartbeats 400000 in
theorem mul_any (a b : Int) (ha : W64 a) (hb : W64 b) (w : World) :
    Calls Tryz.prog 160 #[.int .u64 a, .int .u64 b] w fun e w' => e = .returned (.int .u64 (satMul a b)) ∧ w = w' := by
  have hn := mul_nn ha.1 hb.1
  by_cases hc : a * b < 18446744073709551616
  · have E : Hid (satMul a b = lo64 a b) := by unfold Hid satMul lo64; rw [if_pos hc]; omega
    have c0 : (hi64 a b != 0) = false := by
      have : hi64 a b = 0 := by unfold hi64; omega
      rw [this]; rfl
    clear hc hn
    go_enter Tryz.func160, Tryz.ntmps160
    go_wp2_with (go_at_call 162; refine (mul64_any _ _ ha hb _).mono ?_; rintro e w' ⟨rfl, rfl⟩)
    go_ret
    exact ⟨by rw [E.out]; rfl, rfl⟩
  · have E : Hid (satMul a b = 18446744073709551615) := by unfold Hid satMul; rw [if_neg hc]
    have c0 : (hi64 a b != 0) = true := by
      have : hi64 a b ≠ 0 := by unfold hi64; omega
      simpa using this
    clear hc hn
    go_enter Tryz.func160, Tryz.ntmps160
    go_wp2_with (go_at_call 162; refine (mul64_any _ _ ha hb _).mono ?_; rintro e w' ⟨rfl, rfl⟩)
    go_ret
    exact ⟨by rw [E.out]; rfl, rfl⟩

theorem quo_gt {a b : Int} (ha : 0 < a) : 18446744073709551615 / a < b ↔ ¬ a * b < 18446744073709551616 := by
  rw [Int.ediv_lt_iff_lt_mul ha, Int.mul_comm]
  omega

set_option maxHeartbeats 400000 in
theorem refMul_any (a b : Int) (ha : W64 a) (hb : W64 b) (w : World) :
    Calls Tryz.prog 148 #[.int .u64 a, .int .u64 b] w fun e w' => e = .returned (.int .u64 (satMul a b)) ∧ w = w' := by
  obtain ⟨a1, a2⟩ := ha; obtain ⟨b1, b2⟩ := hb
  by_cases h0 : a = 0
  · subst h0
    go_enter Tryz.func148, Tryz.ntmps148
    go_wp2
    go_ret
    exact ⟨by simp [satMul], rfl⟩
  · have hp : 0 < a := by omega
    have c0 : (a != 0) = true := by simpa using h0
    have hq := quo_gt (b := b) hp
    have hn := mul_nn a1 b1
    by_cases hc : 18446744073709551615 / a < b
    · have E : Hid (satMul a b = 18446744073709551615) := by unfold Hid satMul; rw [if_neg (hq.1 hc)]
      have H := Lib.hid hq; clear hq h0
      go_enter Tryz.func148, Tryz.ntmps148
      go_wp2
      go_ret
      exact ⟨by rw [E.out]; rfl, rfl⟩
    · have hm : a * b < 18446744073709551616 := by
        by_cases h : a * b < 18446744073709551616
        · exact h
        · exact absurd (hq.2 h) hc
      have E : Hid (satMul a b = a * b) := by unfold Hid satMul; rw [if_pos hm]
      have F : Hid (IntKind.u64.wrap (a * b) = a * b) := by unfold Hid; rw [IntKind.wrap_u64]; omega
      have H := Lib.hid hq; clear hq h0
      go_enter Tryz.func148, Tryz.ntmps148
      go_wp2
      go_ret
      exact ⟨by rw [E.out]; first | rfl | (have := F.out; simp_all; rfl), rfl⟩

def invR (u k : Int) : Int := if 1 ≤ u ∧ u ≤ 4611686018427387904 ∧ 1 ≤ k ∧ k ≤ 65536 then max (u / k) 1 else 0
def invB (u k : Int) : Bool := decide (1 ≤ u ∧ u ≤ 4611686018427387904 ∧ 1 ≤ k ∧ k ≤ 65536)

set_option maxHeartbeats 400000 in
theorem inv_any (u k : Int) (hu : W64 u) (w : World) :
    Calls Tryz.prog 97 #[.int .u64 u, .int .i64 k] w fun e w' => e = .returned (.tuple #[.int .u64 (invR u k), .bool (invB u k)]) ∧ w = w' := by
  obtain ⟨u1, u2⟩ := hu
  by_cases h1 : u < 1
  · have E : Hid (invR u k = 0) := by unfold Hid invR; rw [if_neg (by omega)]
    have E2 : Hid (invB u k = false) := by unfold Hid invB; simp; omega
    go_enter Tryz.func97, Tryz.ntmps97
    go_wp2
    go_ret2
    exact ⟨by rw [E.out, E2.out]; rfl, rfl⟩
  by_cases h2 : 4611686018427387904 < u
  · have E : Hid (invR u k = 0) := by unfold Hid invR; rw [if_neg (by omega)]
    have E2 : Hid (invB u k = false) := by unfold Hid invB; simp; omega
    go_enter Tryz.func97, Tryz.ntmps97
    go_wp2
    go_ret2
    exact ⟨by rw [E.out, E2.out]; rfl, rfl⟩
  by_cases h3 : k < 1
  · have E : Hid (invR u k = 0) := by unfold Hid invR; rw [if_neg (by omega)]
    have E2 : Hid (invB u k = false) := by unfold Hid invB; simp; omega
    go_enter Tryz.func97, Tryz.ntmps97
    go_wp2
    go_ret2
    exact ⟨by rw [E.out, E2.out]; rfl, rfl⟩
  by_cases h4 : 65536 < k
  · have E : Hid (invR u k = 0) := by unfold Hid invR; rw [if_neg (by omega)]
    have E2 : Hid (invB u k = false) := by unfold Hid invB; simp; omega
    go_enter Tryz.func97, Tryz.ntmps97
    go_wp2
    go_ret2
    exact ⟨by rw [E.out, E2.out]; rfl, rfl⟩
  have E : Hid (invR u k = max (u / k) 1) := by unfold Hid invR; rw [if_pos (by omega)]
  have E2 : Hid (invB u k = true) := by unfold Hid invB; simp; omega
  go_enter Tryz.func97, Tryz.ntmps97
  go_wp2
  all_goals
    go_ret2
    refine ⟨?_, rfl⟩
    rw [E.out, E2.out]
    first | (rw [Int.max_eq_left (by omega)]; rfl) | (rw [Int.max_eq_right (by omega)]; rfl)

set_option maxHeartbeats 400000 in
theorem refInv_any (u k : Int) (hu : W64 u) (w : World) :
    Calls Tryz.prog 82 #[.int .u64 u, .int .i64 k] w fun e w' => e = .returned (.tuple #[.int .u64 (invR u k), .bool (invB u k)]) ∧ w = w' := by
  obtain ⟨u1, u2⟩ := hu
  by_cases h1 : u < 1
  · have E : Hid (invR u k = 0) := by unfold Hid invR; rw [if_neg (by omega)]
    have E2 : Hid (invB u k = false) := by unfold Hid invB; simp; omega
    go_enter Tryz.func82, Tryz.ntmps82
    go_wp2
    go_ret2
    exact ⟨by rw [E.out, E2.out]; rfl, rfl⟩
  by_cases h2 : 4611686018427387904 < u
  · have E : Hid (invR u k = 0) := by unfold Hid invR; rw [if_neg (by omega)]
    have E2 : Hid (invB u k = false) := by unfold Hid invB; simp; omega
    go_enter Tryz.func82, Tryz.ntmps82
    go_wp2
    go_ret2
    exact ⟨by rw [E.out, E2.out]; rfl, rfl⟩
  by_cases h3 : k < 1
  · have E : Hid (invR u k = 0) := by unfold Hid invR; rw [if_neg (by omega)]
    have E2 : Hid (invB u k = false) := by unfold Hid invB; simp; omega
    go_enter Tryz.func82, Tryz.ntmps82
    go_wp2
    go_ret2
    exact ⟨by rw [E.out, E2.out]; rfl, rfl⟩
  by_cases h4 : 65536 < k
  · have E : Hid (invR u k = 0) := by unfold Hid invR; rw [if_neg (by omega)]
    have E2 : Hid (invB u k = false) := by unfold Hid invB; simp; omega
    go_enter Tryz.func82, Tryz.ntmps82
    go_wp2
    go_ret2
    exact ⟨by rw [E.out, E2.out]; rfl, rfl⟩
  have E : Hid (invR u k = max (u / k) 1) := by unfold Hid invR; rw [if_pos (by omega)]
  have E2 : Hid (invB u k = true) := by unfold Hid invB; simp; omega
  go_enter Tryz.func82, Tryz.ntmps82
  go_wp2
  all_goals
    go_ret2
    refine ⟨?_, rfl⟩
    rw [E.out, E2.out]
    first | (rw [Int.max_eq_left (by omega)]; rfl) | (rw [Int.max_eq_right (by omega)]; rfl)

/-- What a length costs: nothing below 0. -/
def costOf (n r : Int) : Int := satMul (max n 0) r

set_option maxHeartbeats 400000 in
theorem cost_any (n r : Int) (hn : n ≤ 9223372036854775807) (hr : W64 r) (w : World) :
    Calls Tryz.prog 156 #[.int .i64 n, .int .u64 r] w fun e w' => e = .returned (.int .u64 (costOf n r)) ∧ w = w' := by
  by_cases h : n < 0
  · have E : Hid (costOf n r = satMul 0 r) := by unfold Hid costOf; rw [Int.max_eq_right (by omega)]
    go_enter Tryz.func156, Tryz.ntmps156
    go_wp2_with (go_at_call 160; refine (mul_any _ _ (by unfold W64; omega) hr _).mono ?_; rintro e w' ⟨rfl, rfl⟩)
    go_ret
    exact ⟨by rw [E.out]; rfl, rfl⟩
  · have E : Hid (costOf n r = satMul n r) := by unfold Hid costOf; rw [Int.max_eq_left (by omega)]
    go_enter Tryz.func156, Tryz.ntmps156
    go_wp2_with (go_at_call 160; refine (mul_any _ _ (by unfold W64; omega) hr _).mono ?_; rintro e w' ⟨rfl, rfl⟩)
    go_ret
    exact ⟨by rw [E.out]; rfl, rfl⟩

set_option maxHeartbeats 400000 in
theorem refCost_any (n r : Int) (hn : n ≤ 9223372036854775807) (hr : W64 r) (w : World) :
    Calls Tryz.prog 127 #[.int .i64 n, .int .u64 r] w fun e w' => e = .returned (.int .u64 (costOf n r)) ∧ w = w' := by
  by_cases h : n < 0
  · have E : Hid (costOf n r = satMul 0 r) := by unfold Hid costOf; rw [Int.max_eq_right (by omega)]
    go_enter Tryz.func127, Tryz.ntmps127
    go_wp2_with (go_at_call 148; refine (refMul_any _ _ (by unfold W64; omega) hr _).mono ?_; rintro e w' ⟨rfl, rfl⟩)
    go_ret
    exact ⟨by rw [E.out]; rfl, rfl⟩
  · have E : Hid (costOf n r = satMul n r) := by unfold Hid costOf; rw [Int.max_eq_left (by omega)]
    go_enter Tryz.func127, Tryz.ntmps127
    go_wp2_with (go_at_call 148; refine (refMul_any _ _ (by unfold W64; omega) hr _).mono ?_; rintro e w' ⟨rfl, rfl⟩)
    go_ret
    exact ⟨by rw [E.out]; rfl, rfl⟩

def aheadB (k i l j : Int) : Bool := decide (k < l ∨ (k = l ∧ i < j))

set_option maxHeartbeats 400000 in
theorem ahead_any (k i l j : Int) (w : World) :
    Calls Tryz.prog 141 #[.agg #[.int .u64 k, .int .i64 i], .agg #[.int .u64 l, .int .i64 j]] w fun e w' => e = .returned (.bool (aheadB k i l j)) ∧ Below w.heap.size w w' := by
  by_cases h1 : k < l
  · have E : Hid (aheadB k i l j = true) := by unfold Hid aheadB; simp; omega
    go_enter Tryz.func141, Tryz.ntmps141
    go_wp2
    go_ret
    exact ⟨by rw [E.out]; rfl, by repeat (first | exact Below.refl _ _ | refine Below.alloc ?_ (by simp) _ | refine Below.drew ?_)⟩
  by_cases h2 : k = l
  · subst h2
    by_cases h3 : i < j
    · have E : Hid (aheadB k i k j = true) := by unfold Hid aheadB; simp; omega
      go_enter Tryz.func141, Tryz.ntmps141
      go_wp2
      go_ret
      exact ⟨by rw [E.out]; rfl, by repeat (first | exact Below.refl _ _ | refine Below.alloc ?_ (by simp) _ | refine Below.drew ?_)⟩
    · have E : Hid (aheadB k i k j = false) := by unfold Hid aheadB; simp; omega
      have hd : decide (i < j) = false := by simpa using h3
      go_enter Tryz.func141, Tryz.ntmps141
      go_wp2
      go_ret
      exact ⟨by rw [E.out]; rfl, by repeat (first | exact Below.refl _ _ | refine Below.alloc ?_ (by simp) _ | refine Below.drew ?_)⟩
  · have E : Hid (aheadB k i l j = false) := by unfold Hid aheadB; simp; omega
    have h2' : (k == l) = false := by simpa using h2
    go_enter Tryz.func141, Tryz.ntmps141
    go_wp2
    go_ret
    exact ⟨by rw [E.out]; rfl, by repeat (first | exact Below.refl _ _ | refine Below.alloc ?_ (by simp) _ | refine Below.drew ?_)⟩

end Go.Proofs.YtdjooacjjnjfmaaGreat
end

-- weighbridgeplay.Mod: any number as one from 0 to n - 1.
section
namespace Go.Proofs.YtdjooacjjnjfmaaGreat
set_option linter.unusedVariables false
set_option linter.unusedSimpArgs false
open Go.RowKit
def modZ (v n : Int) : Int := IntKind.u64.wrap v % n
theorem modZ_bd (v : Int) {n : Int} (h : 1 ≤ n) : 0 ≤ modZ v n ∧ modZ v n < n := by
  unfold modZ; exact ⟨Int.emod_nonneg _ (by omega), Int.emod_lt_of_pos _ (by omega)⟩

set_option maxHeartbeats 400000 in
theorem mod_any (v n : Int) (h1 : 1 ≤ n) (h2 : n ≤ 9223372036854775807) (w : World) :
    Calls Tryz.prog 20 #[.int .i64 v, .int .i64 n] w fun e w' => e = .returned (.int .i64 (modZ v n)) ∧ w = w' := by
  have wb : 0 ≤ IntKind.u64.wrap v ∧ IntKind.u64.wrap v < 18446744073709551616 := by rw [IntKind.wrap_u64]; omega
  obtain ⟨wb1, wb2⟩ := wb
  have hnn : IntKind.u64.wrap n = n := by rw [IntKind.wrap_u64]; omega
  have hm := modZ_bd v h1
  have E : Hid (modZ v n = IntKind.u64.wrap v % n) := rfl
  have q1 : 0 ≤ IntKind.u64.wrap v % n := hm.1
  have q2 : IntKind.u64.wrap v % n < n := hm.2
  go_enter Tryz.func20, Tryz.ntmps20
  go_wp2
  go_ret
  exact ⟨by rw [E.out]; rfl, rfl⟩
end Go.Proofs.YtdjooacjjnjfmaaGreat
end

-- A flow of the program and one of the reference, as they lie in memory, and what they are as plain data.
section
namespace Go.Proofs.YtdjooacjjnjfmaaGreat
set_option linter.unusedVariables false
set_option linter.unusedSimpArgs false
open Go.RowKit Go.Proofs.YtdjooacjjnjfmaaGreatMem

structure Pk where
  flow : Int
  len : Int
  mark : Int
  deriving DecidableEq
def Pk.cells (p : Pk) : List Value := [.int .i64 p.flow, .int .i64 p.len, .int .i64 p.mark]
def Pk.val (p : Pk) : Value := .agg #[.int .i64 p.flow, .int .i64 p.len, .int .i64 p.mark]
def Pk.Ok (p : Pk) : Prop := I64 p.flow ∧ I64 p.len ∧ I64 p.mark
def Pk.zero : Pk := ⟨0, 0, 0⟩
def pks (l : List Pk) : List Value := l.flatMap Pk.cells
theorem pks_length (l : List Pk) : (pks l).length = l.length * 3 := by
  induction l with
  | nil => rfl
  | cons p l ih => simp [pks, Pk.cells] at *; omega
theorem pks_append (a b : List Pk) : pks (a ++ b) = pks a ++ pks b := by simp [pks]
theorem pks_cons (p : Pk) (l : List Pk) : pks (p :: l) = p.cells ++ pks l := by simp [pks]
theorem pks_one (l : List Pk) : ∀ u ∈ pks l, u.oneCell' = true := by
  intro u hu
  simp only [pks, List.mem_flatMap, Pk.cells] at hu
  obtain ⟨p, _, hu⟩ := hu
  simp only [List.mem_cons, List.not_mem_nil, or_false] at hu
  rcases hu with rfl | rfl | rfl <;> rfl

/-- A flow as plain data. -/
structure FlS where
  r : Int
  most : Int
  start : Int
  finish : Int
  l : List Pk
structure FlS.Ok (x : FlS) : Prop where
  r : W64 x.r
  start : W64 x.start
  finish : W64 x.finish
  m1 : 1 ≤ x.most
  m8 : x.most ≤ 8
  len : (x.l.length : Int) ≤ x.most
  pk : ∀ p ∈ x.l, p.Ok
def FlS.new (r most : Int) : FlS := ⟨r, min (max most 1) 8, 0, 0, []⟩
def FlS.full (x : FlS) : Bool := decide ((x.l.length : Int) = x.most)
def FlS.put (x : FlS) (v : Int) (p : Pk) : FlS := { x with start := if x.l = [] then max v x.finish else x.start, l := x.l ++ [p] }
def FlS.arrive (x : FlS) (v : Int) (p : Pk) : FlS := if x.full then x else x.put v p
def FlS.fin (x : FlS) (p : Pk) : Int := satAdd x.start (costOf p.len x.r)
def FlS.serve (x : FlS) : FlS := match x.l with | [] => x | p :: rest => { x with finish := x.fin p, start := x.fin p, l := rest }

/-- What may be changed of an object behind a call: what was its own, and what was made since. -/
def Ext (F : Nat → Prop) (w w' : World) : Nat → Prop := fun k => F k ∨ (w.heap.size ≤ k ∧ k < w'.heap.size)
def Lt (F : Nat → Prop) (w : World) : Prop := ∀ k, F k → k < w.heap.size
theorem Lt.ext {F : Nat → Prop} {w w' : World} (h : Lt F w) (hs : w.heap.size ≤ w'.heap.size) : Lt (Ext F w w') w' := fun k hk => by
  rcases hk with hk | hk
  · have := h k hk; omega
  · exact hk.2
theorem Lt.mono {F : Nat → Prop} {w w' : World} (h : Lt F w) (hs : w.heap.size ≤ w'.heap.size) : Lt F w' := fun k hk => Nat.lt_of_lt_of_le (h k hk) hs

/-- A flow of the program at block b; F: the blocks that are its own (and, it may be, more). -/
def FlowAt (w : World) (b : Nat) (x : FlS) (F : Nat → Prop) : Prop :=
  ∃ ao cap, Blk w b [.int .u64 x.r, .int .i64 x.most, .slice ao x.l.length cap, .int .u64 x.start, .int .u64 x.finish] 180 ∧ w.ownsRow 0 59 3 (.slice ao x.l.length cap) x.l.length (pks x.l) ∧
    F b ∧ (∀ a, ao = some a → F a.block ∧ a.block ≠ b) ∧ Lt F w
theorem FlowAt.fr {w w' : World} {b : Nat} {x : FlS} {F S : Nat → Prop} (h : FlowAt w b x F) (hf : Fr S w w') (hn : ∀ k, F k → ¬ S k) : FlowAt w' b x F := by
  obtain ⟨ao, cap, hb, ho, h1, h2, h3⟩ := h
  refine ⟨ao, cap, hb.fr hf (hn b h1), owns_fr ho hf fun k hk => ?_, h1, h2, h3.mono hf.size⟩
  cases ao with
  | none => cases hk
  | some a => cases hk; exact hn _ (h2 a rfl).1
theorem FlowAt.below {w w' : World} {b : Nat} {x : FlS} {F : Nat → Prop} (h : FlowAt w b x F) (hb : Below w.heap.size w w') : FlowAt w' b x F := h.fr (Fr.of_below (S := fun _ => False) hb) (fun _ _ f => f)
theorem FlowAt.mono {w : World} {b : Nat} {x : FlS} {F G : Nat → Prop} (h : FlowAt w b x F) (hF : ∀ k, F k → G k) (hG : Lt G w) : FlowAt w b x G := by
  obtain ⟨ao, cap, hb, ho, h1, h2, h3⟩ := h
  exact ⟨ao, cap, hb, ho, hF b h1, fun a ha => ⟨hF _ (h2 a ha).1, (h2 a ha).2⟩, hG⟩

theorem EP : ElT Tryz.prog 36 59 (.agg #[.int .i64 0, .int .i64 0, .int .i64 0]) 3 := ⟨Tryz.underlying36, ⟨24, by kernel_rfl, by omega⟩, rfl, by omega⟩

set_option maxHeartbeats 400000 in
theorem len_any (b : Nat) (x : FlS) (F : Nat → Prop) (w : World) (h : FlowAt w b x F) :
    Calls Tryz.prog 116 #[.pointer (some ⟨b, 0, none⟩)] w fun e w' => e = .returned (.int .i64 x.l.length) ∧ w = w' := by
  obtain ⟨ao, cap, hb, ho, -⟩ := h
  have c2 := hb.cell 2
  simp only [List.getElem?_cons_succ, List.getElem?_cons_zero] at c2
  go_enter Tryz.func116, Tryz.ntmps116
  go_wp2
  go_ret
  exact ⟨rfl, rfl⟩


def FlS.start0 (x : FlS) : Int := if x.l = [] then 0 else x.start
def FlS.has (x : FlS) : Bool := !x.l.isEmpty
set_option maxHeartbeats 400000 in
theorem start_any (b : Nat) (x : FlS) (F : Nat → Prop) (w : World) (h : FlowAt w b x F) :
    Calls Tryz.prog 140 #[.pointer (some ⟨b, 0, none⟩)] w fun e w' => e = .returned (.tuple #[.int .u64 x.start0, .bool x.has]) ∧ w = w' := by
  obtain ⟨ao, cap, hb, ho, -⟩ := h
  have c2 := hb.cell 2
  have c3 := hb.cell 3
  simp only [List.getElem?_cons_succ, List.getElem?_cons_zero] at c2 c3
  by_cases hl : x.l = []
  · have E : Hid (x.start0 = 0) := by unfold Hid FlS.start0; rw [if_pos hl]
    have E2 : Hid (x.has = false) := by unfold Hid FlS.has; rw [hl]; rfl
    have e1 : ((x.l.length : Int) == 0) = true := by rw [hl]; rfl
    clear hl hb ho
    go_enter Tryz.func140, Tryz.ntmps140
    go_wp2
    go_ret2
    exact ⟨by rw [E.out, E2.out]; rfl, rfl⟩
  · have E : Hid (x.start0 = x.start) := by unfold Hid FlS.start0; rw [if_neg hl]
    have E2 : Hid (x.has = true) := by unfold Hid FlS.has; simpa using hl
    have e1 : ((x.l.length : Int) == 0) = false := by
      have : x.l.length ≠ 0 := fun h0 => hl (List.eq_nil_of_length_eq_zero h0)
      simp; omega
    clear hl hb ho
    go_enter Tryz.func140, Tryz.ntmps140
    go_wp2
    go_ret2
    exact ⟨by rw [E.out, E2.out]; rfl, rfl⟩
end Go.Proofs.YtdjooacjjnjfmaaGreat
end

-- A flow of the program, next: making one, its first packet, a packet that comes, a copy.
section
namespace Go.Proofs.YtdjooacjjnjfmaaGreat
set_option linter.unusedVariables false
set_option linter.unusedSimpArgs false
open Go.RowKit Go.Proofs.YtdjooacjjnjfmaaGreatMem

def FlS.head (x : FlS) : Pk := match x.l with | [] => Pk.zero | p :: _ => p

/-- The cells of the first packet. -/
theorem FlowAt.first {w : World} {b : Nat} {x : FlS} {F : Nat → Prop} {p : Pk} {rest : List Pk} (h : FlowAt w b x F) (hl : x.l = p :: rest) :
    ∃ g cap, Blk w b [.int .u64 x.r, .int .i64 x.most, .slice (some ⟨g, 0, none⟩) (rest.length + 1) cap, .int .u64 x.start, .int .u64 x.finish] 180 ∧ w.ownsRow 0 59 3 (.slice (some ⟨g, 0, none⟩) (rest.length + 1) cap) (rest.length + 1) (p.cells ++ pks rest) ∧ F b ∧ F g ∧ g ≠ b ∧ Lt F w ∧
      rest.length + 1 ≤ cap ∧ w.cell? ⟨g, 0, none⟩ = some (.int .i64 p.flow) ∧ w.cell? ⟨g, 1, none⟩ = some (.int .i64 p.len) ∧ w.cell? ⟨g, 2, none⟩ = some (.int .i64 p.mark) := by
  obtain ⟨ao, cap, hb, ho, h1, h2, h3⟩ := h
  rw [hl] at hb ho
  simp only [List.length_cons] at hb ho
  obtain ⟨g, cap', hv, _, hlt⟩ := ho.form (by omega)
  simp only [Value.slice.injEq] at hv
  obtain ⟨rfl, _, rfl⟩ := hv
  rw [pks_cons] at ho
  have hc := (owns_cap ho).2.1
  refine ⟨g, cap, hb, ho, h1, (h2 _ rfl).1, (h2 _ rfl).2, h3, hc, ?_, ?_, ?_⟩
  · rw [ho.cellAt 0 (by omega)]; rfl
  · rw [ho.cellAt 1 (by omega)]; rfl
  · rw [ho.cellAt 2 (by omega)]; rfl

theorem below1 (w : World) (o : Obj) : Below w.heap.size w (w.alloc o) := (Below.refl _ _).alloc (Nat.le_refl _) _

set_option maxHeartbeats 400000 in
theorem head_any (b : Nat) (x : FlS) (F : Nat → Prop) (w : World) (h : FlowAt w b x F) :
    Calls Tryz.prog 142 #[.pointer (some ⟨b, 0, none⟩)] w fun e w' => e = .returned (.tuple #[x.head.val, .bool x.has]) ∧ Below w.heap.size w w' := by
  have hlt : b < w.heap.size := by obtain ⟨ao, cap, hb, -⟩ := h; exact hb.lt
  cases hl : x.l with
  | nil =>
    obtain ⟨ao, cap, hb, ho, -⟩ := h
    rw [hl] at hb
    have c2 := hb.cell 2
    simp only [List.getElem?_cons_succ, List.getElem?_cons_zero, List.length_nil] at c2
    have E : Hid (x.head = Pk.zero) := by unfold Hid FlS.head; rw [hl]
    have E2 : Hid (x.has = false) := by unfold Hid FlS.has; rw [hl]; rfl
    clear hl hb ho
    go_enter Tryz.func142, Tryz.ntmps142
    go_wp2
    refine bodyPost_ret (v := .tuple #[.agg #[.int .i64 0, .int .i64 0, .int .i64 0], .bool false]) (by simp [results, Tryz.results142, go_sem]) rfl ⟨by rw [E.out, E2.out]; rfl, ?_⟩
    repeat (first | exact Below.refl _ _ | refine Below.setCell ?_ (by simp) _ | refine Below.alloc ?_ (by simp) _)
  | cons p rest =>
    obtain ⟨g, cap, hb, ho, hFb, hFg, hne, hF, hcap, f0, f1, f2⟩ := h.first hl
    have c2 := hb.cell 2
    simp only [List.getElem?_cons_succ, List.getElem?_cons_zero, List.length_cons] at c2
    have E : Hid (x.head = p) := by unfold Hid FlS.head; rw [hl]
    have E2 : Hid (x.has = true) := by unfold Hid FlS.has; rw [hl]; rfl
    have hlg : g < w.heap.size := hF g hFg
    have i1 : (0 : Int) < ((rest.length + 1 : Nat) : Int) := by omega
    have e1 : (((rest.length + 1 : Nat) : Int) == 0) = false := by simp; omega
    clear hl hb ho
    go_enter Tryz.func142, Tryz.ntmps142
    go_wp2
    refine bodyPost_ret (v := .tuple #[.agg #[.int .i64 p.flow, .int .i64 p.len, .int .i64 p.mark], .bool true]) (by simp [results, Tryz.results142, go_sem]) rfl ⟨by rw [E.out, E2.out]; rfl, ?_⟩
    repeat (first | exact Below.refl _ _ | refine Below.setCell ?_ (by simp) _ | refine Below.alloc ?_ (by simp) _)

/-- A call that makes an object. -/
def MkPost (R : World → Nat → (Nat → Prop) → Prop) (w : World) (e : Ending) (w' : World) : Prop := ∃ b, e = .returned (.pointer (some ⟨b, 0, none⟩)) ∧ R w' b (fun k => w.heap.size ≤ k ∧ k < w'.heap.size) ∧ Below w.heap.size w w'

set_option maxHeartbeats 400000 in
theorem new_any (r most : Int) (w : World) :
    Calls Tryz.prog 115 #[.int .u64 r, .int .i64 most] w (MkPost (fun w' b F => FlowAt w' b (FlS.new r most) F) w) := by
  have hm : (most < 1 ∧ FlS.new r most = ⟨r, 1, 0, 0, []⟩) ∨ (1 ≤ most ∧ most ≤ 8 ∧ FlS.new r most = ⟨r, most, 0, 0, []⟩) ∨ (8 < most ∧ FlS.new r most = ⟨r, 8, 0, 0, []⟩) := by
    unfold FlS.new
    by_cases h1 : most < 1
    · left; exact ⟨h1, by congr 1; omega⟩
    · by_cases h2 : most ≤ 8
      · right; left; exact ⟨by omega, h2, by congr 1; omega⟩
      · right; right; exact ⟨by omega, by congr 1; omega⟩
  rcases hm with ⟨h1, he⟩ | ⟨h1, h2, he⟩ | ⟨h1, he⟩
  all_goals
    have E := Lib.hid he
    clear he
    go_enter Tryz.func115, Tryz.ntmps115
    go_wp2
    go_ret
    refine ⟨w.heap.size, rfl, ?_, below1 _ _⟩
    rw [E.out]
    exact ⟨none, 0, Blk.new w _ _, owns_nil _ _ _ _, ⟨Nat.le_refl _, by simp⟩, (fun a h => by cases h), fun k hk => hk.2⟩
end Go.Proofs.YtdjooacjjnjfmaaGreat
end

-- A flow of the program, next: a packet that comes.
section
namespace Go.Proofs.YtdjooacjjnjfmaaGreat
set_option linter.unusedVariables false
set_option linter.unusedSimpArgs false
open Go.RowKit Go.Proofs.YtdjooacjjnjfmaaGreatMem

/-- What a call on a flow leaves: the flow as it is then, and all else as it was. -/
def FlowPost (b : Nat) (x' : FlS) (F : Nat → Prop) (w w' : World) : Prop := FlowAt w' b x' (Ext F w w') ∧ Fr F w w'

theorem own_ne {ao : Option Addr} {n c b : Nat} {F : Nat → Prop} (h : ∀ a, ao = some a → F a.block ∧ a.block ≠ b) : (Value.slice ao n c).ownBlock ≠ some b := by
  cases ao with
  | none => intro e; cases e
  | some a => intro e; cases e; exact (h a rfl).2 rfl

theorem pk_cells (p : Pk) : (#[.int .i64 p.flow, .int .i64 p.len, .int .i64 p.mark] : Array Value).toList = p.cells := rfl
theorem put_post {w W1 w3 : World} {b : Nat} {x : FlS} {F : Nat → Prop} {p : Pk} {ao a' : Option Addr} {cap c' : Nat} {st : Int}
    (B3 : Blk w3 b [.int .u64 x.r, .int .i64 x.most, .slice ao x.l.length cap, .int .u64 st, .int .u64 x.finish] 180)
    (hown : w3.ownsRow 0 59 3 (.slice a' (x.l.length + 1) c') (x.l.length + 1) (pks x.l ++ p.cells)) (hfr : FreshOr W1 (.slice ao x.l.length cap) (.slice a' (x.l.length + 1) c')) (hW : w.heap.size ≤ W1.heap.size)
    (hf : Fr F w w3) (hFb : F b) (hFa : ∀ a, ao = some a → F a.block ∧ a.block ≠ b) (hF : Lt F w) :
    FlowPost b { x with start := st, l := x.l ++ [p] } F w (w3.setCell ⟨b, 2, none⟩ (.slice a' (x.l.length + 1) c')) := by
  have hbl : b < w.heap.size := hF b hFb
  have hne : ∀ a, a' = some a → (F a.block ∨ (w.heap.size ≤ a.block ∧ a.block < w3.heap.size)) ∧ a.block ≠ b := by
    intro a ha
    subst ha
    have hlt := (hown.lt a.block rfl).2
    rcases hfr with h | h
    · cases ao with
      | none => cases h
      | some a0 =>
        simp only [Value.ownBlock, Option.some.injEq] at h
        rw [h]; exact ⟨.inl (hFa a0 rfl).1, (hFa a0 rfl).2⟩
    · have := h a.block rfl
      exact ⟨.inr ⟨by omega, hlt⟩, by omega⟩
  have hs : (w3.setCell ⟨b, 2, none⟩ (.slice a' (x.l.length + 1) c')).heap.size = w3.heap.size := by simp [World.setCell]
  refine ⟨⟨a', c', ?_, ?_, .inl hFb, ?_, ?_⟩, hf.setCell (.inl hFb) _⟩
  · have := B3.set 2 (.slice a' (x.l.length + 1) c')
    simpa using this
  · have : ({ x with start := st, l := x.l ++ [p] } : FlS).l.length = x.l.length + 1 := by simp
    rw [this]
    show (w3.setCell ⟨b, 2, none⟩ _).ownsRow 0 _ 3 _ _ (pks (x.l ++ [p]))
    rw [pks_append, show pks [p] = p.cells by simp [pks]]
    refine owns_fr (S := fun k => k = b) hown (Fr.setCell (S := fun k => k = b) (a := ⟨b, 2, none⟩) (Fr.refl _ _) (.inl rfl) _) fun k hk => ?_
    intro e
    cases a' with
    | none => cases hk
    | some a => cases hk; exact (hne a rfl).2 e
  · intro a ha
    have := hne a ha
    exact ⟨by unfold Ext; rw [hs]; exact this.1, this.2⟩
  · exact hF.ext (by rw [hs]; exact hf.size)

set_option maxHeartbeats 1000000 in
theorem arrive_full (b : Nat) (x : FlS) (F : Nat → Prop) (v : Int) (p : Pk) (w : World) (h : FlowAt w b x F) (hf : x.full = true) :
    Calls Tryz.prog 117 #[.pointer (some ⟨b, 0, none⟩), .int .u64 v, .agg #[.int .i64 p.flow, .int .i64 p.len, .int .i64 p.mark]] w fun e w' => e = .returned (.bool false) ∧ Below w.heap.size w w' := by
  have hlt : b < w.heap.size := by obtain ⟨ao, cap, hb, -⟩ := h; exact hb.lt
  obtain ⟨ao, cap, hb, ho, -⟩ := h
  have c1 := hb.cell 1
  have c2 := hb.cell 2
  simp only [List.getElem?_cons_succ, List.getElem?_cons_zero] at c1 c2
  have e1 : ((x.l.length : Int) == x.most) = true := by simpa [FlS.full] using hf
  clear hf hb ho
  go_enter Tryz.func117, Tryz.ntmps117
  go_wp2
  go_ret
  exact ⟨rfl, below1 _ _⟩

set_option maxHeartbeats 1000000 in
theorem arrive_more (b : Nat) (x : FlS) (F : Nat → Prop) (v : Int) (p : Pk) (w : World) (h : FlowAt w b x F) (ok : x.Ok) (hf : x.full = false) (hl : x.l ≠ []) :
    Calls Tryz.prog 117 #[.pointer (some ⟨b, 0, none⟩), .int .u64 v, .agg #[.int .i64 p.flow, .int .i64 p.len, .int .i64 p.mark]] w fun e w' => e = .returned (.bool true) ∧ FlowPost b (x.put v p) F w w' := by
  have hlt : b < w.heap.size := by obtain ⟨ao, cap, hb, -⟩ := h; exact hb.lt
  obtain ⟨ao, cap, hb, ho, hFb, hFa, hF⟩ := h
  have n8 : x.l.length ≤ 8 := by have := ok.len; have := ok.m8; omega
  have e1 : ((x.l.length : Int) == x.most) = false := by simpa [FlS.full] using hf
  have e2 : ((x.l.length : Int) == 0) = false := by
    have : x.l.length ≠ 0 := fun h0 => hl (List.eq_nil_of_length_eq_zero h0)
    simp; omega
  have HL := Lib.hid hl
  clear hf hl
  have c1 := hb.cell 1
  have c2 := hb.cell 2
  have fz := hb.frozen 2
  simp only [List.getElem?_cons_succ, List.getElem?_cons_zero] at c1 c2
  have HB := Lib.hid hb
  have hn2 : x.l.length + 1 ≤ 1099511627776 := by omega
  clear hb
  go_enter Tryz.func117, Tryz.ntmps117
  go_wp2_with fail
  go_region_law (refine step_ap_new (w.alloc (.cells #[.int .i64 p.flow, .int .i64 p.len, .int .i64 p.mark] 59)) _ EP (by rfl) _ _ (by rfl) 0 _ x.l.length _ (by rfl) (ho.alloc _) (by omega) 1 (by simp [Act.eval, Act.put]) (by rfl) (by simp [Value.oneCell']) hn2 ?_; intro v' w3 hown3 hg3 hb3 hfr3; obtain ⟨a', c', rfl⟩ := owns_slice hown3; have B3 := Lib.hid ((HB.out.alloc (.cells #[.int .i64 p.flow, .int .i64 p.len, .int .i64 p.mark] 59)).grown hg3 (own_ne hFa)); have d2 := B3.out.cell 2; have dz := B3.out.frozen 2; simp only [List.getElem?_cons_succ, List.getElem?_cons_zero] at d2)
  all_goals
    go_wp2
    go_ret
    refine ⟨rfl, ?_⟩
    have e : x.put v p = { x with start := x.start, l := x.l ++ [p] } := by unfold FlS.put; rw [if_neg HL.out]
    rw [e]
    have hfr : Fr F w w3 := ((Fr.refl F w).alloc _).grown hg3 fun k hk => by
      cases ao with
      | none => cases hk
      | some a => cases hk; exact .inl (hFa a rfl).1
    exact put_post B3.out hown3 hfr3 (by simp) hfr hFb hFa hF

set_option maxHeartbeats 2000000 in
theorem arrive_first (b : Nat) (x : FlS) (F : Nat → Prop) (v : Int) (p : Pk) (w : World) (h : FlowAt w b x F) (ok : x.Ok) (hl : x.l = []) :
    Calls Tryz.prog 117 #[.pointer (some ⟨b, 0, none⟩), .int .u64 v, .agg #[.int .i64 p.flow, .int .i64 p.len, .int .i64 p.mark]] w fun e w' => e = .returned (.bool true) ∧ FlowPost b (x.put v p) F w w' := by
  have hlt : b < w.heap.size := by obtain ⟨ao, cap, hb, -⟩ := h; exact hb.lt
  obtain ⟨ao, cap, hb, ho, hFb, hFa, hF⟩ := h
  have hz : x.l.length = 0 := by rw [hl]; rfl
  have e1 : ((x.l.length : Int) == x.most) = false := by have := ok.m1; rw [hz]; simp; omega
  have e2 : ((x.l.length : Int) == 0) = true := by rw [hz]; rfl
  have HL := Lib.hid hl
  have HZ := Lib.hid hz
  clear hz hl
  have c1 := hb.cell 1
  have c2 := hb.cell 2
  have c3 := hb.cell 3
  have c4 := hb.cell 4
  have fz := hb.frozen 3
  simp only [List.getElem?_cons_succ, List.getElem?_cons_zero] at c1 c2 c3 c4
  have HB := Lib.hid hb
  have hn2 : x.l.length + 1 ≤ 1099511627776 := by rw [HZ.out]; omega
  clear hb
  have hcase : (v < x.finish ∧ x.put v p = { x with start := x.finish, l := x.l ++ [p] }) ∨ (x.finish ≤ v ∧ x.put v p = { x with start := v, l := x.l ++ [p] }) := by
    unfold FlS.put; rw [if_pos HL.out]
    by_cases h : v < x.finish
    · left; exact ⟨h, by congr 1; omega⟩
    · right; exact ⟨by omega, by congr 1; omega⟩
  rcases hcase with ⟨hv, he⟩ | ⟨hv, he⟩
  · have HE := Lib.hid he
    clear he
    let W1 := (w.setCell ⟨b, 3, none⟩ (.int .u64 x.finish)).alloc (.cells #[.int .i64 p.flow, .int .i64 p.len, .int .i64 p.mark] 59)
    have hsz : w.heap.size ≤ W1.heap.size := by simp [W1, World.setCell]
    have hfr1 : Fr F w W1 := ((Fr.refl F w).setCell (a := ⟨b, 3, none⟩) (.inl hFb) _).alloc _
    have hB1 : Blk W1 b [.int .u64 x.r, .int .i64 x.most, .slice ao x.l.length cap, .int .u64 x.finish, .int .u64 x.finish] 180 := by
      have := (HB.out.set 3 (.int .u64 x.finish)).alloc (.cells #[.int .i64 p.flow, .int .i64 p.len, .int .i64 p.mark] 59)
      simpa using this
    have ho1 : W1.ownsRow 0 59 3 (.slice ao x.l.length cap) x.l.length (pks x.l) := by
      refine World.ownsRow.alloc (owns_fr (S := fun k => k = b) ho (Fr.setCell (S := fun k => k = b) (a := ⟨b, 3, none⟩) (Fr.refl _ _) (.inl rfl) _) fun k hk => ?_) _
      cases ao with
      | none => cases hk
      | some a => cases hk; exact (hFa a rfl).2
    go_enter Tryz.func117, Tryz.ntmps117
    go_wp2_with fail
    go_region_law (refine step_ap_new W1 _ EP (by rfl) _ _ (by rfl) 0 _ x.l.length _ (by rfl) ho1 (by omega) 1 (by simp [W1, Act.eval, Act.put]) (by rfl) (by simp [Value.oneCell']) hn2 ?_; intro v' w3 hown3 hg3 hb3 hfr3; obtain ⟨a', c', rfl⟩ := owns_slice hown3; have B3 := Lib.hid (hB1.grown hg3 (own_ne hFa)); have d2 := B3.out.cell 2; have dz := B3.out.frozen 2; simp only [List.getElem?_cons_succ, List.getElem?_cons_zero] at d2)
    all_goals
      go_wp2
      go_ret
      refine ⟨rfl, ?_⟩
      rw [HE.out]
      have hfr : Fr F w w3 := hfr1.grown hg3 fun k hk => by
        cases ao with
        | none => cases hk
        | some a => cases hk; exact .inl (hFa a rfl).1
      exact put_post B3.out hown3 hfr3 hsz hfr hFb hFa hF
  · have HE := Lib.hid he
    clear he
    let W1 := (w.setCell ⟨b, 3, none⟩ (.int .u64 v)).alloc (.cells #[.int .i64 p.flow, .int .i64 p.len, .int .i64 p.mark] 59)
    have hsz : w.heap.size ≤ W1.heap.size := by simp [W1, World.setCell]
    have hfr1 : Fr F w W1 := ((Fr.refl F w).setCell (a := ⟨b, 3, none⟩) (.inl hFb) _).alloc _
    have hB1 : Blk W1 b [.int .u64 x.r, .int .i64 x.most, .slice ao x.l.length cap, .int .u64 v, .int .u64 x.finish] 180 := by
      have := (HB.out.set 3 (.int .u64 v)).alloc (.cells #[.int .i64 p.flow, .int .i64 p.len, .int .i64 p.mark] 59)
      simpa using this
    have ho1 : W1.ownsRow 0 59 3 (.slice ao x.l.length cap) x.l.length (pks x.l) := by
      refine World.ownsRow.alloc (owns_fr (S := fun k => k = b) ho (Fr.setCell (S := fun k => k = b) (a := ⟨b, 3, none⟩) (Fr.refl _ _) (.inl rfl) _) fun k hk => ?_) _
      cases ao with
      | none => cases hk
      | some a => cases hk; exact (hFa a rfl).2
    go_enter Tryz.func117, Tryz.ntmps117
    go_wp2_with fail
    go_region_law (refine step_ap_new W1 _ EP (by rfl) _ _ (by rfl) 0 _ x.l.length _ (by rfl) ho1 (by omega) 1 (by simp [W1, Act.eval, Act.put]) (by rfl) (by simp [Value.oneCell']) hn2 ?_; intro v' w3 hown3 hg3 hb3 hfr3; obtain ⟨a', c', rfl⟩ := owns_slice hown3; have B3 := Lib.hid (hB1.grown hg3 (own_ne hFa)); have d2 := B3.out.cell 2; have dz := B3.out.frozen 2; simp only [List.getElem?_cons_succ, List.getElem?_cons_zero] at d2)
    all_goals
      go_wp2
      go_ret
      refine ⟨rfl, ?_⟩
      rw [HE.out]
      have hfr : Fr F w w3 := hfr1.grown hg3 fun k hk => by
        cases ao with
        | none => cases hk
        | some a => cases hk; exact .inl (hFa a rfl).1
      exact put_post B3.out hown3 hfr3 hsz hfr hFb hFa hF
end Go.Proofs.YtdjooacjjnjfmaaGreat
end

-- A flow of the program, next: the three steps of serving.
section
namespace Go.Proofs.YtdjooacjjnjfmaaGreat
set_option linter.unusedVariables false
set_option linter.unusedSimpArgs false
open Go.RowKit Go.Proofs.YtdjooacjjnjfmaaGreatMem

theorem satAdd_w64 {a b : Int} (ha : W64 a) (hb : W64 b) : W64 (satAdd a b) := by
  obtain ⟨a1, a2⟩ := ha; obtain ⟨b1, b2⟩ := hb
  unfold W64 satAdd; split <;> omega
theorem satMul_w64 {a b : Int} (ha : 0 ≤ a) (hb : 0 ≤ b) : W64 (satMul a b) := by
  have := Int.mul_nonneg ha hb
  unfold W64 satMul; split <;> omega
theorem costOf_w64 {n r : Int} (hr : W64 r) : W64 (costOf n r) := satMul_w64 (by omega) hr.1
theorem FlS.fin_w64 {x : FlS} (ok : x.Ok) (p : Pk) : W64 (x.fin p) := satAdd_w64 ok.start (costOf_w64 ok.r)

/-- A store to a number of the flow. -/
theorem num_post {w w1 : World} {b : Nat} {x : FlS} {F : Nat → Prop} (h : FlowAt w b x F) (hb : Below w.heap.size w w1) :
    (∀ v, FlowPost b { x with start := v } F w (w1.setCell ⟨b, 3, none⟩ (.int .u64 v))) ∧ (∀ v, FlowPost b { x with finish := v } F w (w1.setCell ⟨b, 4, none⟩ (.int .u64 v))) := by
  have hlt : Lt F w := by obtain ⟨ao, cap, hb, ho, h1, h2, h3⟩ := h; exact h3
  have h1 := h.below hb
  obtain ⟨ao, cap, hB, ho, hF1, hF2, hF3⟩ := h1
  have hf : Fr F w w1 := Fr.of_below hb
  refine ⟨fun v => ⟨⟨ao, cap, ?_, ?_, .inl hF1, fun a ha => ⟨.inl (hF2 a ha).1, (hF2 a ha).2⟩, hlt.ext (by simpa [World.setCell] using hb.size)⟩, hf.setCell (.inl hF1) _⟩, fun v => ⟨⟨ao, cap, ?_, ?_, .inl hF1, fun a ha => ⟨.inl (hF2 a ha).1, (hF2 a ha).2⟩, hlt.ext (by simpa [World.setCell] using hb.size)⟩, hf.setCell (.inl hF1) _⟩⟩
  · simpa using hB.set 3 (.int .u64 v)
  · refine owns_fr (S := fun k => k = b) ho (Fr.setCell (S := fun k => k = b) (a := ⟨b, 3, none⟩) (Fr.refl _ _) (.inl rfl) _) fun k hk => ?_
    cases ao with
    | none => cases hk
    | some a => cases hk; exact (hF2 a rfl).2
  · simpa using hB.set 4 (.int .u64 v)
  · refine owns_fr (S := fun k => k = b) ho (Fr.setCell (S := fun k => k = b) (a := ⟨b, 4, none⟩) (Fr.refl _ _) (.inl rfl) _) fun k hk => ?_
    cases ao with
    | none => cases hk
    | some a => cases hk; exact (hF2 a rfl).2

set_option maxHeartbeats 400000 in
theorem turn_any (b : Nat) (x : FlS) (F : Nat → Prop) (w : World) (h : FlowAt w b x F) :
    Calls Tryz.prog 145 #[.pointer (some ⟨b, 0, none⟩)] w fun e w' => e = .returned (.tuple #[]) ∧ FlowPost b { x with start := x.finish } F w w' := by
  have P := Lib.hid (num_post h (Below.refl _ _)).1
  obtain ⟨ao, cap, hb, ho, -⟩ := h
  have hlt := hb.lt
  have c3 := hb.cell 3
  have c4 := hb.cell 4
  have fz := hb.frozen 3
  simp only [List.getElem?_cons_succ, List.getElem?_cons_zero] at c3 c4
  clear hb ho
  go_enter Tryz.func145, Tryz.ntmps145
  go_wp2
  go_end0
  exact ⟨rfl, P.out x.finish⟩

set_option maxRecDepth 20000 in
set_option maxHeartbeats 1000000 in
theorem charge_any (b : Nat) (x : FlS) (F : Nat → Prop) (w : World) (p : Pk) (rest : List Pk) (h : FlowAt w b x F) (ok : x.Ok) (hl : x.l = p :: rest) :
    Calls Tryz.prog 143 #[.pointer (some ⟨b, 0, none⟩)] w fun e w' => e = .returned (.tuple #[]) ∧ FlowPost b { x with finish := x.fin p } F w w' := by
  have P := Lib.hid fun w1 (hb : Below w.heap.size w w1) => (num_post h hb).2 (x.fin p)
  have hp := ok.pk p (by rw [hl]; simp)
  have hr := ok.r
  have hs := ok.start
  have hc : W64 (costOf p.len x.r) := costOf_w64 hr
  have hn : p.len ≤ 9223372036854775807 := hp.2.1.2
  obtain ⟨g, cap, hb, ho, hFb, hFg, hne, hF, hcap, f0, f1, f2⟩ := h.first hl
  have hlt := hb.lt
  have hlg : g < w.heap.size := hF g hFg
  have c0 := hb.cell 0
  have c2 := hb.cell 2
  have c3 := hb.cell 3
  have c4 := hb.cell 4
  have fz := hb.frozen 4
  have i1 : (0 : Int) < ((rest.length + 1 : Nat) : Int) := by omega
  simp only [List.getElem?_cons_succ, List.getElem?_cons_zero] at c0 c2 c3 c4
  clear hb ho hl h hp ok
  go_enter Tryz.func143, Tryz.ntmps143
  go_wp2_with fail
  go_still_tail 18, (by kernel_rfl)
  still_call ((cost_any _ _ hn hr _).mono fun e w' h => ⟨h.1, h.2.symm⟩)
  still_call ((add_any _ _ hs hc _).mono fun e w' h => ⟨h.1, h.2.symm⟩)
  refine wpStill_nil ?_
  change wpList _ _ _ _ _ w.drew
  go_wp2
  go_end0
  exact ⟨rfl, P.out _ ((Below.refl _ _).drew)⟩
end Go.Proofs.YtdjooacjjnjfmaaGreat
end

-- A flow of the program, next: cloning its packets, dropping the first, serving, a copy.
section
namespace Go.Proofs.YtdjooacjjnjfmaaGreat
set_option linter.unusedVariables false
set_option maxRecDepth 20000
set_option linter.unusedSimpArgs false
open Go.RowKit Go.Proofs.YtdjooacjjnjfmaaGreatMem

theorem FlowPost.trans {b : Nat} {x1 x2 : FlS} {F : Nat → Prop} {w w1 w2 : World} (h : FlowPost b x1 F w w1) (k : FlowPost b x2 (Ext F w w1) w1 w2) : FlowPost b x2 F w w2 := by
  have s1 := h.2.size
  have s2 := k.2.size
  refine ⟨?_, ?_⟩
  · have hF : ∀ i, Ext (Ext F w w1) w1 w2 i → Ext F w w2 i := by
      intro i hi
      rcases hi with (hi | hi) | hi
      · exact .inl hi
      · exact .inr ⟨hi.1, by omega⟩
      · exact .inr ⟨by omega, hi.2⟩
    refine k.1.mono hF ?_
    obtain ⟨ao, cap, -, -, -, -, hlt⟩ := k.1
    have hl1 : Lt (Ext F w w1) w1 := by obtain ⟨ao, cap, -, -, -, -, hlt⟩ := h.1; exact hlt
    intro i hi
    rcases hi with hi | hi
    · have := hl1 i (.inl hi); omega
    · exact hi.2
  · exact h.2.trans k.2 fun i hi s => by
      rcases s with s | s
      · exact s
      · omega
theorem FlowPost.of_below {b : Nat} {x : FlS} {F : Nat → Prop} {w w1 : World} (h : FlowAt w b x F) (hb : Below w.heap.size w w1) : FlowPost b x F w w1 := by
  have hlt : Lt F w := by obtain ⟨ao, cap, -, -, -, -, hlt⟩ := h; exact hlt
  exact ⟨(h.below hb).mono (fun k hk => .inl hk) (hlt.ext hb.size), Fr.of_below hb⟩
theorem FlowPost.then_below {b : Nat} {x : FlS} {F : Nat → Prop} {w w1 w2 : World} (h : FlowPost b x F w w1) (hb : Below w1.heap.size w1 w2) : FlowPost b x F w w2 := h.trans (FlowPost.of_below h.1 hb)

theorem FlowPost.refl {b : Nat} {x : FlS} {F : Nat → Prop} {w : World} (h : FlowAt w b x F) : FlowPost b x F w w := FlowPost.of_below h (Below.refl _ _)
theorem FlowPost.after_below {b : Nat} {x : FlS} {F : Nat → Prop} {w w1 w2 : World} (hF : Lt F w) (hb : Below w.heap.size w w1) (h : FlowPost b x F w1 w2) : FlowPost b x F w w2 := by
  have s1 := hb.size
  have s2 := h.2.size
  refine ⟨h.1.mono (fun k hk => ?_) (hF.ext (by omega)), Fr.after_below hb h.2⟩
  rcases hk with hk | hk
  · exact .inl hk
  · exact .inr ⟨by omega, hk.2⟩
theorem l_post {w w1 : World} {b : Nat} {x : FlS} {F : Nat → Prop} {l' : List Pk} {v' : Value} (h : FlowAt w b x F) (hb : Below w.heap.size w w1) (hown : w1.ownsRow w.heap.size 59 3 v' l'.length (pks l')) :
    FlowPost b { x with l := l' } F w (w1.setCell ⟨b, 2, none⟩ v') := by
  have hltF : Lt F w := by obtain ⟨ao, cap, -, -, -, -, hlt⟩ := h; exact hlt
  obtain ⟨ao, cap, hB, ho, h1, h2, -⟩ := h.below hb
  obtain ⟨a', c', rfl⟩ := owns_slice hown
  have hbl := hltF b h1
  have hne : ∀ a, a' = some a → (w.heap.size ≤ a.block ∧ a.block < w1.heap.size) := fun a ha => by subst ha; exact hown.lt a.block rfl
  have hs : (w1.setCell ⟨b, 2, none⟩ (.slice a' l'.length c')).heap.size = w1.heap.size := by simp [World.setCell]
  refine ⟨⟨a', c', ?_, ?_, .inl h1, ?_, hltF.ext (by rw [hs]; exact hb.size)⟩, (Fr.of_below hb).setCell (.inl h1) _⟩
  · simpa using hB.set 2 (.slice a' l'.length c')
  · refine owns_base (owns_fr (S := fun k => k = b) hown (Fr.setCell (S := fun k => k = b) (a := ⟨b, 2, none⟩) (Fr.refl _ _) (.inl rfl) _) fun k hk => ?_) (Nat.zero_le _)
    cases a' with
    | none => cases hk
    | some a => cases hk; intro e; have := hne a rfl; omega
  · intro a ha
    have := hne a ha
    exact ⟨.inr ⟨this.1, by rw [hs]; exact this.2⟩, by omega⟩

/-- The rest of a row of packets, behind its first one. -/
theorem owns_rest {w : World} {e : TypeId} {g cap : Nat} {p : Pk} {rest : List Pk} (h : w.ownsRow 0 e 3 (.slice (some ⟨g, 0, none⟩) (rest.length + 1) cap) (rest.length + 1) (p.cells ++ pks rest)) : RdS w (some ⟨g, 3, none⟩) rest.length (cap - 1) 3 (pks rest) := by
  have hc := owns_cap h
  refine ⟨pks_length _, by omega, (fun h => by cases h), by have := hc.2.2.1; unfold maxLen at this; omega, pks_one _, fun j u hu => ?_⟩
  obtain ⟨g', e, _, hlt, hcell⟩ := owns_at (j := 3 + j) h (u := u) (by rw [List.getElem?_append_right (by simp [Pk.cells])]; simpa [Pk.cells] using hu)
  simp only [Option.some.injEq, Addr.mk.injEq] at e
  obtain ⟨rfl, -⟩ := e
  exact ⟨g, 3, rfl, hlt, by rw [← hcell]; congr 2; omega⟩

theorem owns_empty3 (w : World) (base e : Nat) (hb : base ≤ w.heap.size) : (w.alloc (.cells #[] e)).ownsRow base e 3 (.slice (some ⟨w.heap.size, 0, none⟩) 0 0) 0 [] := owns_empty w base e 3 hb

set_option maxHeartbeats 1000000 in
theorem cloneP_any (ao : Option Addr) (n cap : Nat) (l : List Pk) (w : World) (h : RdS w ao n cap 3 (pks l)) (hl : l.length = n) (hn : n ≤ 549755813888) :
    Calls Tryz.prog 88 #[.slice ao n cap] w (RetRow w 59 3 n (pks l)) := by
  have hse := fun w a n c => Lib.run_eql_slice_nil (P := Tryz.prog) w 36 59 a n c 0 0 Tryz.underlying36
  cases ao with
  | none =>
    obtain ⟨rfl, rfl⟩ := h.nil rfl
    have e : l = [] := List.eq_nil_of_length_eq_zero hl
    subst e
    go_enter Tryz.func88, Tryz.ntmps88
    go_wp2
    go_ret
    exact ⟨_, rfl, World.ownsRow_nil _ _ _ _, Below.refl _ _⟩
  | some ad =>
    have hl2 : (pks l).length = n * 3 := by rw [pks_length, hl]
    have hc : ∀ j u, (pks l)[j]? = some u → ∃ b off, some ad = some ⟨b, off, none⟩ ∧ (w.alloc (.cells #[] 59)).cell? ⟨b, off + j, none⟩ = some u := by
      intro j u hu
      obtain ⟨b, off, e, hlt, hc⟩ := (h.below ((Below.refl _ _).alloc (Nat.le_refl _) (.cells #[] 59))).at_ j u hu
      exact ⟨b, off, e, hc⟩
    have h1 : ∀ u ∈ pks l, u.oneCell' = true := pks_one l
    have hn2 : 0 + n ≤ 1099511627776 := by omega
    have HC := Lib.hid hc
    have H1 := Lib.hid h1
    have HL := Lib.hid hl2
    clear hc h1 hl2 hl
    go_enter Tryz.func88, Tryz.ntmps88
    go_wp2_with ((at_builtin; refine ap_src (w.alloc (.cells #[] 59)) EP rfl _ _ rfl w.heap.size _ 0 _ rfl (owns_empty w w.heap.size 59 3 (Nat.le_refl _)) (by simp) (some ad) n cap (pks l) rfl (fun h => by cases h) HL.out HC.out H1.out hn2 ?_; intro v' w3 hown3 hg3 hb3 hfr3))
    go_ret
    exact ⟨_, rfl, by simpa using hown3, ((Below.refl _ _).alloc (Nat.le_refl _) _).trans hb3⟩

set_option maxHeartbeats 1000000 in
theorem drop_any (b : Nat) (x : FlS) (F : Nat → Prop) (w : World) (p : Pk) (rest : List Pk) (h : FlowAt w b x F) (ok : x.Ok) (hl : x.l = p :: rest) :
    Calls Tryz.prog 144 #[.pointer (some ⟨b, 0, none⟩)] w fun e w' => e = .returned (.tuple #[]) ∧ FlowPost b { x with l := rest } F w w' := by
  have P := Lib.hid fun w1 v' (hb : Below w.heap.size w w1) (hown : w1.ownsRow w.heap.size 59 3 v' rest.length (pks rest)) => l_post h hb hown
  have hr8 : rest.length + 1 ≤ 8 := by have h1 := ok.m8; have h2 := ok.len; rw [hl] at h2; simp at h2; omega
  obtain ⟨g, cap, hb, ho, hFb, hFg, hne, hF, hcap, f0, f1, f2⟩ := h.first hl
  have R := Lib.hid (owns_rest ho)
  have hlt := hb.lt
  have hlg : g < w.heap.size := hF g hFg
  have c2 := hb.cell 2
  simp only [List.getElem?_cons_succ, List.getElem?_cons_zero] at c2
  have HB := Lib.hid hb
  clear hb ho hl h ok
  rcases (show cap = 1 ∨ 2 ≤ cap by omega) with hcp | hcp
  · subst hcp
    have e : rest = [] := List.eq_nil_of_length_eq_zero (by omega)
    subst e
    have R0 : RdS w (some ⟨g, 0, none⟩) 0 0 3 (pks []) := ⟨rfl, by omega, (fun h => by cases h), by omega, pks_one _, fun j u hu => by cases hu⟩
    go_enter Tryz.func144, Tryz.ntmps144
    go_wp2_with (go_at_call 88; refine (cloneP_any (some ⟨g, 0, none⟩) 0 0 [] _ R0 rfl (by omega)).mono ?_; rintro e w1 ⟨v, rfl, hown, hb⟩; obtain ⟨a', c', rfl⟩ := owns_slice hown; have d2 := (HB.out.below hb).cell 2; have fz := (HB.out.below hb).frozen 2; simp only [List.getElem?_cons_succ, List.getElem?_cons_zero] at d2)
    go_end0
    exact ⟨rfl, P.out _ _ hb hown⟩
  · go_enter Tryz.func144, Tryz.ntmps144
    go_wp2_with (go_at_call 88; refine (cloneP_any (some ⟨g, 3, none⟩) rest.length (cap - 1) rest _ R.out rfl (by omega)).mono ?_; rintro e w1 ⟨v, rfl, hown, hb⟩; obtain ⟨a', c', rfl⟩ := owns_slice hown; have d2 := (HB.out.below hb).cell 2; have fz := (HB.out.below hb).frozen 2; simp only [List.getElem?_cons_succ, List.getElem?_cons_zero] at d2)
    go_end0
    exact ⟨rfl, P.out _ _ hb hown⟩

/-- The flow behind the first steps of serving. -/
def FlS.stepped (x : FlS) (p : Pk) (rest : List Pk) : Nat → FlS
  | 0 => x
  | 1 => { x with finish := x.fin p }
  | 2 => { x with finish := x.fin p, l := rest }
  | _ => { x with finish := x.fin p, start := x.fin p, l := rest }

set_option maxHeartbeats 1000000 in
theorem serve_none (b : Nat) (x : FlS) (F : Nat → Prop) (w : World) (h : FlowAt w b x F) (hl : x.l = []) :
    Calls Tryz.prog 121 #[.pointer (some ⟨b, 0, none⟩)] w fun e w' => e = .returned (.tuple #[Pk.zero.val, .int .u64 0, .bool false]) ∧ Below w.heap.size w w' := by
  have H : ∀ w', Below w.heap.size w w' → FlowAt w' b x F := fun w' hb => h.below hb
  have hh : x.has = false := by unfold FlS.has; rw [hl]; rfl
  have hd : x.head = Pk.zero := by unfold FlS.head; rw [hl]
  have HH := Lib.hid H
  have HD := Lib.hid hd
  clear H hd h hl
  go_enter Tryz.func121, Tryz.ntmps121
  go_wp2_with (go_at_call 142; refine (head_any b x F _ (HH.out _ (below1 _ _))).mono ?_; rw [hh, HD.out]; rintro e w1 ⟨rfl, hb1⟩; simp only [Pk.val, Pk.zero]; have B := (Blk.new w [.int .i64 0, .int .i64 0, .int .i64 0] 59).below hb1; have t0 := B.cell 0; have t1 := B.cell 1; have t2 := B.cell 2; have tf := B.frozen; have tl := B.lt; simp only [List.getElem?_cons_succ, List.getElem?_cons_zero] at t0 t1 t2)
  refine bodyPost_ret (v := .tuple #[.agg #[.int .i64 0, .int .i64 0, .int .i64 0], .int .u64 0, .bool false]) (by simp [results, Tryz.results121, go_sem, t0, t1, t2, tl, World.cell?_alloc_past]) rfl ⟨rfl, ?_⟩
  have hbb : Below w.heap.size w w1 := (below1 w _).trans (hb1.mono (by simp))
  repeat (first | exact hbb | refine Below.setCell ?_ (by simp) _ | refine Below.alloc ?_ (by first | exact hbb.size | (simp; exact hbb.size)) _)

theorem FlS.head_cons {x : FlS} {p : Pk} {rest : List Pk} (hl : x.l = p :: rest) : x.head = p := by unfold FlS.head; rw [hl]

theorem idx3_0 (a b c : Value) (wx : World) : (Instr.index 184 (.agg #[a, b, c]) (.int .i64 0)).run Tryz.prog wx = .ok a wx := rfl
theorem idx3_1 (a b c : Value) (wx : World) : (Instr.index 184 (.agg #[a, b, c]) (.int .i64 1)).run Tryz.prog wx = .ok b wx := rfl
theorem idx3_2 (a b c : Value) (wx : World) : (Instr.index 184 (.agg #[a, b, c]) (.int .i64 2)).run Tryz.prog wx = .ok c wx := rfl
def ServePost (b : Nat) (x : FlS) (F : Nat → Prop) (w : World) (p : Pk) (rest : List Pk) (en : Ending) (w' : World) : Prop :=
  en = .returned (.tuple #[p.val, .int .u64 (x.fin p), .bool true]) ∧ FlowPost b (x.stepped p rest 3) F w w'

theorem serve_end {b : Nat} {x : FlS} {F : Nat → Prop} {w W2 wr : World} {a c d : Value} {t : Nat} (hb2 : Below w.heap.size w W2) (hF : Lt F w) (h1 : t = w.heap.size) (h2 : w.heap.size < W2.heap.size) (h : FlowPost b x F W2 wr) :
    FlowPost b x F w (((wr.drew.setCell ⟨t, 0, none⟩ a).setCell ⟨t, 1, none⟩ c).setCell ⟨t, 2, none⟩ d) := by
  subst h1
  have hn : ∀ k, Ext F W2 wr k → ¬ (k = w.heap.size) := by
    intro k hk e
    rcases hk with hk | hk
    · have := hF k hk; omega
    · omega
  have f0 : Fr (fun k => k = w.heap.size) wr wr.drew := (Fr.refl _ _).drew
  have f1 : Fr (fun k => k = w.heap.size) wr (wr.drew.setCell ⟨w.heap.size, 0, none⟩ a) := f0.setCell (.inl rfl) a
  have f2 : Fr (fun k => k = w.heap.size) wr ((wr.drew.setCell ⟨w.heap.size, 0, none⟩ a).setCell ⟨w.heap.size, 1, none⟩ c) := f1.setCell (.inl rfl) c
  have hf : Fr (fun k => k = w.heap.size) wr (((wr.drew.setCell ⟨w.heap.size, 0, none⟩ a).setCell ⟨w.heap.size, 1, none⟩ c).setCell ⟨w.heap.size, 2, none⟩ d) := f2.setCell (.inl rfl) d
  have hh := FlowPost.after_below hF hb2 h
  refine ⟨(h.1.fr hf hn).mono (fun k hk => ?_) (hF.ext ?_), ?_⟩
  · have := hf.size
    have := hb2.size
    rcases hk with hk | hk
    · exact .inl hk
    · exact .inr ⟨by omega, by omega⟩
  · exact Nat.le_trans (Nat.le_trans hb2.size h.2.size) hf.size
  · exact hh.2.trans hf fun i hi e => by omega

set_option maxHeartbeats 2000000 in
theorem serve_some (b : Nat) (x : FlS) (F : Nat → Prop) (w : World) (p : Pk) (rest : List Pk) (h : FlowAt w b x F) (ok : x.Ok) (hl : x.l = p :: rest) :
    Calls Tryz.prog 121 #[.pointer (some ⟨b, 0, none⟩)] w (ServePost b x F w p rest) := by
  have H : ∀ w', Below w.heap.size w w' → FlowAt w' b x F := fun w' hb => h.below hb
  have H0 : ∀ w', Below w.heap.size w w' → FlowPost b (x.stepped p rest 0) F w' w' := fun w' hb => FlowPost.refl (h.below hb)
  have hh : x.has = true := by unfold FlS.has; rw [hl]; rfl
  have hd : x.head = p := FlS.head_cons hl
  have hbF : b < w.heap.size ∧ (∀ k, F k → k < w.heap.size) := by obtain ⟨ao, cap, hb, -, -, -, hlt⟩ := h; exact ⟨hb.lt, hlt⟩
  have ok1 : (x.stepped p rest 1).Ok := ⟨ok.r, ok.start, FlS.fin_w64 ok p, ok.m1, ok.m8, ok.len, ok.pk⟩
  have C0 := fun W wr (hr : FlowPost b (x.stepped p rest 0) F W wr) => charge_any b x (Ext F W wr) wr p rest hr.1 ok hl
  have C1 := fun W wr (hr : FlowPost b (x.stepped p rest 1) F W wr) => drop_any b (x.stepped p rest 1) (Ext F W wr) wr p rest hr.1 ok1 hl
  have C2 := fun W wr (hr : FlowPost b (x.stepped p rest 2) F W wr) => turn_any b (x.stepped p rest 2) (Ext F W wr) wr hr.1
  have HH := Lib.hid H
  have HH0 := Lib.hid H0
  have HC0 := Lib.hid C0
  have HC1 := Lib.hid C1
  have HC2 := Lib.hid C2
  have HD := Lib.hid hd
  have hix0 := fun a b c wx => idx3_0 a b c wx
  have hix1 := fun a b c wx => idx3_1 a b c wx
  have hix2 := fun a b c wx => idx3_2 a b c wx
  have hmf : ∀ fn first cap w, (Instr.makeFunc fn first cap).run Tryz.prog w = .ok (.func fn first cap) w := fun _ _ _ _ => rfl
  clear H H0 C0 C1 C2 hd h hl ok ok1
  go_enter Tryz.func121, Tryz.ntmps121
  go_wp2_with (go_at_call 142; refine (head_any b x F _ (HH.out _ (below1 _ _))).mono ?_; rw [hh, HD.out]; rintro e w1 ⟨rfl, hb1⟩; simp only [Pk.val, Pk.zero]; have B := (Blk.new w [.int .i64 0, .int .i64 0, .int .i64 0] 59).below hb1; have t0 := B.cell 0; have t1 := B.cell 1; have t2 := B.cell 2; have tf := B.frozen; have tl := B.lt; simp only [List.getElem?_cons_succ, List.getElem?_cons_zero] at t0 t1 t2)
  have hb2 : Below w.heap.size w (w1.alloc (.cells #[.int .i64 p.flow, .int .i64 p.len, .int .i64 p.mark] 59)) := ((below1 w _).trans (hb1.mono (by simp))).alloc (by have := hb1.size; simp at this; omega) _
  have q0 := Blk.new w1 [.int .i64 p.flow, .int .i64 p.len, .int .i64 p.mark] 59
  have z0 := B.alloc (.cells #[.int .i64 p.flow, .int .i64 p.len, .int .i64 p.mark] 59)
  have hn1 : ¬ F w1.heap.size := fun h => by have := hbF.2 _ h; omega
  have hn2 : ¬ F w.heap.size := fun h => by have := hbF.2 _ h; omega
  have S0 := HH0.out _ hb2
  generalize hW : w1.alloc (.cells #[.int .i64 p.flow, .int .i64 p.len, .int .i64 p.mark] 59) = W2 at *
  go_loopw [24] (fun v wr => ∃ k : Nat, k ≤ 3 ∧ v = .int .i64 k ∧ FlowPost b (x.stepped p rest k) F W2 wr) (fun v _ => (3 - intOf v).toNat)
  case atStart => exact ⟨0, by omega, rfl, S0⟩
  case round =>
    obtain ⟨k, hk, rfl, hr⟩ := hrel
    have hk2 : k = 0 ∨ k = 1 ∨ k = 2 ∨ k = 3 := by omega
    rcases hk2 with rfl | rfl | rfl | rfl
    · go_wp2_with (go_at_call 143; refine (HC0.out _ _ hr).mono ?_; rintro e w' ⟨rfl, hp⟩)
      go_roundw
      case rel => exact ⟨1, by omega, rfl, hr.trans hp⟩
      case measure => simp [intOf]
    · go_wp2_with (go_at_call 144; refine (HC1.out _ _ hr).mono ?_; rintro e w' ⟨rfl, hp⟩)
      go_roundw
      case rel => exact ⟨2, by omega, rfl, hr.trans hp⟩
      case measure => simp [intOf]
    · go_wp2_with (go_at_call 145; refine (HC2.out _ _ hr).mono ?_; rintro e w' ⟨rfl, hp⟩)
      go_roundw
      case rel => exact ⟨3, by omega, rfl, hr.trans hp⟩
      case measure => simp [intOf]
    · have qf := q0.fr hr.2 hn1
      have zf := z0.fr hr.2 hn2
      have q1 := qf.cell 0
      have q2 := qf.cell 1
      have q3 := qf.cell 2
      have z1 := zf.cell 0
      have z2 := zf.cell 1
      have z3 := zf.cell 2
      have zz := zf.frozen
      have hfin : wr.cell? ⟨b, 4, none⟩ = some (.int .u64 (x.fin p)) := by
        obtain ⟨ao, cap, hb, -⟩ := hr.1
        have := hb.cell 4
        simpa [FlS.stepped] using this
      have hne : b ≠ w.heap.size := by omega
      have hne2 : w1.heap.size ≠ w.heap.size := by omega
      simp only [List.getElem?_cons_succ, List.getElem?_cons_zero] at q1 q2 q3 z1 z2 z3
      have HR := Lib.hid hr
      clear hr qf zf
      have hlw := HR.out.2.size
      have hlb : b < wr.heap.size := by have := hb2.size; omega
      go_wp2_with fail
      go_region
      all_goals
        go_wp2
        refine bodyPost_ret (v := .tuple #[.agg #[.int .i64 p.flow, .int .i64 p.len, .int .i64 p.mark], .int .u64 (x.fin p), .bool true]) (by simp [results, Tryz.results121, go_sem, z1, z2, z3]) rfl ⟨rfl, ?_⟩
        exact serve_end hb2 hbF.2 rfl z0.lt HR.out
end Go.Proofs.YtdjooacjjnjfmaaGreat
end

-- A flow of the program, last: serving in one word, a copy.
section
namespace Go.Proofs.YtdjooacjjnjfmaaGreat
set_option linter.unusedVariables false
set_option maxRecDepth 20000
set_option linter.unusedSimpArgs false
open Go.RowKit Go.Proofs.YtdjooacjjnjfmaaGreatMem

def FlS.out (x : FlS) : Int := match x.l with | [] => 0 | p :: _ => x.fin p
theorem FlS.fin_one (x : FlS) (p : Pk) : x.fin p = satAdd x.start (costOf p.len x.r) := rfl
theorem FlS.put_ok {x : FlS} (ok : x.Ok) (hf : x.full = false) {v : Int} (hv : W64 v) {p : Pk} (hp : p.Ok) : (x.put v p).Ok := by
  have hl : (x.l.length : Int) ≠ x.most := by simpa [FlS.full] using hf
  have := ok.len
  refine ⟨ok.r, ?_, ok.finish, ok.m1, ok.m8, ?_, ?_⟩
  · show W64 (if x.l = [] then max v x.finish else x.start)
    have h1 := ok.start; have h2 := ok.finish
    unfold W64 at *
    split <;> omega
  · show ((x.l ++ [p]).length : Int) ≤ x.most
    simp; omega
  · intro q hq
    have hq : q ∈ x.l ++ [p] := hq
    simp only [List.mem_append, List.mem_singleton] at hq
    rcases hq with hq | rfl
    · exact ok.pk q hq
    · exact hp
theorem FlS.arrive_ok {x : FlS} (ok : x.Ok) {v : Int} (hv : W64 v) {p : Pk} (hp : p.Ok) : (x.arrive v p).Ok := by
  unfold FlS.arrive
  cases h : x.full with
  | true => exact ok
  | false => exact FlS.put_ok ok h hv hp
theorem FlS.serve_ok {x : FlS} (ok : x.Ok) : x.serve.Ok := by
  unfold FlS.serve
  split
  · exact ok
  · rename_i p rest hl
    have h1 := ok.len
    have h2 := ok.pk
    rw [hl] at h1 h2
    exact ⟨ok.r, FlS.fin_w64 ok p, FlS.fin_w64 ok p, ok.m1, ok.m8, by simp at h1 ⊢; omega, fun q hq => h2 q (by simp [hq])⟩
theorem FlS.new_ok {r most : Int} (hr : W64 r) : (FlS.new r most).Ok := ⟨hr, by show W64 0; unfold W64; omega, by show W64 0; unfold W64; omega, by show 1 ≤ min (max most 1) 8; omega, by show min (max most 1) 8 ≤ 8; omega, by show ((([] : List Pk).length : Nat) : Int) ≤ min (max most 1) 8; simp; omega, by intro p hp; cases hp⟩

/-- A packet that comes. -/
theorem arrive_any (b : Nat) (x : FlS) (F : Nat → Prop) (v : Int) (p : Pk) (w : World) (h : FlowAt w b x F) (ok : x.Ok) :
    Calls Tryz.prog 117 #[.pointer (some ⟨b, 0, none⟩), .int .u64 v, .agg #[.int .i64 p.flow, .int .i64 p.len, .int .i64 p.mark]] w fun e w' => e = .returned (.bool (!x.full)) ∧ FlowPost b (x.arrive v p) F w w' := by
  unfold FlS.arrive
  cases hf : x.full with
  | true => exact (arrive_full b x F v p w h hf).mono fun e w' hh => ⟨hh.1, FlowPost.of_below h hh.2⟩
  | false =>
    by_cases hl : x.l = []
    · exact arrive_first b x F v p w h ok hl
    · exact arrive_more b x F v p w h ok hf hl

/-- The first packet is served. -/
theorem serve_any (b : Nat) (x : FlS) (F : Nat → Prop) (w : World) (h : FlowAt w b x F) (ok : x.Ok) :
    Calls Tryz.prog 121 #[.pointer (some ⟨b, 0, none⟩)] w fun e w' => e = .returned (.tuple #[x.head.val, .int .u64 x.out, .bool x.has]) ∧ FlowPost b x.serve F w w' := by
  cases hl : x.l with
  | nil =>
    have e1 : x.head = Pk.zero := by unfold FlS.head; rw [hl]
    have e2 : x.out = 0 := by unfold FlS.out; rw [hl]
    have e3 : x.has = false := by unfold FlS.has; rw [hl]; rfl
    have e4 : x.serve = x := by unfold FlS.serve; rw [hl]
    rw [e1, e2, e3, e4]
    exact (serve_none b x F w h hl).mono fun e w' hh => ⟨hh.1, FlowPost.of_below h hh.2⟩
  | cons p rest =>
    have e1 : x.head = p := by unfold FlS.head; rw [hl]
    have e2 : x.out = x.fin p := by unfold FlS.out; rw [hl]
    have e3 : x.has = true := by unfold FlS.has; rw [hl]; rfl
    have e4 : x.serve = x.stepped p rest 3 := by unfold FlS.serve; rw [hl]; rfl
    rw [e1, e2, e3, e4]
    exact (serve_some b x F w p rest h ok hl).mono fun e w' hh => hh

set_option maxHeartbeats 1000000 in
theorem copy_any (b : Nat) (x : FlS) (F : Nat → Prop) (w : World) (h : FlowAt w b x F) (ok : x.Ok) :
    Calls Tryz.prog 123 #[.pointer (some ⟨b, 0, none⟩)] w (MkPost (fun w' b F => FlowAt w' b x F) w) := by
  obtain ⟨ao, cap, hb, ho, hFb, hFa, hF⟩ := h
  have hlt := hb.lt
  have n8 : x.l.length ≤ 8 := by have := ok.len; have := ok.m8; omega
  have R := owns_rdS ho (pks_one _)
  have c0 := hb.cell 0
  have c1 := hb.cell 1
  have c2 := hb.cell 2
  have c3 := hb.cell 3
  have c4 := hb.cell 4
  simp only [List.getElem?_cons_succ, List.getElem?_cons_zero] at c0 c1 c2 c3 c4
  have B0 := Blk.new w [.int .u64 x.r, .int .i64 x.most, .slice ao x.l.length cap, .int .u64 x.start, .int .u64 x.finish] 180
  have HB := Lib.hid B0
  have HR := Lib.hid R
  clear hb ho B0 R ok
  go_enter Tryz.func123, Tryz.ntmps123
  go_wp2_with (go_at_call 88; refine (cloneP_any ao x.l.length cap x.l _ (HR.out.below (below1 _ _)) rfl (by omega)).mono ?_; rintro e w1 ⟨v, rfl, hown, hb1⟩; obtain ⟨a', c', rfl⟩ := owns_slice hown; have B1 := HB.out.below hb1; have d2 := B1.cell 2; have fz := B1.frozen 2; have hl1 := B1.lt; simp only [List.getElem?_cons_succ, List.getElem?_cons_zero] at d2)
  go_ret
  have hb2 : Below w.heap.size w w1 := (below1 w _).trans (hb1.mono (by simp))
  have hs : (w1.setCell ⟨w.heap.size, 2, none⟩ (.slice a' x.l.length c')).heap.size = w1.heap.size := by simp [World.setCell]
  have hown2 := owns_base hown (Nat.zero_le _)
  have hlo : ∀ a, a' = some a → w.heap.size < a.block ∧ a.block < w1.heap.size := fun a ha => by
    subst ha
    have := hown.lt a.block rfl
    simp at this
    omega
  refine ⟨w.heap.size, rfl, ⟨a', c', ?_, ?_, ⟨Nat.le_refl _, by rw [hs]; exact hl1⟩, fun a ha => ⟨⟨by have := hlo a ha; omega, by rw [hs]; exact (hlo a ha).2⟩, by have := hlo a ha; omega⟩, fun k hk => hk.2⟩, hb2.setCell (by simp) _⟩
  · simpa using B1.set 2 (.slice a' x.l.length c')
  · refine owns_fr (S := fun k => k = w.heap.size) hown2 (Fr.setCell (S := fun k => k = w.heap.size) (a := ⟨w.heap.size, 2, none⟩) (Fr.refl _ _) (.inl rfl) _) fun k hk => ?_
    cases a' with
    | none => cases hk
    | some a => cases hk; intro e; have := (hlo a rfl).1; omega
end Go.Proofs.YtdjooacjjnjfmaaGreat
end
