/- The functions of package tag and of its reference, each by what it answers: sums and products held at the greatest number, what a unit of length costs, the order of items. -/
import Derived.Test.YtfgfjnlkgadkhaaRows
import Derived.WalkKit
import Derived.WalkSpells
import Derived.WalkLawsBesides
import Derived.Lib.Mul64
import Derived.Lib.Hide
import Derived.Laws.Bits64b
namespace Go.Proofs.Ytfgfjnlkgadkhaa
set_option linter.unusedVariables false
set_option linter.unusedSimpArgs false
open Go.RowKit

theorem add64 (x y : Int) (hx : 0 ≤ x) (hy : 0 ≤ y) (w : World) : (callFunc 105 #[.int .u64 x, .int .u64 y, .int .u64 0]).run Try.prog w =
    .ok (.value (.tuple #[.int .u64 ((x + y) % 18446744073709551616), .int .u64 ((x + y) / 18446744073709551616)])) w := by
  obtain ⟨x, rfl⟩ := Int.eq_ofNat_of_zero_le hx
  obtain ⟨y, rfl⟩ := Int.eq_ofNat_of_zero_le hy
  rw [run_callFunc_extern Try.func105 (by kernel_rfl) (by kernel_rfl) (by kernel_rfl) (e := add64Entry) (by kernel_rfl), run_add64 x y 0 (by omega) (by omega) (by omega) (by omega)]
  simp only [Result.andThen]
  congr 5 <;> omega

/-- A word of 64 bits. -/
def W64 (x : Int) : Prop := 0 ≤ x ∧ x < 18446744073709551616
def satAdd (a b : Int) : Int := if a + b < 18446744073709551616 then a + b else 18446744073709551615
def satMul (a b : Int) : Int := if a * b < 18446744073709551616 then a * b else 18446744073709551615

set_option maxHeartbeats 400000 in
theorem add_any (a b : Int) (ha : W64 a) (hb : W64 b) (w : World) :
    Calls Try.prog 87 #[.int .u64 a, .int .u64 b] w fun e w' => e = .returned (.int .u64 (satAdd a b)) ∧ w = w' := by
  obtain ⟨a1, a2⟩ := ha; obtain ⟨b1, b2⟩ := hb
  have h := add64 a b a1 b1
  by_cases hc : a + b < 18446744073709551616
  · have E : Hid (satAdd a b = (a + b) % 18446744073709551616) := by unfold Hid satAdd; rw [if_pos hc]; omega
    have c0 : ((a + b) / 18446744073709551616 != 0) = false := by
      have : (a + b) / 18446744073709551616 = 0 := by omega
      rw [this]; rfl
    go_enter Try.func87, Try.ntmps87
    go_wp2
    go_ret
    exact ⟨by rw [E.out]; rfl, rfl⟩
  · have E : Hid (satAdd a b = 18446744073709551615) := by unfold Hid satAdd; rw [if_neg hc]
    have c0 : ((a + b) / 18446744073709551616 != 0) = true := by
      have : (a + b) / 18446744073709551616 = 1 := by omega
      rw [this]; rfl
    go_enter Try.func87, Try.ntmps87
    go_wp2
    go_ret
    exact ⟨by rw [E.out]; rfl, rfl⟩

set_option maxHeartbeats 400000 in
theorem refAdd_any (a b : Int) (ha : W64 a) (hb : W64 b) (w : World) :
    Calls Try.prog 85 #[.int .u64 a, .int .u64 b] w fun e w' => e = .returned (.int .u64 (satAdd a b)) ∧ w = w' := by
  obtain ⟨a1, a2⟩ := ha; obtain ⟨b1, b2⟩ := hb
  by_cases hc : a + b < 18446744073709551616
  · have E : Hid (satAdd a b = a + b) := by unfold Hid satAdd; rw [if_pos hc]
    go_enter Try.func85, Try.ntmps85
    go_wp2
    go_ret
    exact ⟨by rw [E.out]; rfl, rfl⟩
  · have E : Hid (satAdd a b = 18446744073709551615) := by unfold Hid satAdd; rw [if_neg hc]
    go_enter Try.func85, Try.ntmps85
    go_wp2
    go_ret
    exact ⟨by rw [E.out]; rfl, rfl⟩

namespace M64
theorem maskN (a : Nat) (ha : a < 18446744073709551616) : bits .and .u64 (a : Int) 4294967295 = ((a % 4294967296 : Nat) : Int) := by
  have h := bits_and_u64_nat a 4294967295 ha (by omega)
  have e : a &&& 4294967295 = a % 4294967296 := Nat.and_two_pow_sub_one_eq_mod a 32
  rw [e] at h
  exact h
theorem divN (a : Nat) : (a : Int) / 4294967296 = ((a / 4294967296 : Nat) : Int) := by omega
theorem mulN (a b : Nat) : (a : Int) * (b : Int) = ((a * b : Nat) : Int) := (Int.natCast_mul a b).symm
theorem addN (a b : Nat) : (a : Int) + (b : Int) = ((a + b : Nat) : Int) := (Int.natCast_add a b).symm
theorem wrapN (a : Nat) (ha : a < 18446744073709551616) : IntKind.u64.wrap (a : Int) = (a : Int) := by rw [IntKind.wrap_u64]; omega
theorem wrapM (a : Nat) : IntKind.u64.wrap (a : Int) = ((a % 18446744073709551616 : Nat) : Int) := by rw [IntKind.wrap_u64]; omega
end M64

set_option maxHeartbeats 1000000 in
theorem mul64_nat (x y : Nat) (hx : x < 18446744073709551616) (hy : y < 18446744073709551616) (w : World) :
    Calls Try.prog 112 #[.int .u64 x, .int .u64 y] w fun e w' => e = .returned (.tuple #[.int .u64 ((x * y / 18446744073709551616 : Nat) : Int), .int .u64 ((x * y % 18446744073709551616 : Nat) : Int)]) ∧ w = w' := by
  obtain ⟨bd, bt, bw, hhi⟩ := Lib.mul64_hi x y hx hy
  have ba := Lib.half_mul_le (a := x / 4294967296) (b := y / 4294967296) (by omega) (by omega)
  have bb := Lib.half_mul_le (a := x / 4294967296) (b := y % 4294967296) (by omega) (by omega)
  have bc := Lib.half_mul_le (a := x % 4294967296) (b := y / 4294967296) (by omega) (by omega)
  have ba' : x / 4294967296 * (y / 4294967296) < 18446744073709551616 := by omega
  have bb' : x / 4294967296 * (y % 4294967296) < 18446744073709551616 := by omega
  have bc' : x % 4294967296 * (y / 4294967296) < 18446744073709551616 := by omega
  have bh1 : x / 4294967296 * (y / 4294967296) + (x / 4294967296 * (y % 4294967296) + x % 4294967296 * (y % 4294967296) / 4294967296) / 4294967296 < 18446744073709551616 := by omega
  have bh : x / 4294967296 * (y / 4294967296) + (x / 4294967296 * (y % 4294967296) + x % 4294967296 * (y % 4294967296) / 4294967296) / 4294967296 + ((x / 4294967296 * (y % 4294967296) + x % 4294967296 * (y % 4294967296) / 4294967296) % 4294967296 + x % 4294967296 * (y / 4294967296)) / 4294967296 < 18446744073709551616 := by omega
  go_enter Try.func112, Try.ntmps112
  go_wp2
  simp only [M64.maskN x hx, M64.maskN y hy, M64.divN, M64.mulN, M64.addN, M64.wrapN _ bd, M64.wrapN _ bb', M64.wrapN _ bt, M64.maskN _ bt, M64.wrapN _ bc', M64.wrapN _ bw, M64.wrapN _ ba', M64.wrapN _ bh1, M64.wrapN _ bh, M64.wrapM (x * y)]
  rw [hhi]
  go_ret2
  exact ⟨rfl, rfl⟩

def hi64 (x y : Int) : Int := x * y / 18446744073709551616
def lo64 (x y : Int) : Int := x * y % 18446744073709551616
theorem mul64_any (x y : Int) (hx : W64 x) (hy : W64 y) (w : World) :
    Calls Try.prog 112 #[.int .u64 x, .int .u64 y] w fun e w' => e = .returned (.tuple #[.int .u64 (hi64 x y), .int .u64 (lo64 x y)]) ∧ w = w' := by
  obtain ⟨x1, x2⟩ := hx; obtain ⟨y1, y2⟩ := hy
  obtain ⟨x, rfl⟩ := Int.eq_ofNat_of_zero_le x1
  obtain ⟨y, rfl⟩ := Int.eq_ofNat_of_zero_le y1
  refine (mul64_nat x y (by omega) (by omega) w).mono ?_
  rintro e w' ⟨rfl, rfl⟩
  refine ⟨?_, rfl⟩
  simp only [hi64, lo64, M64.mulN, Int.natCast_ediv, Int.natCast_emod]
  rfl

theorem mul_nn {x y : Int} (hx : 0 ≤ x) (hy : 0 ≤ y) : 0 ≤ x * y := Int.mul_nonneg hx hy

set_option maxHeartbeats 400000 in
theorem mul_any (a b : Int) (ha : W64 a) (hb : W64 b) (w : World) :
    Calls Try.prog 106 #[.int .u64 a, .int .u64 b] w fun e w' => e = .returned (.int .u64 (satMul a b)) ∧ w = w' := by
  have hn := mul_nn ha.1 hb.1
  by_cases hc : a * b < 18446744073709551616
  · have E : Hid (satMul a b = lo64 a b) := by unfold Hid satMul lo64; rw [if_pos hc]; omega
    have c0 : (hi64 a b != 0) = false := by
      have : hi64 a b = 0 := by unfold hi64; omega
      rw [this]; rfl
    clear hc hn
    go_enter Try.func106, Try.ntmps106
    go_wp2_with (go_at_call 112; refine (mul64_any _ _ ha hb _).mono ?_; rintro e w' ⟨rfl, rfl⟩)
    go_ret
    exact ⟨by rw [E.out]; rfl, rfl⟩
  · have E : Hid (satMul a b = 18446744073709551615) := by unfold Hid satMul; rw [if_neg hc]
    have c0 : (hi64 a b != 0) = true := by
      have : hi64 a b ≠ 0 := by unfold hi64; omega
      simpa using this
    clear hc hn
    go_enter Try.func106, Try.ntmps106
    go_wp2_with (go_at_call 112; refine (mul64_any _ _ ha hb _).mono ?_; rintro e w' ⟨rfl, rfl⟩)
    go_ret
    exact ⟨by rw [E.out]; rfl, rfl⟩

theorem quo_gt {a b : Int} (ha : 0 < a) : 18446744073709551615 / a < b ↔ ¬ a * b < 18446744073709551616 := by
  rw [Int.ediv_lt_iff_lt_mul ha, Int.mul_comm]
  omega

set_option maxHeartbeats 400000 in
theorem refMul_any (a b : Int) (ha : W64 a) (hb : W64 b) (w : World) :
    Calls Try.prog 104 #[.int .u64 a, .int .u64 b] w fun e w' => e = .returned (.int .u64 (satMul a b)) ∧ w = w' := by
  obtain ⟨a1, a2⟩ := ha; obtain ⟨b1, b2⟩ := hb
  by_cases h0 : a = 0
  · subst h0
    go_enter Try.func104, Try.ntmps104
    go_wp2
    go_ret
    exact ⟨by simp [satMul], rfl⟩
  · have hp : 0 < a := by omega
    have c0 : (a != 0) = true := by simpa using h0
    have hq := quo_gt (b := b) hp
    have hn := mul_nn a1 b1
    by_cases hc : 18446744073709551615 / a < b
    · have E : Hid (satMul a b = 18446744073709551615) := by unfold Hid satMul; rw [if_neg (hq.1 hc)]
      have H := Lib.hid hq; clear hq h0
      go_enter Try.func104, Try.ntmps104
      go_wp2
      go_ret
      exact ⟨by rw [E.out]; rfl, rfl⟩
    · have hm : a * b < 18446744073709551616 := by
        by_cases h : a * b < 18446744073709551616
        · exact h
        · exact absurd (hq.2 h) hc
      have E : Hid (satMul a b = a * b) := by unfold Hid satMul; rw [if_pos hm]
      have F : Hid (IntKind.u64.wrap (a * b) = a * b) := by unfold Hid; rw [IntKind.wrap_u64]; omega
      have H := Lib.hid hq; clear hq h0
      go_enter Try.func104, Try.ntmps104
      go_wp2
      go_ret
      exact ⟨by rw [E.out]; first | rfl | (have := F.out; simp_all; rfl), rfl⟩

def invR (u k : Int) : Int := if 1 ≤ u ∧ u ≤ 4611686018427387904 ∧ 1 ≤ k ∧ k ≤ 65536 then max (u / k) 1 else 0
def invB (u k : Int) : Bool := decide (1 ≤ u ∧ u ≤ 4611686018427387904 ∧ 1 ≤ k ∧ k ≤ 65536)

set_option maxHeartbeats 400000 in
theorem inv_any (u k : Int) (hu : W64 u) (w : World) :
    Calls Try.prog 39 #[.int .u64 u, .int .i64 k] w fun e w' => e = .returned (.tuple #[.int .u64 (invR u k), .bool (invB u k)]) ∧ w = w' := by
  obtain ⟨u1, u2⟩ := hu
  by_cases h1 : u < 1
  · have E : Hid (invR u k = 0) := by unfold Hid invR; rw [if_neg (by omega)]
    have E2 : Hid (invB u k = false) := by unfold Hid invB; simp; omega
    go_enter Try.func39, Try.ntmps39
    go_wp2
    go_ret2
    exact ⟨by rw [E.out, E2.out]; rfl, rfl⟩
  by_cases h2 : 4611686018427387904 < u
  · have E : Hid (invR u k = 0) := by unfold Hid invR; rw [if_neg (by omega)]
    have E2 : Hid (invB u k = false) := by unfold Hid invB; simp; omega
    go_enter Try.func39, Try.ntmps39
    go_wp2
    go_ret2
    exact ⟨by rw [E.out, E2.out]; rfl, rfl⟩
  by_cases h3 : k < 1
  · have E : Hid (invR u k = 0) := by unfold Hid invR; rw [if_neg (by omega)]
    have E2 : Hid (invB u k = false) := by unfold Hid invB; simp; omega
    go_enter Try.func39, Try.ntmps39
    go_wp2
    go_ret2
    exact ⟨by rw [E.out, E2.out]; rfl, rfl⟩
  by_cases h4 : 65536 < k
  · have E : Hid (invR u k = 0) := by unfold Hid invR; rw [if_neg (by omega)]
    have E2 : Hid (invB u k = false) := by unfold Hid invB; simp; omega
    go_enter Try.func39, Try.ntmps39
    go_wp2
    go_ret2
    exact ⟨by rw [E.out, E2.out]; rfl, rfl⟩
  have E : Hid (invR u k = max (u / k) 1) := by unfold Hid invR; rw [if_pos (by omega)]
  have E2 : Hid (invB u k = true) := by unfold Hid invB; simp; omega
  go_enter Try.func39, Try.ntmps39
  go_wp2
  all_goals
    go_ret2
    refine ⟨?_, rfl⟩
    rw [E.out, E2.out]
    first | (rw [Int.max_eq_left (by omega)]; rfl) | (rw [Int.max_eq_right (by omega)]; rfl)

set_option maxHeartbeats 400000 in
theorem refInv_any (u k : Int) (hu : W64 u) (w : World) :
    Calls Try.prog 51 #[.int .u64 u, .int .i64 k] w fun e w' => e = .returned (.tuple #[.int .u64 (invR u k), .bool (invB u k)]) ∧ w = w' := by
  obtain ⟨u1, u2⟩ := hu
  by_cases h1 : u < 1
  · have E : Hid (invR u k = 0) := by unfold Hid invR; rw [if_neg (by omega)]
    have E2 : Hid (invB u k = false) := by unfold Hid invB; simp; omega
    go_enter Try.func51, Try.ntmps51
    go_wp2
    go_ret2
    exact ⟨by rw [E.out, E2.out]; rfl, rfl⟩
  by_cases h2 : 4611686018427387904 < u
  · have E : Hid (invR u k = 0) := by unfold Hid invR; rw [if_neg (by omega)]
    have E2 : Hid (invB u k = false) := by unfold Hid invB; simp; omega
    go_enter Try.func51, Try.ntmps51
    go_wp2
    go_ret2
    exact ⟨by rw [E.out, E2.out]; rfl, rfl⟩
  by_cases h3 : k < 1
  · have E : Hid (invR u k = 0) := by unfold Hid invR; rw [if_neg (by omega)]
    have E2 : Hid (invB u k = false) := by unfold Hid invB; simp; omega
    go_enter Try.func51, Try.ntmps51
    go_wp2
    go_ret2
    exact ⟨by rw [E.out, E2.out]; rfl, rfl⟩
  by_cases h4 : 65536 < k
  · have E : Hid (invR u k = 0) := by unfold Hid invR; rw [if_neg (by omega)]
    have E2 : Hid (invB u k = false) := by unfold Hid invB; simp; omega
    go_enter Try.func51, Try.ntmps51
    go_wp2
    go_ret2
    exact ⟨by rw [E.out, E2.out]; rfl, rfl⟩
  have E : Hid (invR u k = max (u / k) 1) := by unfold Hid invR; rw [if_pos (by omega)]
  have E2 : Hid (invB u k = true) := by unfold Hid invB; simp; omega
  go_enter Try.func51, Try.ntmps51
  go_wp2
  all_goals
    go_ret2
    refine ⟨?_, rfl⟩
    rw [E.out, E2.out]
    first | (rw [Int.max_eq_left (by omega)]; rfl) | (rw [Int.max_eq_right (by omega)]; rfl)

/-- What a length costs: nothing below 0. -/
def costOf (n r : Int) : Int := satMul (max n 0) r

set_option maxHeartbeats 400000 in
theorem cost_any (n r : Int) (hn : n ≤ 9223372036854775807) (hr : W64 r) (w : World) :
    Calls Try.prog 88 #[.int .i64 n, .int .u64 r] w fun e w' => e = .returned (.int .u64 (costOf n r)) ∧ w = w' := by
  by_cases h : n < 0
  · have E : Hid (costOf n r = satMul 0 r) := by unfold Hid costOf; rw [Int.max_eq_right (by omega)]
    go_enter Try.func88, Try.ntmps88
    go_wp2_with (go_at_call 106; refine (mul_any _ _ (by unfold W64; omega) hr _).mono ?_; rintro e w' ⟨rfl, rfl⟩)
    go_ret
    exact ⟨by rw [E.out]; rfl, rfl⟩
  · have E : Hid (costOf n r = satMul n r) := by unfold Hid costOf; rw [Int.max_eq_left (by omega)]
    go_enter Try.func88, Try.ntmps88
    go_wp2_with (go_at_call 106; refine (mul_any _ _ (by unfold W64; omega) hr _).mono ?_; rintro e w' ⟨rfl, rfl⟩)
    go_ret
    exact ⟨by rw [E.out]; rfl, rfl⟩

set_option maxHeartbeats 400000 in
theorem refCost_any (n r : Int) (hn : n ≤ 9223372036854775807) (hr : W64 r) (w : World) :
    Calls Try.prog 86 #[.int .i64 n, .int .u64 r] w fun e w' => e = .returned (.int .u64 (costOf n r)) ∧ w = w' := by
  by_cases h : n < 0
  · have E : Hid (costOf n r = satMul 0 r) := by unfold Hid costOf; rw [Int.max_eq_right (by omega)]
    go_enter Try.func86, Try.ntmps86
    go_wp2_with (go_at_call 104; refine (refMul_any _ _ (by unfold W64; omega) hr _).mono ?_; rintro e w' ⟨rfl, rfl⟩)
    go_ret
    exact ⟨by rw [E.out]; rfl, rfl⟩
  · have E : Hid (costOf n r = satMul n r) := by unfold Hid costOf; rw [Int.max_eq_left (by omega)]
    go_enter Try.func86, Try.ntmps86
    go_wp2_with (go_at_call 104; refine (refMul_any _ _ (by unfold W64; omega) hr _).mono ?_; rintro e w' ⟨rfl, rfl⟩)
    go_ret
    exact ⟨by rw [E.out]; rfl, rfl⟩

def aheadB (k i l j : Int) : Bool := decide (k < l ∨ (k = l ∧ i < j))

set_option maxHeartbeats 400000 in
theorem ahead_any (k i l j : Int) (w : World) :
    Calls Try.prog 66 #[.agg #[.int .u64 k, .int .i64 i], .agg #[.int .u64 l, .int .i64 j]] w fun e w' => e = .returned (.bool (aheadB k i l j)) ∧ Below w.heap.size w w' := by
  by_cases h1 : k < l
  · have E : Hid (aheadB k i l j = true) := by unfold Hid aheadB; simp; omega
    go_enter Try.func66, Try.ntmps66
    go_wp2
    go_ret
    exact ⟨by rw [E.out]; rfl, by repeat (first | exact Below.refl _ _ | refine Below.alloc ?_ (by simp) _ | refine Below.drew ?_)⟩
  by_cases h2 : k = l
  · subst h2
    by_cases h3 : i < j
    · have E : Hid (aheadB k i k j = true) := by unfold Hid aheadB; simp; omega
      go_enter Try.func66, Try.ntmps66
      go_wp2
      go_ret
      exact ⟨by rw [E.out]; rfl, by repeat (first | exact Below.refl _ _ | refine Below.alloc ?_ (by simp) _ | refine Below.drew ?_)⟩
    · have E : Hid (aheadB k i k j = false) := by unfold Hid aheadB; simp; omega
      have hd : decide (i < j) = false := by simpa using h3
      go_enter Try.func66, Try.ntmps66
      go_wp2
      go_ret
      exact ⟨by rw [E.out]; rfl, by repeat (first | exact Below.refl _ _ | refine Below.alloc ?_ (by simp) _ | refine Below.drew ?_)⟩
  · have E : Hid (aheadB k i l j = false) := by unfold Hid aheadB; simp; omega
    have h2' : (k == l) = false := by simpa using h2
    go_enter Try.func66, Try.ntmps66
    go_wp2
    go_ret
    exact ⟨by rw [E.out]; rfl, by repeat (first | exact Below.refl _ _ | refine Below.alloc ?_ (by simp) _ | refine Below.drew ?_)⟩

end Go.Proofs.Ytfgfjnlkgadkhaa
