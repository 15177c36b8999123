/- The laws on clocks, next: the order; one more. -/
import Derived.Test.YtocpanhhbjhklaaClkLaw2
namespace Go.Proofs.Ytocpanhhbjhklaa
set_option linter.unusedVariables false
set_option linter.unusedSimpArgs false
open Go.RowKit Go.Proofs.YtocpanhhbjhklaaMem Go.Proofs.YtocpanhhbjhklaaFlat

/-- Do they differ at a worker below k? -/
def difB (x y : List Int) (k : Nat) : Bool := (List.range k).any fun j => atC x j != atC y j
theorem difB_succ (x y : List Int) (k : Nat) : difB x y (k + 1) = (difB x y k || (atC x k != atC y k)) := by simp [difB, List.range_succ]
theorem difB_false (x y : List Int) (k : Nat) : difB x y k = false ↔ ∀ j : Nat, j < k → atC x j = atC y j := by
  simp [difB]
theorem difB_all (x y : List Int) (m : Nat) (hm : m = maxN x.length y.length) : difB x y m = !(leqC x y && leqC y x) := by
  cases hd : difB x y m
  · have h := (difB_false x y m).1 hd
    have hall : ∀ i : Nat, atC x i = atC y i := by
      intro i
      by_cases hi : i < m
      · exact h i hi
      · rw [atC_ge (show x.length ≤ i by unfold maxN at hm; omega), atC_ge (show y.length ≤ i by unfold maxN at hm; omega)]
    rw [(leq_all x y).2 fun i => by rw [hall i]; omega, (leq_all y x).2 fun i => by rw [hall i]; omega]; rfl
  · cases h1 : leqC x y
    · rfl
    · cases h2 : leqC y x
      · rfl
      · exfalso
        have : difB x y m = false := (difB_false x y m).2 fun j _ => by
          have := (leq_all x y).1 h1 j
          have := (leq_all y x).1 h2 j
          omega
        rw [this] at hd; cases hd
theorem cmp_self (x : List Int) : cmpC x x = 0 := cmp_zero fun _ => rfl

set_option maxHeartbeats 2000000 in
theorem ClockOrder_1 (a0 a1 a2 : Option Addr) (n0 c0 n1 c1 n2 c2 : Nat) (x y z : List Int) (w : World) (r0 : RdI w a0 n0 c0 x) (r1 : RdI w a1 n1 c1 y) (r2 : RdI w a2 n2 c2 z) (hx : leqC (nearC x) (nearC y) = true) (hy : leqC (nearC y) (nearC x) = true) (hc : cmpC (nearC x) (nearC y) = 0) (hz : leqC (nearC y) (nearC z) = false) :
    Calls Try.prog 5 #[.slice a0 n0 c0, .slice a1 n1 c1, .slice a2 n2 c2] w fun e w' => e = .returned (.bool true) ∧ Below w.heap.size w w' := by
  have FA := Lib.hid (near_fits r0.fits)
  have FB := Lib.hid (near_fits r1.fits)
  have FC := Lib.hid (near_fits r2.fits)
  have q1 := leq_refl (nearC x)
  have q2 := cmp_self (nearC x)
  go_enter Try.func5, Try.ntmps5
  have B0 := Below.refl w.heap.size w
  go_wp2_with fail
  refine (near_any a0 n0 c0 x _ r0).mono ?_
  rintro e w1 ⟨v, rfl, hown, hb⟩
  have B1 := below_step B0 hb
  clear B0
  replace r0 := RdI.below (B := 0) r0 hb
  replace r1 := RdI.below (B := 0) r1 hb
  replace r2 := RdI.below (B := 0) r2 hb
  clear hb
  obtain ⟨ara, cra, rfl⟩ := owns_slice hown
  have ra := owns_rdI hown FA.out
  clear hown
  go_wp2_with fail
  refine (near_any a1 n1 c1 y _ r1).mono ?_
  rintro e w2 ⟨v, rfl, hown, hb⟩
  have B2 := below_step B1 hb
  clear B1
  replace r0 := RdI.below (B := 0) r0 hb
  replace r1 := RdI.below (B := 0) r1 hb
  replace r2 := RdI.below (B := 0) r2 hb
  replace ra := RdI.below (B := 0) ra hb
  clear hb
  obtain ⟨arb, crb, rfl⟩ := owns_slice hown
  have rb := owns_rdI hown FB.out
  clear hown
  go_wp2_with fail
  refine (near_any a2 n2 c2 z _ r2).mono ?_
  rintro e w3 ⟨v, rfl, hown, hb⟩
  have B3 := below_step B2 hb
  clear B2
  replace r0 := RdI.below (B := 0) r0 hb
  replace r1 := RdI.below (B := 0) r1 hb
  replace r2 := RdI.below (B := 0) r2 hb
  replace ra := RdI.below (B := 0) ra hb
  replace rb := RdI.below (B := 0) rb hb
  clear hb
  obtain ⟨arc, crc, rfl⟩ := owns_slice hown
  have rc := owns_rdI hown FC.out
  clear hown
  clear r0 r1 r2
  go_wp2_with fail
  refine (awake_any _).mono ?_
  rintro e w4 ⟨rfl, hb⟩
  have B4 := below_step B3 hb
  clear B3
  replace ra := RdI.below (B := 0) ra hb
  replace rb := RdI.below (B := 0) rb hb
  replace rc := RdI.below (B := 0) rc hb
  clear hb
  go_wp2_with fail
  refine (leq_any _ _ _ _ _ _ _ _ _ ra ra (by (try unfold maxN); omega) (by (try unfold maxN); omega)).mono ?_
  rintro e w5 ⟨rfl, hb⟩
  have B5 := below_step B4 hb
  clear B4
  replace ra := RdI.below (B := 0) ra hb
  replace rb := RdI.below (B := 0) rb hb
  replace rc := RdI.below (B := 0) rc hb
  clear hb
  go_wp2_with fail
  refine (cmp_any _ _ _ _ _ _ _ _ _ ra ra (by (try unfold maxN); omega) (by (try unfold maxN); omega)).mono ?_
  rintro e w6 ⟨rfl, hb⟩
  have B6 := below_step B5 hb
  clear B5
  replace ra := RdI.below (B := 0) ra hb
  replace rb := RdI.below (B := 0) rb hb
  replace rc := RdI.below (B := 0) rc hb
  clear hb
  go_wp2_with fail
  refine (leq_any _ _ _ _ _ _ _ _ _ ra rb (by (try unfold maxN); omega) (by (try unfold maxN); omega)).mono ?_
  rintro e w7 ⟨rfl, hb⟩
  have B7 := below_step B6 hb
  clear B6
  replace ra := RdI.below (B := 0) ra hb
  replace rb := RdI.below (B := 0) rb hb
  replace rc := RdI.below (B := 0) rc hb
  clear hb
  go_wp2_with fail
  refine (leq_any _ _ _ _ _ _ _ _ _ rb ra (by (try unfold maxN); omega) (by (try unfold maxN); omega)).mono ?_
  rintro e w8 ⟨rfl, hb⟩
  have B8 := below_step B7 hb
  clear B7
  replace ra := RdI.below (B := 0) ra hb
  replace rb := RdI.below (B := 0) rb hb
  replace rc := RdI.below (B := 0) rc hb
  clear hb
  go_wp2_with fail
  refine (leq_any _ _ _ _ _ _ _ _ _ rb rc (by (try unfold maxN); omega) (by (try unfold maxN); omega)).mono ?_
  rintro e w9 ⟨rfl, hb⟩
  have B9 := below_step B8 hb
  clear B8
  replace ra := RdI.below (B := 0) ra hb
  replace rb := RdI.below (B := 0) rb hb
  replace rc := RdI.below (B := 0) rc hb
  clear hb
  have l0 := ra.len
  have l1 := rb.len
  have L0 := Lib.hid l0
  have L1 := Lib.hid l1
  clear l0 l1
  go_wp2_with fail
  go_loop [9, 10] (fun d i => ∃ k : Nat, k ≤ maxN (min n0 70) (min n1 70) ∧ i = .int .i64 k ∧ d = .bool (difB (nearC x) (nearC y) k)) (fun _ i => maxN (min n0 70) (min n1 70) - (intOf i).toNat)
  case atStart => exact ⟨0, Nat.zero_le _, rfl, rfl⟩
  case round =>
    obtain ⟨k, hk, rfl, rfl⟩ := hrel
    have M : Hid (maxN (min n0 70) (min n1 70) = max (min n0 70) (min n1 70)) := rfl
    by_cases hl : k < maxN (min n0 70) (min n1 70)
    · have hor : k < min n0 70 ∨ k < min n1 70 := by have := M.out; unfold Hid at *; omega
      have S := Lib.hid (difB_succ (nearC x) (nearC y) k)
      cases hd : difB (nearC x) (nearC y) k
      · rcases hor with hor | hor
        all_goals
          go_wp2_with (first
            | (go_at_call 12; (with_reducible refine (at_any _ _ _ (nearC x) _ _ ra).mono ?_); rintro e w' ⟨rfl, rfl⟩)
            | (go_at_call 12; (with_reducible refine (at_any _ _ _ (nearC y) _ _ rb).mono ?_); rintro e w' ⟨rfl, rfl⟩))
          all_goals
            go_round
            case rel => exact ⟨k + 1, by omega, by go_num, by rw [S.out, hd]; rfl⟩
            case measure => simp [intOf]; omega
      · rcases hor with hor | hor
        all_goals
          go_wp2
          all_goals
            go_round
            case rel => exact ⟨k + 1, by omega, by go_num, by rw [S.out, hd]; rfl⟩
            case measure => simp [intOf]; omega
    · have hkm : k = maxN (min n0 70) (min n1 70) := by omega
      have hd : difB (nearC x) (nearC y) k = false := by
        rw [difB_all (nearC x) (nearC y) k (by rw [hkm, L0.out, L1.out]), hx, hy]; rfl
      clear hkm
      have hge0 : min n0 70 ≤ k := by have := M.out; unfold Hid at *; unfold maxN at hl; omega
      have hge1 : min n1 70 ≤ k := by have := M.out; unfold Hid at *; unfold maxN at hl; omega
      clear hl hk
      go_wp2_with (first | (go_at_call 21; refine (cmp_any _ _ _ _ _ _ _ _ _ ra rb (by (try unfold maxN); omega) (by (try unfold maxN); omega)).mono ?_; rintro e wz ⟨rfl, hbz⟩))
      all_goals
        go_ret
        exact ⟨rfl, below_step B9 hbz⟩

set_option maxHeartbeats 2000000 in
theorem ClockOrder_2 (a0 a1 a2 : Option Addr) (n0 c0 n1 c1 n2 c2 : Nat) (x y z : List Int) (w : World) (r0 : RdI w a0 n0 c0 x) (r1 : RdI w a1 n1 c1 y) (r2 : RdI w a2 n2 c2 z) (hx : leqC (nearC x) (nearC y) = true) (hy : leqC (nearC y) (nearC x) = true) (hc : cmpC (nearC x) (nearC y) = 0) (hz : leqC (nearC y) (nearC z) = true) (hz2 : leqC (nearC x) (nearC z) = true) :
    Calls Try.prog 5 #[.slice a0 n0 c0, .slice a1 n1 c1, .slice a2 n2 c2] w fun e w' => e = .returned (.bool true) ∧ Below w.heap.size w w' := by
  have FA := Lib.hid (near_fits r0.fits)
  have FB := Lib.hid (near_fits r1.fits)
  have FC := Lib.hid (near_fits r2.fits)
  have q1 := leq_refl (nearC x)
  have q2 := cmp_self (nearC x)
  go_enter Try.func5, Try.ntmps5
  have B0 := Below.refl w.heap.size w
  go_wp2_with fail
  refine (near_any a0 n0 c0 x _ r0).mono ?_
  rintro e w1 ⟨v, rfl, hown, hb⟩
  have B1 := below_step B0 hb
  clear B0
  replace r0 := RdI.below (B := 0) r0 hb
  replace r1 := RdI.below (B := 0) r1 hb
  replace r2 := RdI.below (B := 0) r2 hb
  clear hb
  obtain ⟨ara, cra, rfl⟩ := owns_slice hown
  have ra := owns_rdI hown FA.out
  clear hown
  go_wp2_with fail
  refine (near_any a1 n1 c1 y _ r1).mono ?_
  rintro e w2 ⟨v, rfl, hown, hb⟩
  have B2 := below_step B1 hb
  clear B1
  replace r0 := RdI.below (B := 0) r0 hb
  replace r1 := RdI.below (B := 0) r1 hb
  replace r2 := RdI.below (B := 0) r2 hb
  replace ra := RdI.below (B := 0) ra hb
  clear hb
  obtain ⟨arb, crb, rfl⟩ := owns_slice hown
  have rb := owns_rdI hown FB.out
  clear hown
  go_wp2_with fail
  refine (near_any a2 n2 c2 z _ r2).mono ?_
  rintro e w3 ⟨v, rfl, hown, hb⟩
  have B3 := below_step B2 hb
  clear B2
  replace r0 := RdI.below (B := 0) r0 hb
  replace r1 := RdI.below (B := 0) r1 hb
  replace r2 := RdI.below (B := 0) r2 hb
  replace ra := RdI.below (B := 0) ra hb
  replace rb := RdI.below (B := 0) rb hb
  clear hb
  obtain ⟨arc, crc, rfl⟩ := owns_slice hown
  have rc := owns_rdI hown FC.out
  clear hown
  clear r0 r1 r2
  go_wp2_with fail
  refine (awake_any _).mono ?_
  rintro e w4 ⟨rfl, hb⟩
  have B4 := below_step B3 hb
  clear B3
  replace ra := RdI.below (B := 0) ra hb
  replace rb := RdI.below (B := 0) rb hb
  replace rc := RdI.below (B := 0) rc hb
  clear hb
  go_wp2_with fail
  refine (leq_any _ _ _ _ _ _ _ _ _ ra ra (by (try unfold maxN); omega) (by (try unfold maxN); omega)).mono ?_
  rintro e w5 ⟨rfl, hb⟩
  have B5 := below_step B4 hb
  clear B4
  replace ra := RdI.below (B := 0) ra hb
  replace rb := RdI.below (B := 0) rb hb
  replace rc := RdI.below (B := 0) rc hb
  clear hb
  go_wp2_with fail
  refine (cmp_any _ _ _ _ _ _ _ _ _ ra ra (by (try unfold maxN); omega) (by (try unfold maxN); omega)).mono ?_
  rintro e w6 ⟨rfl, hb⟩
  have B6 := below_step B5 hb
  clear B5
  replace ra := RdI.below (B := 0) ra hb
  replace rb := RdI.below (B := 0) rb hb
  replace rc := RdI.below (B := 0) rc hb
  clear hb
  go_wp2_with fail
  refine (leq_any _ _ _ _ _ _ _ _ _ ra rb (by (try unfold maxN); omega) (by (try unfold maxN); omega)).mono ?_
  rintro e w7 ⟨rfl, hb⟩
  have B7 := below_step B6 hb
  clear B6
  replace ra := RdI.below (B := 0) ra hb
  replace rb := RdI.below (B := 0) rb hb
  replace rc := RdI.below (B := 0) rc hb
  clear hb
  go_wp2_with fail
  refine (leq_any _ _ _ _ _ _ _ _ _ rb ra (by (try unfold maxN); omega) (by (try unfold maxN); omega)).mono ?_
  rintro e w8 ⟨rfl, hb⟩
  have B8 := below_step B7 hb
  clear B7
  replace ra := RdI.below (B := 0) ra hb
  replace rb := RdI.below (B := 0) rb hb
  replace rc := RdI.below (B := 0) rc hb
  clear hb
  go_wp2_with fail
  refine (leq_any _ _ _ _ _ _ _ _ _ rb rc (by (try unfold maxN); omega) (by (try unfold maxN); omega)).mono ?_
  rintro e w9 ⟨rfl, hb⟩
  have B9 := below_step B8 hb
  clear B8
  replace ra := RdI.below (B := 0) ra hb
  replace rb := RdI.below (B := 0) rb hb
  replace rc := RdI.below (B := 0) rc hb
  clear hb
  go_wp2_with fail
  refine (leq_any _ _ _ _ _ _ _ _ _ ra rc (by (try unfold maxN); omega) (by (try unfold maxN); omega)).mono ?_
  rintro e w10 ⟨rfl, hb⟩
  have B10 := below_step B9 hb
  clear B9
  replace ra := RdI.below (B := 0) ra hb
  replace rb := RdI.below (B := 0) rb hb
  replace rc := RdI.below (B := 0) rc hb
  clear hb
  have l0 := ra.len
  have l1 := rb.len
  have L0 := Lib.hid l0
  have L1 := Lib.hid l1
  clear l0 l1
  go_wp2_with fail
  go_loop [9, 10] (fun d i => ∃ k : Nat, k ≤ maxN (min n0 70) (min n1 70) ∧ i = .int .i64 k ∧ d = .bool (difB (nearC x) (nearC y) k)) (fun _ i => maxN (min n0 70) (min n1 70) - (intOf i).toNat)
  case atStart => exact ⟨0, Nat.zero_le _, rfl, rfl⟩
  case round =>
    obtain ⟨k, hk, rfl, rfl⟩ := hrel
    have M : Hid (maxN (min n0 70) (min n1 70) = max (min n0 70) (min n1 70)) := rfl
    by_cases hl : k < maxN (min n0 70) (min n1 70)
    · have hor : k < min n0 70 ∨ k < min n1 70 := by have := M.out; unfold Hid at *; omega
      have S := Lib.hid (difB_succ (nearC x) (nearC y) k)
      cases hd : difB (nearC x) (nearC y) k
      · rcases hor with hor | hor
        all_goals
          go_wp2_with (first
            | (go_at_call 12; (with_reducible refine (at_any _ _ _ (nearC x) _ _ ra).mono ?_); rintro e w' ⟨rfl, rfl⟩)
            | (go_at_call 12; (with_reducible refine (at_any _ _ _ (nearC y) _ _ rb).mono ?_); rintro e w' ⟨rfl, rfl⟩))
          all_goals
            go_round
            case rel => exact ⟨k + 1, by omega, by go_num, by rw [S.out, hd]; rfl⟩
            case measure => simp [intOf]; omega
      · rcases hor with hor | hor
        all_goals
          go_wp2
          all_goals
            go_round
            case rel => exact ⟨k + 1, by omega, by go_num, by rw [S.out, hd]; rfl⟩
            case measure => simp [intOf]; omega
    · have hkm : k = maxN (min n0 70) (min n1 70) := by omega
      have hd : difB (nearC x) (nearC y) k = false := by
        rw [difB_all (nearC x) (nearC y) k (by rw [hkm, L0.out, L1.out]), hx, hy]; rfl
      clear hkm
      have hge0 : min n0 70 ≤ k := by have := M.out; unfold Hid at *; unfold maxN at hl; omega
      have hge1 : min n1 70 ≤ k := by have := M.out; unfold Hid at *; unfold maxN at hl; omega
      clear hl hk
      go_wp2_with (first | (go_at_call 21; refine (cmp_any _ _ _ _ _ _ _ _ _ ra rb (by (try unfold maxN); omega) (by (try unfold maxN); omega)).mono ?_; rintro e wz ⟨rfl, hbz⟩))
      all_goals
        go_ret
        exact ⟨rfl, below_step B10 hbz⟩

set_option maxHeartbeats 2000000 in
theorem ClockOrder_3 (a0 a1 a2 : Option Addr) (n0 c0 n1 c1 n2 c2 : Nat) (x y z : List Int) (w : World) (r0 : RdI w a0 n0 c0 x) (r1 : RdI w a1 n1 c1 y) (r2 : RdI w a2 n2 c2 z) (hx : leqC (nearC x) (nearC y) = true) (hy : leqC (nearC y) (nearC x) = false) (hc : cmpC (nearC x) (nearC y) = -1) (hz : leqC (nearC y) (nearC z) = false) :
    Calls Try.prog 5 #[.slice a0 n0 c0, .slice a1 n1 c1, .slice a2 n2 c2] w fun e w' => e = .returned (.bool true) ∧ Below w.heap.size w w' := by
  have FA := Lib.hid (near_fits r0.fits)
  have FB := Lib.hid (near_fits r1.fits)
  have FC := Lib.hid (near_fits r2.fits)
  have q1 := leq_refl (nearC x)
  have q2 := cmp_self (nearC x)
  go_enter Try.func5, Try.ntmps5
  have B0 := Below.refl w.heap.size w
  go_wp2_with fail
  refine (near_any a0 n0 c0 x _ r0).mono ?_
  rintro e w1 ⟨v, rfl, hown, hb⟩
  have B1 := below_step B0 hb
  clear B0
  replace r0 := RdI.below (B := 0) r0 hb
  replace r1 := RdI.below (B := 0) r1 hb
  replace r2 := RdI.below (B := 0) r2 hb
  clear hb
  obtain ⟨ara, cra, rfl⟩ := owns_slice hown
  have ra := owns_rdI hown FA.out
  clear hown
  go_wp2_with fail
  refine (near_any a1 n1 c1 y _ r1).mono ?_
  rintro e w2 ⟨v, rfl, hown, hb⟩
  have B2 := below_step B1 hb
  clear B1
  replace r0 := RdI.below (B := 0) r0 hb
  replace r1 := RdI.below (B := 0) r1 hb
  replace r2 := RdI.below (B := 0) r2 hb
  replace ra := RdI.below (B := 0) ra hb
  clear hb
  obtain ⟨arb, crb, rfl⟩ := owns_slice hown
  have rb := owns_rdI hown FB.out
  clear hown
  go_wp2_with fail
  refine (near_any a2 n2 c2 z _ r2).mono ?_
  rintro e w3 ⟨v, rfl, hown, hb⟩
  have B3 := below_step B2 hb
  clear B2
  replace r0 := RdI.below (B := 0) r0 hb
  replace r1 := RdI.below (B := 0) r1 hb
  replace r2 := RdI.below (B := 0) r2 hb
  replace ra := RdI.below (B := 0) ra hb
  replace rb := RdI.below (B := 0) rb hb
  clear hb
  obtain ⟨arc, crc, rfl⟩ := owns_slice hown
  have rc := owns_rdI hown FC.out
  clear hown
  clear r0 r1 r2
  go_wp2_with fail
  refine (awake_any _).mono ?_
  rintro e w4 ⟨rfl, hb⟩
  have B4 := below_step B3 hb
  clear B3
  replace ra := RdI.below (B := 0) ra hb
  replace rb := RdI.below (B := 0) rb hb
  replace rc := RdI.below (B := 0) rc hb
  clear hb
  go_wp2_with fail
  refine (leq_any _ _ _ _ _ _ _ _ _ ra ra (by (try unfold maxN); omega) (by (try unfold maxN); omega)).mono ?_
  rintro e w5 ⟨rfl, hb⟩
  have B5 := below_step B4 hb
  clear B4
  replace ra := RdI.below (B := 0) ra hb
  replace rb := RdI.below (B := 0) rb hb
  replace rc := RdI.below (B := 0) rc hb
  clear hb
  go_wp2_with fail
  refine (cmp_any _ _ _ _ _ _ _ _ _ ra ra (by (try unfold maxN); omega) (by (try unfold maxN); omega)).mono ?_
  rintro e w6 ⟨rfl, hb⟩
  have B6 := below_step B5 hb
  clear B5
  replace ra := RdI.below (B := 0) ra hb
  replace rb := RdI.below (B := 0) rb hb
  replace rc := RdI.below (B := 0) rc hb
  clear hb
  go_wp2_with fail
  refine (leq_any _ _ _ _ _ _ _ _ _ ra rb (by (try unfold maxN); omega) (by (try unfold maxN); omega)).mono ?_
  rintro e w7 ⟨rfl, hb⟩
  have B7 := below_step B6 hb
  clear B6
  replace ra := RdI.below (B := 0) ra hb
  replace rb := RdI.below (B := 0) rb hb
  replace rc := RdI.below (B := 0) rc hb
  clear hb
  go_wp2_with fail
  refine (leq_any _ _ _ _ _ _ _ _ _ rb ra (by (try unfold maxN); omega) (by (try unfold maxN); omega)).mono ?_
  rintro e w8 ⟨rfl, hb⟩
  have B8 := below_step B7 hb
  clear B7
  replace ra := RdI.below (B := 0) ra hb
  replace rb := RdI.below (B := 0) rb hb
  replace rc := RdI.below (B := 0) rc hb
  clear hb
  go_wp2_with fail
  refine (leq_any _ _ _ _ _ _ _ _ _ rb rc (by (try unfold maxN); omega) (by (try unfold maxN); omega)).mono ?_
  rintro e w9 ⟨rfl, hb⟩
  have B9 := below_step B8 hb
  clear B8
  replace ra := RdI.below (B := 0) ra hb
  replace rb := RdI.below (B := 0) rb hb
  replace rc := RdI.below (B := 0) rc hb
  clear hb
  have l0 := ra.len
  have l1 := rb.len
  have L0 := Lib.hid l0
  have L1 := Lib.hid l1
  clear l0 l1
  go_wp2_with fail
  go_loop [9, 10] (fun d i => ∃ k : Nat, k ≤ maxN (min n0 70) (min n1 70) ∧ i = .int .i64 k ∧ d = .bool (difB (nearC x) (nearC y) k)) (fun _ i => maxN (min n0 70) (min n1 70) - (intOf i).toNat)
  case atStart => exact ⟨0, Nat.zero_le _, rfl, rfl⟩
  case round =>
    obtain ⟨k, hk, rfl, rfl⟩ := hrel
    have M : Hid (maxN (min n0 70) (min n1 70) = max (min n0 70) (min n1 70)) := rfl
    by_cases hl : k < maxN (min n0 70) (min n1 70)
    · have hor : k < min n0 70 ∨ k < min n1 70 := by have := M.out; unfold Hid at *; omega
      have S := Lib.hid (difB_succ (nearC x) (nearC y) k)
      cases hd : difB (nearC x) (nearC y) k
      · rcases hor with hor | hor
        all_goals
          go_wp2_with (first
            | (go_at_call 12; (with_reducible refine (at_any _ _ _ (nearC x) _ _ ra).mono ?_); rintro e w' ⟨rfl, rfl⟩)
            | (go_at_call 12; (with_reducible refine (at_any _ _ _ (nearC y) _ _ rb).mono ?_); rintro e w' ⟨rfl, rfl⟩))
          all_goals
            go_round
            case rel => exact ⟨k + 1, by omega, by go_num, by rw [S.out, hd]; rfl⟩
            case measure => simp [intOf]; omega
      · rcases hor with hor | hor
        all_goals
          go_wp2
          all_goals
            go_round
            case rel => exact ⟨k + 1, by omega, by go_num, by rw [S.out, hd]; rfl⟩
            case measure => simp [intOf]; omega
    · have hkm : k = maxN (min n0 70) (min n1 70) := by omega
      have hd : difB (nearC x) (nearC y) k = true := by
        rw [difB_all (nearC x) (nearC y) k (by rw [hkm, L0.out, L1.out]), hx, hy]; rfl
      clear hkm
      have hge0 : min n0 70 ≤ k := by have := M.out; unfold Hid at *; unfold maxN at hl; omega
      have hge1 : min n1 70 ≤ k := by have := M.out; unfold Hid at *; unfold maxN at hl; omega
      clear hl hk
      go_wp2_with (first | (go_at_call 21; refine (cmp_any _ _ _ _ _ _ _ _ _ ra rb (by (try unfold maxN); omega) (by (try unfold maxN); omega)).mono ?_; rintro e wz ⟨rfl, hbz⟩))
      all_goals
        go_ret
        exact ⟨rfl, below_step B9 hbz⟩

set_option maxHeartbeats 2000000 in
theorem ClockOrder_4 (a0 a1 a2 : Option Addr) (n0 c0 n1 c1 n2 c2 : Nat) (x y z : List Int) (w : World) (r0 : RdI w a0 n0 c0 x) (r1 : RdI w a1 n1 c1 y) (r2 : RdI w a2 n2 c2 z) (hx : leqC (nearC x) (nearC y) = true) (hy : leqC (nearC y) (nearC x) = false) (hc : cmpC (nearC x) (nearC y) = -1) (hz : leqC (nearC y) (nearC z) = true) (hz2 : leqC (nearC x) (nearC z) = true) :
    Calls Try.prog 5 #[.slice a0 n0 c0, .slice a1 n1 c1, .slice a2 n2 c2] w fun e w' => e = .returned (.bool true) ∧ Below w.heap.size w w' := by
  have FA := Lib.hid (near_fits r0.fits)
  have FB := Lib.hid (near_fits r1.fits)
  have FC := Lib.hid (near_fits r2.fits)
  have q1 := leq_refl (nearC x)
  have q2 := cmp_self (nearC x)
  go_enter Try.func5, Try.ntmps5
  have B0 := Below.refl w.heap.size w
  go_wp2_with fail
  refine (near_any a0 n0 c0 x _ r0).mono ?_
  rintro e w1 ⟨v, rfl, hown, hb⟩
  have B1 := below_step B0 hb
  clear B0
  replace r0 := RdI.below (B := 0) r0 hb
  replace r1 := RdI.below (B := 0) r1 hb
  replace r2 := RdI.below (B := 0) r2 hb
  clear hb
  obtain ⟨ara, cra, rfl⟩ := owns_slice hown
  have ra := owns_rdI hown FA.out
  clear hown
  go_wp2_with fail
  refine (near_any a1 n1 c1 y _ r1).mono ?_
  rintro e w2 ⟨v, rfl, hown, hb⟩
  have B2 := below_step B1 hb
  clear B1
  replace r0 := RdI.below (B := 0) r0 hb
  replace r1 := RdI.below (B := 0) r1 hb
  replace r2 := RdI.below (B := 0) r2 hb
  replace ra := RdI.below (B := 0) ra hb
  clear hb
  obtain ⟨arb, crb, rfl⟩ := owns_slice hown
  have rb := owns_rdI hown FB.out
  clear hown
  go_wp2_with fail
  refine (near_any a2 n2 c2 z _ r2).mono ?_
  rintro e w3 ⟨v, rfl, hown, hb⟩
  have B3 := below_step B2 hb
  clear B2
  replace r0 := RdI.below (B := 0) r0 hb
  replace r1 := RdI.below (B := 0) r1 hb
  replace r2 := RdI.below (B := 0) r2 hb
  replace ra := RdI.below (B := 0) ra hb
  replace rb := RdI.below (B := 0) rb hb
  clear hb
  obtain ⟨arc, crc, rfl⟩ := owns_slice hown
  have rc := owns_rdI hown FC.out
  clear hown
  clear r0 r1 r2
  go_wp2_with fail
  refine (awake_any _).mono ?_
  rintro e w4 ⟨rfl, hb⟩
  have B4 := below_step B3 hb
  clear B3
  replace ra := RdI.below (B := 0) ra hb
  replace rb := RdI.below (B := 0) rb hb
  replace rc := RdI.below (B := 0) rc hb
  clear hb
  go_wp2_with fail
  refine (leq_any _ _ _ _ _ _ _ _ _ ra ra (by (try unfold maxN); omega) (by (try unfold maxN); omega)).mono ?_
  rintro e w5 ⟨rfl, hb⟩
  have B5 := below_step B4 hb
  clear B4
  replace ra := RdI.below (B := 0) ra hb
  replace rb := RdI.below (B := 0) rb hb
  replace rc := RdI.below (B := 0) rc hb
  clear hb
  go_wp2_with fail
  refine (cmp_any _ _ _ _ _ _ _ _ _ ra ra (by (try unfold maxN); omega) (by (try unfold maxN); omega)).mono ?_
  rintro e w6 ⟨rfl, hb⟩
  have B6 := below_step B5 hb
  clear B5
  replace ra := RdI.below (B := 0) ra hb
  replace rb := RdI.below (B := 0) rb hb
  replace rc := RdI.below (B := 0) rc hb
  clear hb
  go_wp2_with fail
  refine (leq_any _ _ _ _ _ _ _ _ _ ra rb (by (try unfold maxN); omega) (by (try unfold maxN); omega)).mono ?_
  rintro e w7 ⟨rfl, hb⟩
  have B7 := below_step B6 hb
  clear B6
  replace ra := RdI.below (B := 0) ra hb
  replace rb := RdI.below (B := 0) rb hb
  replace rc := RdI.below (B := 0) rc hb
  clear hb
  go_wp2_with fail
  refine (leq_any _ _ _ _ _ _ _ _ _ rb ra (by (try unfold maxN); omega) (by (try unfold maxN); omega)).mono ?_
  rintro e w8 ⟨rfl, hb⟩
  have B8 := below_step B7 hb
  clear B7
  replace ra := RdI.below (B := 0) ra hb
  replace rb := RdI.below (B := 0) rb hb
  replace rc := RdI.below (B := 0) rc hb
  clear hb
  go_wp2_with fail
  refine (leq_any _ _ _ _ _ _ _ _ _ rb rc (by (try unfold maxN); omega) (by (try unfold maxN); omega)).mono ?_
  rintro e w9 ⟨rfl, hb⟩
  have B9 := below_step B8 hb
  clear B8
  replace ra := RdI.below (B := 0) ra hb
  replace rb := RdI.below (B := 0) rb hb
  replace rc := RdI.below (B := 0) rc hb
  clear hb
  go_wp2_with fail
  refine (leq_any _ _ _ _ _ _ _ _ _ ra rc (by (try unfold maxN); omega) (by (try unfold maxN); omega)).mono ?_
  rintro e w10 ⟨rfl, hb⟩
  have B10 := below_step B9 hb
  clear B9
  replace ra := RdI.below (B := 0) ra hb
  replace rb := RdI.below (B := 0) rb hb
  replace rc := RdI.below (B := 0) rc hb
  clear hb
  have l0 := ra.len
  have l1 := rb.len
  have L0 := Lib.hid l0
  have L1 := Lib.hid l1
  clear l0 l1
  go_wp2_with fail
  go_loop [9, 10] (fun d i => ∃ k : Nat, k ≤ maxN (min n0 70) (min n1 70) ∧ i = .int .i64 k ∧ d = .bool (difB (nearC x) (nearC y) k)) (fun _ i => maxN (min n0 70) (min n1 70) - (intOf i).toNat)
  case atStart => exact ⟨0, Nat.zero_le _, rfl, rfl⟩
  case round =>
    obtain ⟨k, hk, rfl, rfl⟩ := hrel
    have M : Hid (maxN (min n0 70) (min n1 70) = max (min n0 70) (min n1 70)) := rfl
    by_cases hl : k < maxN (min n0 70) (min n1 70)
    · have hor : k < min n0 70 ∨ k < min n1 70 := by have := M.out; unfold Hid at *; omega
      have S := Lib.hid (difB_succ (nearC x) (nearC y) k)
      cases hd : difB (nearC x) (nearC y) k
      · rcases hor with hor | hor
        all_goals
          go_wp2_with (first
            | (go_at_call 12; (with_reducible refine (at_any _ _ _ (nearC x) _ _ ra).mono ?_); rintro e w' ⟨rfl, rfl⟩)
            | (go_at_call 12; (with_reducible refine (at_any _ _ _ (nearC y) _ _ rb).mono ?_); rintro e w' ⟨rfl, rfl⟩))
          all_goals
            go_round
            case rel => exact ⟨k + 1, by omega, by go_num, by rw [S.out, hd]; rfl⟩
            case measure => simp [intOf]; omega
      · rcases hor with hor | hor
        all_goals
          go_wp2
          all_goals
            go_round
            case rel => exact ⟨k + 1, by omega, by go_num, by rw [S.out, hd]; rfl⟩
            case measure => simp [intOf]; omega
    · have hkm : k = maxN (min n0 70) (min n1 70) := by omega
      have hd : difB (nearC x) (nearC y) k = true := by
        rw [difB_all (nearC x) (nearC y) k (by rw [hkm, L0.out, L1.out]), hx, hy]; rfl
      clear hkm
      have hge0 : min n0 70 ≤ k := by have := M.out; unfold Hid at *; unfold maxN at hl; omega
      have hge1 : min n1 70 ≤ k := by have := M.out; unfold Hid at *; unfold maxN at hl; omega
      clear hl hk
      go_wp2_with (first | (go_at_call 21; refine (cmp_any _ _ _ _ _ _ _ _ _ ra rb (by (try unfold maxN); omega) (by (try unfold maxN); omega)).mono ?_; rintro e wz ⟨rfl, hbz⟩))
      all_goals
        go_ret
        exact ⟨rfl, below_step B10 hbz⟩

set_option maxHeartbeats 2000000 in
theorem ClockOrder_5 (a0 a1 a2 : Option Addr) (n0 c0 n1 c1 n2 c2 : Nat) (x y z : List Int) (w : World) (r0 : RdI w a0 n0 c0 x) (r1 : RdI w a1 n1 c1 y) (r2 : RdI w a2 n2 c2 z) (hx : leqC (nearC x) (nearC y) = false) (hy : leqC (nearC y) (nearC x) = true) (hc : cmpC (nearC x) (nearC y) = 1) :
    Calls Try.prog 5 #[.slice a0 n0 c0, .slice a1 n1 c1, .slice a2 n2 c2] w fun e w' => e = .returned (.bool true) ∧ Below w.heap.size w w' := by
  have FA := Lib.hid (near_fits r0.fits)
  have FB := Lib.hid (near_fits r1.fits)
  have FC := Lib.hid (near_fits r2.fits)
  have q1 := leq_refl (nearC x)
  have q2 := cmp_self (nearC x)
  go_enter Try.func5, Try.ntmps5
  have B0 := Below.refl w.heap.size w
  go_wp2_with fail
  refine (near_any a0 n0 c0 x _ r0).mono ?_
  rintro e w1 ⟨v, rfl, hown, hb⟩
  have B1 := below_step B0 hb
  clear B0
  replace r0 := RdI.below (B := 0) r0 hb
  replace r1 := RdI.below (B := 0) r1 hb
  replace r2 := RdI.below (B := 0) r2 hb
  clear hb
  obtain ⟨ara, cra, rfl⟩ := owns_slice hown
  have ra := owns_rdI hown FA.out
  clear hown
  go_wp2_with fail
  refine (near_any a1 n1 c1 y _ r1).mono ?_
  rintro e w2 ⟨v, rfl, hown, hb⟩
  have B2 := below_step B1 hb
  clear B1
  replace r0 := RdI.below (B := 0) r0 hb
  replace r1 := RdI.below (B := 0) r1 hb
  replace r2 := RdI.below (B := 0) r2 hb
  replace ra := RdI.below (B := 0) ra hb
  clear hb
  obtain ⟨arb, crb, rfl⟩ := owns_slice hown
  have rb := owns_rdI hown FB.out
  clear hown
  go_wp2_with fail
  refine (near_any a2 n2 c2 z _ r2).mono ?_
  rintro e w3 ⟨v, rfl, hown, hb⟩
  have B3 := below_step B2 hb
  clear B2
  replace r0 := RdI.below (B := 0) r0 hb
  replace r1 := RdI.below (B := 0) r1 hb
  replace r2 := RdI.below (B := 0) r2 hb
  replace ra := RdI.below (B := 0) ra hb
  replace rb := RdI.below (B := 0) rb hb
  clear hb
  obtain ⟨arc, crc, rfl⟩ := owns_slice hown
  have rc := owns_rdI hown FC.out
  clear hown
  clear r0 r1 r2
  go_wp2_with fail
  refine (awake_any _).mono ?_
  rintro e w4 ⟨rfl, hb⟩
  have B4 := below_step B3 hb
  clear B3
  replace ra := RdI.below (B := 0) ra hb
  replace rb := RdI.below (B := 0) rb hb
  replace rc := RdI.below (B := 0) rc hb
  clear hb
  go_wp2_with fail
  refine (leq_any _ _ _ _ _ _ _ _ _ ra ra (by (try unfold maxN); omega) (by (try unfold maxN); omega)).mono ?_
  rintro e w5 ⟨rfl, hb⟩
  have B5 := below_step B4 hb
  clear B4
  replace ra := RdI.below (B := 0) ra hb
  replace rb := RdI.below (B := 0) rb hb
  replace rc := RdI.below (B := 0) rc hb
  clear hb
  go_wp2_with fail
  refine (cmp_any _ _ _ _ _ _ _ _ _ ra ra (by (try unfold maxN); omega) (by (try unfold maxN); omega)).mono ?_
  rintro e w6 ⟨rfl, hb⟩
  have B6 := below_step B5 hb
  clear B5
  replace ra := RdI.below (B := 0) ra hb
  replace rb := RdI.below (B := 0) rb hb
  replace rc := RdI.below (B := 0) rc hb
  clear hb
  go_wp2_with fail
  refine (leq_any _ _ _ _ _ _ _ _ _ ra rb (by (try unfold maxN); omega) (by (try unfold maxN); omega)).mono ?_
  rintro e w7 ⟨rfl, hb⟩
  have B7 := below_step B6 hb
  clear B6
  replace ra := RdI.below (B := 0) ra hb
  replace rb := RdI.below (B := 0) rb hb
  replace rc := RdI.below (B := 0) rc hb
  clear hb
  go_wp2_with fail
  refine (leq_any _ _ _ _ _ _ _ _ _ rb ra (by (try unfold maxN); omega) (by (try unfold maxN); omega)).mono ?_
  rintro e w8 ⟨rfl, hb⟩
  have B8 := below_step B7 hb
  clear B7
  replace ra := RdI.below (B := 0) ra hb
  replace rb := RdI.below (B := 0) rb hb
  replace rc := RdI.below (B := 0) rc hb
  clear hb
  have l0 := ra.len
  have l1 := rb.len
  have L0 := Lib.hid l0
  have L1 := Lib.hid l1
  clear l0 l1
  go_wp2_with fail
  go_loop [9, 10] (fun d i => ∃ k : Nat, k ≤ maxN (min n0 70) (min n1 70) ∧ i = .int .i64 k ∧ d = .bool (difB (nearC x) (nearC y) k)) (fun _ i => maxN (min n0 70) (min n1 70) - (intOf i).toNat)
  case atStart => exact ⟨0, Nat.zero_le _, rfl, rfl⟩
  case round =>
    obtain ⟨k, hk, rfl, rfl⟩ := hrel
    have M : Hid (maxN (min n0 70) (min n1 70) = max (min n0 70) (min n1 70)) := rfl
    by_cases hl : k < maxN (min n0 70) (min n1 70)
    · have hor : k < min n0 70 ∨ k < min n1 70 := by have := M.out; unfold Hid at *; omega
      have S := Lib.hid (difB_succ (nearC x) (nearC y) k)
      cases hd : difB (nearC x) (nearC y) k
      · rcases hor with hor | hor
        all_goals
          go_wp2_with (first
            | (go_at_call 12; (with_reducible refine (at_any _ _ _ (nearC x) _ _ ra).mono ?_); rintro e w' ⟨rfl, rfl⟩)
            | (go_at_call 12; (with_reducible refine (at_any _ _ _ (nearC y) _ _ rb).mono ?_); rintro e w' ⟨rfl, rfl⟩))
          all_goals
            go_round
            case rel => exact ⟨k + 1, by omega, by go_num, by rw [S.out, hd]; rfl⟩
            case measure => simp [intOf]; omega
      · rcases hor with hor | hor
        all_goals
          go_wp2
          all_goals
            go_round
            case rel => exact ⟨k + 1, by omega, by go_num, by rw [S.out, hd]; rfl⟩
            case measure => simp [intOf]; omega
    · have hkm : k = maxN (min n0 70) (min n1 70) := by omega
      have hd : difB (nearC x) (nearC y) k = true := by
        rw [difB_all (nearC x) (nearC y) k (by rw [hkm, L0.out, L1.out]), hx, hy]; rfl
      clear hkm
      have hge0 : min n0 70 ≤ k := by have := M.out; unfold Hid at *; unfold maxN at hl; omega
      have hge1 : min n1 70 ≤ k := by have := M.out; unfold Hid at *; unfold maxN at hl; omega
      clear hl hk
      go_wp2_with (first | (go_at_call 21; refine (cmp_any _ _ _ _ _ _ _ _ _ ra rb (by (try unfold maxN); omega) (by (try unfold maxN); omega)).mono ?_; rintro e wz ⟨rfl, hbz⟩))
      all_goals
        go_ret
        exact ⟨rfl, below_step B8 hbz⟩

set_option maxHeartbeats 2000000 in
theorem ClockOrder_6 (a0 a1 a2 : Option Addr) (n0 c0 n1 c1 n2 c2 : Nat) (x y z : List Int) (w : World) (r0 : RdI w a0 n0 c0 x) (r1 : RdI w a1 n1 c1 y) (r2 : RdI w a2 n2 c2 z) (hx : leqC (nearC x) (nearC y) = false) (hy : leqC (nearC y) (nearC x) = false) (hc : cmpC (nearC x) (nearC y) = 2) :
    Calls Try.prog 5 #[.slice a0 n0 c0, .slice a1 n1 c1, .slice a2 n2 c2] w fun e w' => e = .returned (.bool true) ∧ Below w.heap.size w w' := by
  have FA := Lib.hid (near_fits r0.fits)
  have FB := Lib.hid (near_fits r1.fits)
  have FC := Lib.hid (near_fits r2.fits)
  have q1 := leq_refl (nearC x)
  have q2 := cmp_self (nearC x)
  go_enter Try.func5, Try.ntmps5
  have B0 := Below.refl w.heap.size w
  go_wp2_with fail
  refine (near_any a0 n0 c0 x _ r0).mono ?_
  rintro e w1 ⟨v, rfl, hown, hb⟩
  have B1 := below_step B0 hb
  clear B0
  replace r0 := RdI.below (B := 0) r0 hb
  replace r1 := RdI.below (B := 0) r1 hb
  replace r2 := RdI.below (B := 0) r2 hb
  clear hb
  obtain ⟨ara, cra, rfl⟩ := owns_slice hown
  have ra := owns_rdI hown FA.out
  clear hown
  go_wp2_with fail
  refine (near_any a1 n1 c1 y _ r1).mono ?_
  rintro e w2 ⟨v, rfl, hown, hb⟩
  have B2 := below_step B1 hb
  clear B1
  replace r0 := RdI.below (B := 0) r0 hb
  replace r1 := RdI.below (B := 0) r1 hb
  replace r2 := RdI.below (B := 0) r2 hb
  replace ra := RdI.below (B := 0) ra hb
  clear hb
  obtain ⟨arb, crb, rfl⟩ := owns_slice hown
  have rb := owns_rdI hown FB.out
  clear hown
  go_wp2_with fail
  refine (near_any a2 n2 c2 z _ r2).mono ?_
  rintro e w3 ⟨v, rfl, hown, hb⟩
  have B3 := below_step B2 hb
  clear B2
  replace r0 := RdI.below (B := 0) r0 hb
  replace r1 := RdI.below (B := 0) r1 hb
  replace r2 := RdI.below (B := 0) r2 hb
  replace ra := RdI.below (B := 0) ra hb
  replace rb := RdI.below (B := 0) rb hb
  clear hb
  obtain ⟨arc, crc, rfl⟩ := owns_slice hown
  have rc := owns_rdI hown FC.out
  clear hown
  clear r0 r1 r2
  go_wp2_with fail
  refine (awake_any _).mono ?_
  rintro e w4 ⟨rfl, hb⟩
  have B4 := below_step B3 hb
  clear B3
  replace ra := RdI.below (B := 0) ra hb
  replace rb := RdI.below (B := 0) rb hb
  replace rc := RdI.below (B := 0) rc hb
  clear hb
  go_wp2_with fail
  refine (leq_any _ _ _ _ _ _ _ _ _ ra ra (by (try unfold maxN); omega) (by (try unfold maxN); omega)).mono ?_
  rintro e w5 ⟨rfl, hb⟩
  have B5 := below_step B4 hb
  clear B4
  replace ra := RdI.below (B := 0) ra hb
  replace rb := RdI.below (B := 0) rb hb
  replace rc := RdI.below (B := 0) rc hb
  clear hb
  go_wp2_with fail
  refine (cmp_any _ _ _ _ _ _ _ _ _ ra ra (by (try unfold maxN); omega) (by (try unfold maxN); omega)).mono ?_
  rintro e w6 ⟨rfl, hb⟩
  have B6 := below_step B5 hb
  clear B5
  replace ra := RdI.below (B := 0) ra hb
  replace rb := RdI.below (B := 0) rb hb
  replace rc := RdI.below (B := 0) rc hb
  clear hb
  go_wp2_with fail
  refine (leq_any _ _ _ _ _ _ _ _ _ ra rb (by (try unfold maxN); omega) (by (try unfold maxN); omega)).mono ?_
  rintro e w7 ⟨rfl, hb⟩
  have B7 := below_step B6 hb
  clear B6
  replace ra := RdI.below (B := 0) ra hb
  replace rb := RdI.below (B := 0) rb hb
  replace rc := RdI.below (B := 0) rc hb
  clear hb
  go_wp2_with fail
  refine (leq_any _ _ _ _ _ _ _ _ _ rb ra (by (try unfold maxN); omega) (by (try unfold maxN); omega)).mono ?_
  rintro e w8 ⟨rfl, hb⟩
  have B8 := below_step B7 hb
  clear B7
  replace ra := RdI.below (B := 0) ra hb
  replace rb := RdI.below (B := 0) rb hb
  replace rc := RdI.below (B := 0) rc hb
  clear hb
  have l0 := ra.len
  have l1 := rb.len
  have L0 := Lib.hid l0
  have L1 := Lib.hid l1
  clear l0 l1
  go_wp2_with fail
  go_loop [9, 10] (fun d i => ∃ k : Nat, k ≤ maxN (min n0 70) (min n1 70) ∧ i = .int .i64 k ∧ d = .bool (difB (nearC x) (nearC y) k)) (fun _ i => maxN (min n0 70) (min n1 70) - (intOf i).toNat)
  case atStart => exact ⟨0, Nat.zero_le _, rfl, rfl⟩
  case round =>
    obtain ⟨k, hk, rfl, rfl⟩ := hrel
    have M : Hid (maxN (min n0 70) (min n1 70) = max (min n0 70) (min n1 70)) := rfl
    by_cases hl : k < maxN (min n0 70) (min n1 70)
    · have hor : k < min n0 70 ∨ k < min n1 70 := by have := M.out; unfold Hid at *; omega
      have S := Lib.hid (difB_succ (nearC x) (nearC y) k)
      cases hd : difB (nearC x) (nearC y) k
      · rcases hor with hor | hor
        all_goals
          go_wp2_with (first
            | (go_at_call 12; (with_reducible refine (at_any _ _ _ (nearC x) _ _ ra).mono ?_); rintro e w' ⟨rfl, rfl⟩)
            | (go_at_call 12; (with_reducible refine (at_any _ _ _ (nearC y) _ _ rb).mono ?_); rintro e w' ⟨rfl, rfl⟩))
          all_goals
            go_round
            case rel => exact ⟨k + 1, by omega, by go_num, by rw [S.out, hd]; rfl⟩
            case measure => simp [intOf]; omega
      · rcases hor with hor | hor
        all_goals
          go_wp2
          all_goals
            go_round
            case rel => exact ⟨k + 1, by omega, by go_num, by rw [S.out, hd]; rfl⟩
            case measure => simp [intOf]; omega
    · have hkm : k = maxN (min n0 70) (min n1 70) := by omega
      have hd : difB (nearC x) (nearC y) k = true := by
        rw [difB_all (nearC x) (nearC y) k (by rw [hkm, L0.out, L1.out]), hx, hy]; rfl
      clear hkm
      have hge0 : min n0 70 ≤ k := by have := M.out; unfold Hid at *; unfold maxN at hl; omega
      have hge1 : min n1 70 ≤ k := by have := M.out; unfold Hid at *; unfold maxN at hl; omega
      clear hl hk
      go_wp2_with (first | (go_at_call 21; refine (cmp_any _ _ _ _ _ _ _ _ _ ra rb (by (try unfold maxN); omega) (by (try unfold maxN); omega)).mono ?_; rintro e wz ⟨rfl, hbz⟩))
      all_goals
        go_ret
        exact ⟨rfl, below_step B8 hbz⟩

theorem ClockOrder_any (w : World) (a0 : Option Addr) (n0 c0 : Nat) (L0 : List (List Value)) (h0 : IsRows w [.int .i64] a0 n0 c0 L0) (a1 : Option Addr) (n1 c1 : Nat) (L1 : List (List Value)) (h1 : IsRows w [.int .i64] a1 n1 c1 L1) (a2 : Option Addr) (n2 c2 : Nat) (L2 : List (List Value)) (h2 : IsRows w [.int .i64] a2 n2 c2 L2) :
    Calls Try.prog 5 #[.slice a0 n0 c0, .slice a1 n1 c1, .slice a2 n2 c2] w fun e w' => e = .returned (.bool true) ∧ Below w.heap.size w w' := by
  obtain ⟨x, r0⟩ := isRows_rdI h0
  obtain ⟨y, r1⟩ := isRows_rdI h1
  obtain ⟨z, r2⟩ := isRows_rdI h2
  cases hx : leqC (nearC x) (nearC y) <;> cases hy : leqC (nearC y) (nearC x)
  · exact ClockOrder_6 a0 a1 a2 n0 c0 n1 c1 n2 c2 x y z w r0 r1 r2 hx hy (by simp [cmpC, hx, hy])
  · exact ClockOrder_5 a0 a1 a2 n0 c0 n1 c1 n2 c2 x y z w r0 r1 r2 hx hy (by simp [cmpC, hx, hy])
  · cases hz : leqC (nearC y) (nearC z)
    · exact ClockOrder_3 a0 a1 a2 n0 c0 n1 c1 n2 c2 x y z w r0 r1 r2 hx hy (by simp [cmpC, hx, hy]) hz
    · exact ClockOrder_4 a0 a1 a2 n0 c0 n1 c1 n2 c2 x y z w r0 r1 r2 hx hy (by simp [cmpC, hx, hy]) hz (leq_trans hx hz)
  · cases hz : leqC (nearC y) (nearC z)
    · exact ClockOrder_1 a0 a1 a2 n0 c0 n1 c1 n2 c2 x y z w r0 r1 r2 hx hy (by simp [cmpC, hx, hy]) hz
    · exact ClockOrder_2 a0 a1 a2 n0 c0 n1 c1 n2 c2 x y z w r0 r1 r2 hx hy (by simp [cmpC, hx, hy]) hz (leq_trans hx hz)

end Go.Proofs.Ytocpanhhbjhklaa
