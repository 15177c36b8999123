/- The laws on clocks, next: joins. -/
import Derived.Test.YtocpanhhbjhklaaClkLaw
namespace Go.Proofs.Ytocpanhhbjhklaa
set_option linter.unusedVariables false
set_option linter.unusedSimpArgs false
open Go.RowKit Go.Proofs.YtocpanhhbjhklaaMem Go.Proofs.YtocpanhhbjhklaaFlat

theorem atC_join (x y : List Int) (i : Nat) : atC (joinC x y) i = max (atC x i) (atC y i) := by
  by_cases h : i < maxN x.length y.length
  · have hl : i < (joinC x y).length := by simp [joinC, row_length, h]
    rw [atC_lt hl, nth_eq hl]
    simp [joinC, row, more]
  · have h1 : x.length ≤ i := by unfold maxN at h; omega
    have h2 : y.length ≤ i := by unfold maxN at h; omega
    have h3 : (joinC x y).length ≤ i := by simp [joinC, row_length]; omega
    rw [atC_ge h1, atC_ge h2, atC_ge h3]; omega
theorem leq_all (x y : List Int) : leqC x y = true ↔ ∀ i : Nat, atC x i ≤ atC y i := by
  rw [leq_iff]
  refine ⟨fun h i => ?_, fun h i _ => h i⟩
  by_cases hi : i < maxN x.length y.length
  · exact h i hi
  · rw [atC_ge (show x.length ≤ i by unfold maxN at hi; omega), atC_ge (show y.length ≤ i by unfold maxN at hi; omega)]; omega
theorem leq_refl (x : List Int) : leqC x x = true := (leq_all x x).2 fun i => by omega
theorem leq_trans {x y z : List Int} (h : leqC x y = true) (h' : leqC y z = true) : leqC x z = true :=
  (leq_all x z).2 fun i => by have := (leq_all x y).1 h i; have := (leq_all y z).1 h' i; omega
theorem leq_join_left (x y : List Int) : leqC x (joinC x y) = true := (leq_all _ _).2 fun i => by rw [atC_join]; omega
theorem leq_join_right (x y : List Int) : leqC y (joinC x y) = true := (leq_all _ _).2 fun i => by rw [atC_join]; omega
theorem leq_join {x y z : List Int} (h : leqC x z = true) (h' : leqC y z = true) : leqC (joinC x y) z = true :=
  (leq_all _ _).2 fun i => by rw [atC_join]; have := (leq_all x z).1 h i; have := (leq_all y z).1 h' i; omega
theorem cmp_zero {x y : List Int} (h : ∀ i : Nat, atC x i = atC y i) : cmpC x y = 0 := by
  unfold cmpC
  rw [if_pos ((leq_all x y).2 fun i => by rw [h i]; omega), if_pos ((leq_all y x).2 fun i => by rw [h i]; omega)]
theorem cmp_join_comm (x y : List Int) : cmpC (joinC x y) (joinC y x) = 0 := cmp_zero fun i => by rw [atC_join, atC_join]; omega
theorem cmp_join_assoc (x y z : List Int) : cmpC (joinC (joinC x y) z) (joinC x (joinC y z)) = 0 := cmp_zero fun i => by simp only [atC_join]; omega
theorem leq_up (x y z : List Int) : leqC (joinC x y) (joinC (joinC z x) y) = true := (leq_all _ _).2 fun i => by simp only [atC_join]; omega
theorem maxN_70 {a b : Nat} (h : a ≤ 70) (h' : b ≤ 70) : maxN a b ≤ 70 := by unfold maxN; omega

set_option maxHeartbeats 1000000 in
theorem ClockJoin_any (w : World) (a0 : Option Addr) (n0 c0 : Nat) (L0 : List (List Value)) (h0 : IsRows w [.int .i64] a0 n0 c0 L0) (a1 : Option Addr) (n1 c1 : Nat) (L1 : List (List Value)) (h1 : IsRows w [.int .i64] a1 n1 c1 L1) (a2 : Option Addr) (n2 c2 : Nat) (L2 : List (List Value)) (h2 : IsRows w [.int .i64] a2 n2 c2 L2) :
    Calls Try.prog 4 #[.slice a0 n0 c0, .slice a1 n1 c1, .slice a2 n2 c2] w fun e w' => e = .returned (.bool true) ∧ Below w.heap.size w w' := by
  obtain ⟨x, r0⟩ := isRows_rdI h0
  obtain ⟨y, r1⟩ := isRows_rdI h1
  obtain ⟨z, r2⟩ := isRows_rdI h2
  have FA := Lib.hid (near_fits r0.fits)
  have FB := Lib.hid (near_fits r1.fits)
  have FC := Lib.hid (near_fits r2.fits)
  have q1 := leq_join_left (nearC x) (nearC y)
  have q2 := leq_join_right (nearC x) (nearC y)
  have q3 := leq_up (nearC x) (nearC y) (nearC z)
  have q4 := cmp_join_comm (nearC x) (nearC y)
  have q5 := cmp_join_assoc (nearC x) (nearC y) (nearC z)
  have q6 : Hid (leqC (nearC x) (nearC z) = true → leqC (nearC y) (nearC z) = true → leqC (joinC (nearC x) (nearC y)) (nearC z) = true) := fun h h' => leq_join h h'
  have Q7 := Lib.hid (maxN_70 (show min n0 70 ≤ 70 by omega) (show min n1 70 ≤ 70 by omega))
  have Q8 := Lib.hid (maxN_70 (show min n2 70 ≤ 70 by omega) (show min n0 70 ≤ 70 by omega))
  have Q9 := Lib.hid (maxN_70 (show min n1 70 ≤ 70 by omega) (show min n2 70 ≤ 70 by omega))
  rcases hx : leqC (nearC x) (nearC z) with _ | _
  · go_enter Try.func4, Try.ntmps4
    have B0 := Below.refl w.heap.size w
    go_wp2_with fail
    refine (near_any a0 n0 c0 x _ r0).mono ?_
    rintro e w1 ⟨v, rfl, hown, hb⟩
    have B1 := below_step B0 hb
    clear B0
    replace r0 := RdI.below (B := 0) r0 hb
    replace r1 := RdI.below (B := 0) r1 hb
    replace r2 := RdI.below (B := 0) r2 hb
    clear hb
    obtain ⟨ara, cra, rfl⟩ := owns_slice hown
    have ra := owns_rdI hown FA.out
    clear hown
    go_wp2_with fail
    refine (near_any a1 n1 c1 y _ r1).mono ?_
    rintro e w2 ⟨v, rfl, hown, hb⟩
    have B2 := below_step B1 hb
    clear B1
    replace r0 := RdI.below (B := 0) r0 hb
    replace r1 := RdI.below (B := 0) r1 hb
    replace r2 := RdI.below (B := 0) r2 hb
    replace ra := RdI.below (B := 0) ra hb
    clear hb
    obtain ⟨arb, crb, rfl⟩ := owns_slice hown
    have rb := owns_rdI hown FB.out
    clear hown
    go_wp2_with fail
    refine (near_any a2 n2 c2 z _ r2).mono ?_
    rintro e w3 ⟨v, rfl, hown, hb⟩
    have B3 := below_step B2 hb
    clear B2
    replace r0 := RdI.below (B := 0) r0 hb
    replace r1 := RdI.below (B := 0) r1 hb
    replace r2 := RdI.below (B := 0) r2 hb
    replace ra := RdI.below (B := 0) ra hb
    replace rb := RdI.below (B := 0) rb hb
    clear hb
    obtain ⟨arc, crc, rfl⟩ := owns_slice hown
    have rc := owns_rdI hown FC.out
    clear hown
    clear r0 r1 r2
    go_wp2_with fail
    refine (join_any _ _ _ _ _ _ _ _ _ ra rb (by (try unfold maxN); omega) (by (try unfold maxN); omega)).mono ?_
    rintro e w4 ⟨v, rfl, hown, hb⟩
    have B4 := below_step B3 hb
    clear B3
    replace ra := RdI.below (B := 0) ra hb
    replace rb := RdI.below (B := 0) rb hb
    replace rc := RdI.below (B := 0) rc hb
    clear hb
    obtain ⟨arj, crj, rfl⟩ := owns_slice hown
    have rj := owns_rdI hown (join_fits FA.out FB.out)
    clear hown
    go_wp2_with fail
    refine (awake_any _).mono ?_
    rintro e w5 ⟨rfl, hb⟩
    have B5 := below_step B4 hb
    clear B4
    replace ra := RdI.below (B := 0) ra hb
    replace rb := RdI.below (B := 0) rb hb
    replace rc := RdI.below (B := 0) rc hb
    replace rj := RdI.below (B := 0) rj hb
    clear hb
    go_wp2_with fail
    refine (leq_any _ _ _ _ _ _ _ _ _ ra rj (by (try unfold maxN); omega) (by (try unfold maxN); omega)).mono ?_
    rintro e w6 ⟨rfl, hb⟩
    have B6 := below_step B5 hb
    clear B5
    replace ra := RdI.below (B := 0) ra hb
    replace rb := RdI.below (B := 0) rb hb
    replace rc := RdI.below (B := 0) rc hb
    replace rj := RdI.below (B := 0) rj hb
    clear hb
    go_wp2_with fail
    refine (leq_any _ _ _ _ _ _ _ _ _ rb rj (by (try unfold maxN); omega) (by (try unfold maxN); omega)).mono ?_
    rintro e w7 ⟨rfl, hb⟩
    have B7 := below_step B6 hb
    clear B6
    replace ra := RdI.below (B := 0) ra hb
    replace rb := RdI.below (B := 0) rb hb
    replace rc := RdI.below (B := 0) rc hb
    replace rj := RdI.below (B := 0) rj hb
    clear hb
    go_wp2_with fail
    refine (join_any _ _ _ _ _ _ _ _ _ rc ra (by (try unfold maxN); omega) (by (try unfold maxN); omega)).mono ?_
    rintro e w8 ⟨v, rfl, hown, hb⟩
    have B8 := below_step B7 hb
    clear B7
    replace ra := RdI.below (B := 0) ra hb
    replace rb := RdI.below (B := 0) rb hb
    replace rc := RdI.below (B := 0) rc hb
    replace rj := RdI.below (B := 0) rj hb
    clear hb
    obtain ⟨ark, crk, rfl⟩ := owns_slice hown
    have rk := owns_rdI hown (join_fits FC.out FA.out)
    clear hown
    go_wp2_with fail
    refine (join_any _ _ _ _ _ _ _ _ _ rk rb (by (try unfold maxN); omega) (by (try unfold maxN); omega)).mono ?_
    rintro e w9 ⟨v, rfl, hown, hb⟩
    have B9 := below_step B8 hb
    clear B8
    replace ra := RdI.below (B := 0) ra hb
    replace rb := RdI.below (B := 0) rb hb
    replace rc := RdI.below (B := 0) rc hb
    replace rj := RdI.below (B := 0) rj hb
    replace rk := RdI.below (B := 0) rk hb
    clear hb
    obtain ⟨aru, cru, rfl⟩ := owns_slice hown
    have ru := owns_rdI hown (join_fits (join_fits FC.out FA.out) FB.out)
    clear hown
    clear rk
    go_wp2_with fail
    refine (leq_any _ _ _ _ _ _ _ _ _ rj ru (by (try unfold maxN); omega) (by (try unfold maxN); omega)).mono ?_
    rintro e w10 ⟨rfl, hb⟩
    have B10 := below_step B9 hb
    clear B9
    replace ra := RdI.below (B := 0) ra hb
    replace rb := RdI.below (B := 0) rb hb
    replace rc := RdI.below (B := 0) rc hb
    replace rj := RdI.below (B := 0) rj hb
    replace ru := RdI.below (B := 0) ru hb
    clear hb
    clear ru
    go_wp2_with fail
    refine (join_any _ _ _ _ _ _ _ _ _ rb ra (by (try unfold maxN); omega) (by (try unfold maxN); omega)).mono ?_
    rintro e w11 ⟨v, rfl, hown, hb⟩
    have B11 := below_step B10 hb
    clear B10
    replace ra := RdI.below (B := 0) ra hb
    replace rb := RdI.below (B := 0) rb hb
    replace rc := RdI.below (B := 0) rc hb
    replace rj := RdI.below (B := 0) rj hb
    clear hb
    obtain ⟨ark, crk, rfl⟩ := owns_slice hown
    have rk := owns_rdI hown (join_fits FB.out FA.out)
    clear hown
    go_wp2_with fail
    refine (cmp_any _ _ _ _ _ _ _ _ _ rj rk (by (try unfold maxN); omega) (by (try unfold maxN); omega)).mono ?_
    rintro e w12 ⟨rfl, hb⟩
    have B12 := below_step B11 hb
    clear B11
    replace ra := RdI.below (B := 0) ra hb
    replace rb := RdI.below (B := 0) rb hb
    replace rc := RdI.below (B := 0) rc hb
    replace rj := RdI.below (B := 0) rj hb
    replace rk := RdI.below (B := 0) rk hb
    clear hb
    clear rk
    go_wp2_with fail
    refine (join_any _ _ _ _ _ _ _ _ _ rj rc (by (try unfold maxN); omega) (by (try unfold maxN); omega)).mono ?_
    rintro e w13 ⟨v, rfl, hown, hb⟩
    have B13 := below_step B12 hb
    clear B12
    replace ra := RdI.below (B := 0) ra hb
    replace rb := RdI.below (B := 0) rb hb
    replace rc := RdI.below (B := 0) rc hb
    replace rj := RdI.below (B := 0) rj hb
    clear hb
    obtain ⟨ark, crk, rfl⟩ := owns_slice hown
    have rk := owns_rdI hown (join_fits (join_fits FA.out FB.out) FC.out)
    clear hown
    go_wp2_with fail
    refine (join_any _ _ _ _ _ _ _ _ _ rb rc (by (try unfold maxN); omega) (by (try unfold maxN); omega)).mono ?_
    rintro e w14 ⟨v, rfl, hown, hb⟩
    have B14 := below_step B13 hb
    clear B13
    replace ra := RdI.below (B := 0) ra hb
    replace rb := RdI.below (B := 0) rb hb
    replace rc := RdI.below (B := 0) rc hb
    replace rj := RdI.below (B := 0) rj hb
    replace rk := RdI.below (B := 0) rk hb
    clear hb
    obtain ⟨arm, crm, rfl⟩ := owns_slice hown
    have rm := owns_rdI hown (join_fits FB.out FC.out)
    clear hown
    go_wp2_with fail
    refine (join_any _ _ _ _ _ _ _ _ _ ra rm (by (try unfold maxN); omega) (by (try unfold maxN); omega)).mono ?_
    rintro e w15 ⟨v, rfl, hown, hb⟩
    have B15 := below_step B14 hb
    clear B14
    replace ra := RdI.below (B := 0) ra hb
    replace rb := RdI.below (B := 0) rb hb
    replace rc := RdI.below (B := 0) rc hb
    replace rj := RdI.below (B := 0) rj hb
    replace rk := RdI.below (B := 0) rk hb
    replace rm := RdI.below (B := 0) rm hb
    clear hb
    obtain ⟨arn, crn, rfl⟩ := owns_slice hown
    have rn := owns_rdI hown (join_fits FA.out (join_fits FB.out FC.out))
    clear hown
    go_wp2_with fail
    refine (cmp_any _ _ _ _ _ _ _ _ _ rk rn (by (try unfold maxN); omega) (by (try unfold maxN); omega)).mono ?_
    rintro e w16 ⟨rfl, hb⟩
    have B16 := below_step B15 hb
    clear B15
    replace ra := RdI.below (B := 0) ra hb
    replace rb := RdI.below (B := 0) rb hb
    replace rc := RdI.below (B := 0) rc hb
    replace rj := RdI.below (B := 0) rj hb
    replace rk := RdI.below (B := 0) rk hb
    replace rm := RdI.below (B := 0) rm hb
    replace rn := RdI.below (B := 0) rn hb
    clear hb
    clear rk rm rn
    go_wp2_with fail
    refine (leq_any _ _ _ _ _ _ _ _ _ ra rc (by (try unfold maxN); omega) (by (try unfold maxN); omega)).mono ?_
    rintro e w17 ⟨rfl, hb⟩
    have B17 := below_step B16 hb
    clear B16
    replace ra := RdI.below (B := 0) ra hb
    replace rb := RdI.below (B := 0) rb hb
    replace rc := RdI.below (B := 0) rc hb
    replace rj := RdI.below (B := 0) rj hb
    clear hb
    go_wp2
    go_ret
    exact ⟨rfl, B17⟩
  · rcases hy : leqC (nearC y) (nearC z) with _ | _
    · go_enter Try.func4, Try.ntmps4
      have B0 := Below.refl w.heap.size w
      go_wp2_with fail
      refine (near_any a0 n0 c0 x _ r0).mono ?_
      rintro e w1 ⟨v, rfl, hown, hb⟩
      have B1 := below_step B0 hb
      clear B0
      replace r0 := RdI.below (B := 0) r0 hb
      replace r1 := RdI.below (B := 0) r1 hb
      replace r2 := RdI.below (B := 0) r2 hb
      clear hb
      obtain ⟨ara, cra, rfl⟩ := owns_slice hown
      have ra := owns_rdI hown FA.out
      clear hown
      go_wp2_with fail
      refine (near_any a1 n1 c1 y _ r1).mono ?_
      rintro e w2 ⟨v, rfl, hown, hb⟩
      have B2 := below_step B1 hb
      clear B1
      replace r0 := RdI.below (B := 0) r0 hb
      replace r1 := RdI.below (B := 0) r1 hb
      replace r2 := RdI.below (B := 0) r2 hb
      replace ra := RdI.below (B := 0) ra hb
      clear hb
      obtain ⟨arb, crb, rfl⟩ := owns_slice hown
      have rb := owns_rdI hown FB.out
      clear hown
      go_wp2_with fail
      refine (near_any a2 n2 c2 z _ r2).mono ?_
      rintro e w3 ⟨v, rfl, hown, hb⟩
      have B3 := below_step B2 hb
      clear B2
      replace r0 := RdI.below (B := 0) r0 hb
      replace r1 := RdI.below (B := 0) r1 hb
      replace r2 := RdI.below (B := 0) r2 hb
      replace ra := RdI.below (B := 0) ra hb
      replace rb := RdI.below (B := 0) rb hb
      clear hb
      obtain ⟨arc, crc, rfl⟩ := owns_slice hown
      have rc := owns_rdI hown FC.out
      clear hown
      clear r0 r1 r2
      go_wp2_with fail
      refine (join_any _ _ _ _ _ _ _ _ _ ra rb (by (try unfold maxN); omega) (by (try unfold maxN); omega)).mono ?_
      rintro e w4 ⟨v, rfl, hown, hb⟩
      have B4 := below_step B3 hb
      clear B3
      replace ra := RdI.below (B := 0) ra hb
      replace rb := RdI.below (B := 0) rb hb
      replace rc := RdI.below (B := 0) rc hb
      clear hb
      obtain ⟨arj, crj, rfl⟩ := owns_slice hown
      have rj := owns_rdI hown (join_fits FA.out FB.out)
      clear hown
      go_wp2_with fail
      refine (awake_any _).mono ?_
      rintro e w5 ⟨rfl, hb⟩
      have B5 := below_step B4 hb
      clear B4
      replace ra := RdI.below (B := 0) ra hb
      replace rb := RdI.below (B := 0) rb hb
      replace rc := RdI.below (B := 0) rc hb
      replace rj := RdI.below (B := 0) rj hb
      clear hb
      go_wp2_with fail
      refine (leq_any _ _ _ _ _ _ _ _ _ ra rj (by (try unfold maxN); omega) (by (try unfold maxN); omega)).mono ?_
      rintro e w6 ⟨rfl, hb⟩
      have B6 := below_step B5 hb
      clear B5
      replace ra := RdI.below (B := 0) ra hb
      replace rb := RdI.below (B := 0) rb hb
      replace rc := RdI.below (B := 0) rc hb
      replace rj := RdI.below (B := 0) rj hb
      clear hb
      go_wp2_with fail
      refine (leq_any _ _ _ _ _ _ _ _ _ rb rj (by (try unfold maxN); omega) (by (try unfold maxN); omega)).mono ?_
      rintro e w7 ⟨rfl, hb⟩
      have B7 := below_step B6 hb
      clear B6
      replace ra := RdI.below (B := 0) ra hb
      replace rb := RdI.below (B := 0) rb hb
      replace rc := RdI.below (B := 0) rc hb
      replace rj := RdI.below (B := 0) rj hb
      clear hb
      go_wp2_with fail
      refine (join_any _ _ _ _ _ _ _ _ _ rc ra (by (try unfold maxN); omega) (by (try unfold maxN); omega)).mono ?_
      rintro e w8 ⟨v, rfl, hown, hb⟩
      have B8 := below_step B7 hb
      clear B7
      replace ra := RdI.below (B := 0) ra hb
      replace rb := RdI.below (B := 0) rb hb
      replace rc := RdI.below (B := 0) rc hb
      replace rj := RdI.below (B := 0) rj hb
      clear hb
      obtain ⟨ark, crk, rfl⟩ := owns_slice hown
      have rk := owns_rdI hown (join_fits FC.out FA.out)
      clear hown
      go_wp2_with fail
      refine (join_any _ _ _ _ _ _ _ _ _ rk rb (by (try unfold maxN); omega) (by (try unfold maxN); omega)).mono ?_
      rintro e w9 ⟨v, rfl, hown, hb⟩
      have B9 := below_step B8 hb
      clear B8
      replace ra := RdI.below (B := 0) ra hb
      replace rb := RdI.below (B := 0) rb hb
      replace rc := RdI.below (B := 0) rc hb
      replace rj := RdI.below (B := 0) rj hb
      replace rk := RdI.below (B := 0) rk hb
      clear hb
      obtain ⟨aru, cru, rfl⟩ := owns_slice hown
      have ru := owns_rdI hown (join_fits (join_fits FC.out FA.out) FB.out)
      clear hown
      clear rk
      go_wp2_with fail
      refine (leq_any _ _ _ _ _ _ _ _ _ rj ru (by (try unfold maxN); omega) (by (try unfold maxN); omega)).mono ?_
      rintro e w10 ⟨rfl, hb⟩
      have B10 := below_step B9 hb
      clear B9
      replace ra := RdI.below (B := 0) ra hb
      replace rb := RdI.below (B := 0) rb hb
      replace rc := RdI.below (B := 0) rc hb
      replace rj := RdI.below (B := 0) rj hb
      replace ru := RdI.below (B := 0) ru hb
      clear hb
      clear ru
      go_wp2_with fail
      refine (join_any _ _ _ _ _ _ _ _ _ rb ra (by (try unfold maxN); omega) (by (try unfold maxN); omega)).mono ?_
      rintro e w11 ⟨v, rfl, hown, hb⟩
      have B11 := below_step B10 hb
      clear B10
      replace ra := RdI.below (B := 0) ra hb
      replace rb := RdI.below (B := 0) rb hb
      replace rc := RdI.below (B := 0) rc hb
      replace rj := RdI.below (B := 0) rj hb
      clear hb
      obtain ⟨ark, crk, rfl⟩ := owns_slice hown
      have rk := owns_rdI hown (join_fits FB.out FA.out)
      clear hown
      go_wp2_with fail
      refine (cmp_any _ _ _ _ _ _ _ _ _ rj rk (by (try unfold maxN); omega) (by (try unfold maxN); omega)).mono ?_
      rintro e w12 ⟨rfl, hb⟩
      have B12 := below_step B11 hb
      clear B11
      replace ra := RdI.below (B := 0) ra hb
      replace rb := RdI.below (B := 0) rb hb
      replace rc := RdI.below (B := 0) rc hb
      replace rj := RdI.below (B := 0) rj hb
      replace rk := RdI.below (B := 0) rk hb
      clear hb
      clear rk
      go_wp2_with fail
      refine (join_any _ _ _ _ _ _ _ _ _ rj rc (by (try unfold maxN); omega) (by (try unfold maxN); omega)).mono ?_
      rintro e w13 ⟨v, rfl, hown, hb⟩
      have B13 := below_step B12 hb
      clear B12
      replace ra := RdI.below (B := 0) ra hb
      replace rb := RdI.below (B := 0) rb hb
      replace rc := RdI.below (B := 0) rc hb
      replace rj := RdI.below (B := 0) rj hb
      clear hb
      obtain ⟨ark, crk, rfl⟩ := owns_slice hown
      have rk := owns_rdI hown (join_fits (join_fits FA.out FB.out) FC.out)
      clear hown
      go_wp2_with fail
      refine (join_any _ _ _ _ _ _ _ _ _ rb rc (by (try unfold maxN); omega) (by (try unfold maxN); omega)).mono ?_
      rintro e w14 ⟨v, rfl, hown, hb⟩
      have B14 := below_step B13 hb
      clear B13
      replace ra := RdI.below (B := 0) ra hb
      replace rb := RdI.below (B := 0) rb hb
      replace rc := RdI.below (B := 0) rc hb
      replace rj := RdI.below (B := 0) rj hb
      replace rk := RdI.below (B := 0) rk hb
      clear hb
      obtain ⟨arm, crm, rfl⟩ := owns_slice hown
      have rm := owns_rdI hown (join_fits FB.out FC.out)
      clear hown
      go_wp2_with fail
      refine (join_any _ _ _ _ _ _ _ _ _ ra rm (by (try unfold maxN); omega) (by (try unfold maxN); omega)).mono ?_
      rintro e w15 ⟨v, rfl, hown, hb⟩
      have B15 := below_step B14 hb
      clear B14
      replace ra := RdI.below (B := 0) ra hb
      replace rb := RdI.below (B := 0) rb hb
      replace rc := RdI.below (B := 0) rc hb
      replace rj := RdI.below (B := 0) rj hb
      replace rk := RdI.below (B := 0) rk hb
      replace rm := RdI.below (B := 0) rm hb
      clear hb
      obtain ⟨arn, crn, rfl⟩ := owns_slice hown
      have rn := owns_rdI hown (join_fits FA.out (join_fits FB.out FC.out))
      clear hown
      go_wp2_with fail
      refine (cmp_any _ _ _ _ _ _ _ _ _ rk rn (by (try unfold maxN); omega) (by (try unfold maxN); omega)).mono ?_
      rintro e w16 ⟨rfl, hb⟩
      have B16 := below_step B15 hb
      clear B15
      replace ra := RdI.below (B := 0) ra hb
      replace rb := RdI.below (B := 0) rb hb
      replace rc := RdI.below (B := 0) rc hb
      replace rj := RdI.below (B := 0) rj hb
      replace rk := RdI.below (B := 0) rk hb
      replace rm := RdI.below (B := 0) rm hb
      replace rn := RdI.below (B := 0) rn hb
      clear hb
      clear rk rm rn
      go_wp2_with fail
      refine (leq_any _ _ _ _ _ _ _ _ _ ra rc (by (try unfold maxN); omega) (by (try unfold maxN); omega)).mono ?_
      rintro e w17 ⟨rfl, hb⟩
      have B17 := below_step B16 hb
      clear B16
      replace ra := RdI.below (B := 0) ra hb
      replace rb := RdI.below (B := 0) rb hb
      replace rc := RdI.below (B := 0) rc hb
      replace rj := RdI.below (B := 0) rj hb
      clear hb
      go_wp2_with fail
      refine (leq_any _ _ _ _ _ _ _ _ _ rb rc (by (try unfold maxN); omega) (by (try unfold maxN); omega)).mono ?_
      rintro e w18 ⟨rfl, hb⟩
      have B18 := below_step B17 hb
      clear B17
      replace ra := RdI.below (B := 0) ra hb
      replace rb := RdI.below (B := 0) rb hb
      replace rc := RdI.below (B := 0) rc hb
      replace rj := RdI.below (B := 0) rj hb
      clear hb
      go_wp2
      go_ret
      exact ⟨rfl, B18⟩
    · have hj : leqC (joinC (nearC x) (nearC y)) (nearC z) = true := q6.out hx hy
      go_enter Try.func4, Try.ntmps4
      have B0 := Below.refl w.heap.size w
      go_wp2_with fail
      refine (near_any a0 n0 c0 x _ r0).mono ?_
      rintro e w1 ⟨v, rfl, hown, hb⟩
      have B1 := below_step B0 hb
      clear B0
      replace r0 := RdI.below (B := 0) r0 hb
      replace r1 := RdI.below (B := 0) r1 hb
      replace r2 := RdI.below (B := 0) r2 hb
      clear hb
      obtain ⟨ara, cra, rfl⟩ := owns_slice hown
      have ra := owns_rdI hown FA.out
      clear hown
      go_wp2_with fail
      refine (near_any a1 n1 c1 y _ r1).mono ?_
      rintro e w2 ⟨v, rfl, hown, hb⟩
      have B2 := below_step B1 hb
      clear B1
      replace r0 := RdI.below (B := 0) r0 hb
      replace r1 := RdI.below (B := 0) r1 hb
      replace r2 := RdI.below (B := 0) r2 hb
      replace ra := RdI.below (B := 0) ra hb
      clear hb
      obtain ⟨arb, crb, rfl⟩ := owns_slice hown
      have rb := owns_rdI hown FB.out
      clear hown
      go_wp2_with fail
      refine (near_any a2 n2 c2 z _ r2).mono ?_
      rintro e w3 ⟨v, rfl, hown, hb⟩
      have B3 := below_step B2 hb
      clear B2
      replace r0 := RdI.below (B := 0) r0 hb
      replace r1 := RdI.below (B := 0) r1 hb
      replace r2 := RdI.below (B := 0) r2 hb
      replace ra := RdI.below (B := 0) ra hb
      replace rb := RdI.below (B := 0) rb hb
      clear hb
      obtain ⟨arc, crc, rfl⟩ := owns_slice hown
      have rc := owns_rdI hown FC.out
      clear hown
      clear r0 r1 r2
      go_wp2_with fail
      refine (join_any _ _ _ _ _ _ _ _ _ ra rb (by (try unfold maxN); omega) (by (try unfold maxN); omega)).mono ?_
      rintro e w4 ⟨v, rfl, hown, hb⟩
      have B4 := below_step B3 hb
      clear B3
      replace ra := RdI.below (B := 0) ra hb
      replace rb := RdI.below (B := 0) rb hb
      replace rc := RdI.below (B := 0) rc hb
      clear hb
      obtain ⟨arj, crj, rfl⟩ := owns_slice hown
      have rj := owns_rdI hown (join_fits FA.out FB.out)
      clear hown
      go_wp2_with fail
      refine (awake_any _).mono ?_
      rintro e w5 ⟨rfl, hb⟩
      have B5 := below_step B4 hb
      clear B4
      replace ra := RdI.below (B := 0) ra hb
      replace rb := RdI.below (B := 0) rb hb
      replace rc := RdI.below (B := 0) rc hb
      replace rj := RdI.below (B := 0) rj hb
      clear hb
      go_wp2_with fail
      refine (leq_any _ _ _ _ _ _ _ _ _ ra rj (by (try unfold maxN); omega) (by (try unfold maxN); omega)).mono ?_
      rintro e w6 ⟨rfl, hb⟩
      have B6 := below_step B5 hb
      clear B5
      replace ra := RdI.below (B := 0) ra hb
      replace rb := RdI.below (B := 0) rb hb
      replace rc := RdI.below (B := 0) rc hb
      replace rj := RdI.below (B := 0) rj hb
      clear hb
      go_wp2_with fail
      refine (leq_any _ _ _ _ _ _ _ _ _ rb rj (by (try unfold maxN); omega) (by (try unfold maxN); omega)).mono ?_
      rintro e w7 ⟨rfl, hb⟩
      have B7 := below_step B6 hb
      clear B6
      replace ra := RdI.below (B := 0) ra hb
      replace rb := RdI.below (B := 0) rb hb
      replace rc := RdI.below (B := 0) rc hb
      replace rj := RdI.below (B := 0) rj hb
      clear hb
      go_wp2_with fail
      refine (join_any _ _ _ _ _ _ _ _ _ rc ra (by (try unfold maxN); omega) (by (try unfold maxN); omega)).mono ?_
      rintro e w8 ⟨v, rfl, hown, hb⟩
      have B8 := below_step B7 hb
      clear B7
      replace ra := RdI.below (B := 0) ra hb
      replace rb := RdI.below (B := 0) rb hb
      replace rc := RdI.below (B := 0) rc hb
      replace rj := RdI.below (B := 0) rj hb
      clear hb
      obtain ⟨ark, crk, rfl⟩ := owns_slice hown
      have rk := owns_rdI hown (join_fits FC.out FA.out)
      clear hown
      go_wp2_with fail
      refine (join_any _ _ _ _ _ _ _ _ _ rk rb (by (try unfold maxN); omega) (by (try unfold maxN); omega)).mono ?_
      rintro e w9 ⟨v, rfl, hown, hb⟩
      have B9 := below_step B8 hb
      clear B8
      replace ra := RdI.below (B := 0) ra hb
      replace rb := RdI.below (B := 0) rb hb
      replace rc := RdI.below (B := 0) rc hb
      replace rj := RdI.below (B := 0) rj hb
      replace rk := RdI.below (B := 0) rk hb
      clear hb
      obtain ⟨aru, cru, rfl⟩ := owns_slice hown
      have ru := owns_rdI hown (join_fits (join_fits FC.out FA.out) FB.out)
      clear hown
      clear rk
      go_wp2_with fail
      refine (leq_any _ _ _ _ _ _ _ _ _ rj ru (by (try unfold maxN); omega) (by (try unfold maxN); omega)).mono ?_
      rintro e w10 ⟨rfl, hb⟩
      have B10 := below_step B9 hb
      clear B9
      replace ra := RdI.below (B := 0) ra hb
      replace rb := RdI.below (B := 0) rb hb
      replace rc := RdI.below (B := 0) rc hb
      replace rj := RdI.below (B := 0) rj hb
      replace ru := RdI.below (B := 0) ru hb
      clear hb
      clear ru
      go_wp2_with fail
      refine (join_any _ _ _ _ _ _ _ _ _ rb ra (by (try unfold maxN); omega) (by (try unfold maxN); omega)).mono ?_
      rintro e w11 ⟨v, rfl, hown, hb⟩
      have B11 := below_step B10 hb
      clear B10
      replace ra := RdI.below (B := 0) ra hb
      replace rb := RdI.below (B := 0) rb hb
      replace rc := RdI.below (B := 0) rc hb
      replace rj := RdI.below (B := 0) rj hb
      clear hb
      obtain ⟨ark, crk, rfl⟩ := owns_slice hown
      have rk := owns_rdI hown (join_fits FB.out FA.out)
      clear hown
      go_wp2_with fail
      refine (cmp_any _ _ _ _ _ _ _ _ _ rj rk (by (try unfold maxN); omega) (by (try unfold maxN); omega)).mono ?_
      rintro e w12 ⟨rfl, hb⟩
      have B12 := below_step B11 hb
      clear B11
      replace ra := RdI.below (B := 0) ra hb
      replace rb := RdI.below (B := 0) rb hb
      replace rc := RdI.below (B := 0) rc hb
      replace rj := RdI.below (B := 0) rj hb
      replace rk := RdI.below (B := 0) rk hb
      clear hb
      clear rk
      go_wp2_with fail
      refine (join_any _ _ _ _ _ _ _ _ _ rj rc (by (try unfold maxN); omega) (by (try unfold maxN); omega)).mono ?_
      rintro e w13 ⟨v, rfl, hown, hb⟩
      have B13 := below_step B12 hb
      clear B12
      replace ra := RdI.below (B := 0) ra hb
      replace rb := RdI.below (B := 0) rb hb
      replace rc := RdI.below (B := 0) rc hb
      replace rj := RdI.below (B := 0) rj hb
      clear hb
      obtain ⟨ark, crk, rfl⟩ := owns_slice hown
      have rk := owns_rdI hown (join_fits (join_fits FA.out FB.out) FC.out)
      clear hown
      go_wp2_with fail
      refine (join_any _ _ _ _ _ _ _ _ _ rb rc (by (try unfold maxN); omega) (by (try unfold maxN); omega)).mono ?_
      rintro e w14 ⟨v, rfl, hown, hb⟩
      have B14 := below_step B13 hb
      clear B13
      replace ra := RdI.below (B := 0) ra hb
      replace rb := RdI.below (B := 0) rb hb
      replace rc := RdI.below (B := 0) rc hb
      replace rj := RdI.below (B := 0) rj hb
      replace rk := RdI.below (B := 0) rk hb
      clear hb
      obtain ⟨arm, crm, rfl⟩ := owns_slice hown
      have rm := owns_rdI hown (join_fits FB.out FC.out)
      clear hown
      go_wp2_with fail
      refine (join_any _ _ _ _ _ _ _ _ _ ra rm (by (try unfold maxN); omega) (by (try unfold maxN); omega)).mono ?_
      rintro e w15 ⟨v, rfl, hown, hb⟩
      have B15 := below_step B14 hb
      clear B14
      replace ra := RdI.below (B := 0) ra hb
      replace rb := RdI.below (B := 0) rb hb
      replace rc := RdI.below (B := 0) rc hb
      replace rj := RdI.below (B := 0) rj hb
      replace rk := RdI.below (B := 0) rk hb
      replace rm := RdI.below (B := 0) rm hb
      clear hb
      obtain ⟨arn, crn, rfl⟩ := owns_slice hown
      have rn := owns_rdI hown (join_fits FA.out (join_fits FB.out FC.out))
      clear hown
      go_wp2_with fail
      refine (cmp_any _ _ _ _ _ _ _ _ _ rk rn (by (try unfold maxN); omega) (by (try unfold maxN); omega)).mono ?_
      rintro e w16 ⟨rfl, hb⟩
      have B16 := below_step B15 hb
      clear B15
      replace ra := RdI.below (B := 0) ra hb
      replace rb := RdI.below (B := 0) rb hb
      replace rc := RdI.below (B := 0) rc hb
      replace rj := RdI.below (B := 0) rj hb
      replace rk := RdI.below (B := 0) rk hb
      replace rm := RdI.below (B := 0) rm hb
      replace rn := RdI.below (B := 0) rn hb
      clear hb
      clear rk rm rn
      go_wp2_with fail
      refine (leq_any _ _ _ _ _ _ _ _ _ ra rc (by (try unfold maxN); omega) (by (try unfold maxN); omega)).mono ?_
      rintro e w17 ⟨rfl, hb⟩
      have B17 := below_step B16 hb
      clear B16
      replace ra := RdI.below (B := 0) ra hb
      replace rb := RdI.below (B := 0) rb hb
      replace rc := RdI.below (B := 0) rc hb
      replace rj := RdI.below (B := 0) rj hb
      clear hb
      go_wp2_with fail
      refine (leq_any _ _ _ _ _ _ _ _ _ rb rc (by (try unfold maxN); omega) (by (try unfold maxN); omega)).mono ?_
      rintro e w18 ⟨rfl, hb⟩
      have B18 := below_step B17 hb
      clear B17
      replace ra := RdI.below (B := 0) ra hb
      replace rb := RdI.below (B := 0) rb hb
      replace rc := RdI.below (B := 0) rc hb
      replace rj := RdI.below (B := 0) rj hb
      clear hb
      go_wp2_with fail
      refine (leq_any _ _ _ _ _ _ _ _ _ rj rc (by (try unfold maxN); omega) (by (try unfold maxN); omega)).mono ?_
      rintro e w19 ⟨rfl, hb⟩
      have B19 := below_step B18 hb
      clear B18
      replace ra := RdI.below (B := 0) ra hb
      replace rb := RdI.below (B := 0) rb hb
      replace rc := RdI.below (B := 0) rc hb
      replace rj := RdI.below (B := 0) rj hb
      clear hb
      go_wp2
      go_ret
      exact ⟨rfl, B19⟩

end Go.Proofs.Ytocpanhhbjhklaa
