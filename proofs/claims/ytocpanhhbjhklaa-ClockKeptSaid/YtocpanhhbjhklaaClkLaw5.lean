/- The laws on clocks, the last: numbers that are 0 behind a clock's end; what is handed in is kept. -/
import Derived.Test.YtocpanhhbjhklaaClkLaw4
import Derived.Test.YtocpanhhbjhklaaHelpI2
namespace Go.Proofs.Ytocpanhhbjhklaa
set_option linter.unusedVariables false
set_option linter.unusedSimpArgs false
open Go.RowKit Go.Proofs.YtocpanhhbjhklaaMem Go.Proofs.YtocpanhhbjhklaaFlat

theorem atC_zeros (x : List Int) (k i : Nat) : atC (x ++ List.replicate k 0) i = atC x i := by rw [atC_nth, atC_nth, nth_append_zeros]
theorem leq_congr {x y x' y' : List Int} (h : ∀ i : Nat, atC x i = atC x' i) (h' : ∀ i : Nat, atC y i = atC y' i) : leqC x y = leqC x' y' := by
  rw [Bool.eq_iff_iff, leq_all, leq_all]
  exact ⟨fun hh i => by rw [← h i, ← h' i]; exact hh i, fun hh i => by rw [h i, h' i]; exact hh i⟩
theorem cmp_congr {x y x' y' : List Int} (h : ∀ i : Nat, atC x i = atC x' i) (h' : ∀ i : Nat, atC y i = atC y' i) : cmpC x y = cmpC x' y' := by
  unfold cmpC; rw [leq_congr h h', leq_congr h' h]
theorem zeros_fits {x : List Int} (h : ∀ z ∈ x, I64 z) (k : Nat) : ∀ z ∈ x ++ List.replicate k 0, I64 z := by
  intro z hz
  simp only [List.mem_append, List.mem_replicate] at hz
  rcases hz with hz | ⟨_, rfl⟩
  · exact h z hz
  · decide

set_option maxHeartbeats 2000000 in
theorem ClockZeros_any (w : World) (a0 : Option Addr) (n0 c0 : Nat) (L0 : List (List Value)) (h0 : IsRows w [.int .i64] a0 n0 c0 L0) (a1 : Option Addr) (n1 c1 : Nat) (L1 : List (List Value)) (h1 : IsRows w [.int .i64] a1 n1 c1 L1) (i : Int) (hi : (Lit.int .i64 i).wf = true) (j : Int) (hj : (Lit.int .i64 j).wf = true) :
    Calls Try.prog 7 #[.slice a0 n0 c0, .slice a1 n1 c1, .int .i64 i, .int .i64 j] w fun e w' => e = .returned (.bool true) ∧ Below w.heap.size w w' := by
  obtain ⟨x, r0⟩ := isRows_rdI h0
  obtain ⟨y, r1⟩ := isRows_rdI h1
  have FA := Lib.hid (near_fits r0.fits)
  have FB := Lib.hid (near_fits r1.fits)
  obtain ⟨i0, i1⟩ := modZ_bd i (n := 9) (by omega)
  obtain ⟨j0, j1⟩ := modZ_bd j (n := 9) (by omega)
  have hnear0 := fun w h => near_any a0 n0 c0 x w h
  have hnear1 := fun w h => near_any a1 n1 c1 y w h
  obtain ⟨m0, hm0⟩ : ∃ m, min n0 70 = m := ⟨_, rfl⟩
  obtain ⟨m1, hm1⟩ : ∃ m, min n1 70 = m := ⟨_, rfl⟩
  rw [hm0] at hnear0
  rw [hm1] at hnear1
  have b0 : m0 ≤ 70 := by omega
  have b1 : m1 ≤ 70 := by omega
  clear hm0 hm1
  generalize nearC x = A at *
  generalize nearC y = B at *
  have HN0 := Lib.hid hnear0
  have HN1 := Lib.hid hnear1
  clear hnear0 hnear1
  go_enter Try.func7, Try.ntmps7
  have B0 := Below.refl w.heap.size w
  go_wp2_with fail
  refine (HN0.out _ r0).mono ?_
  rintro e w1 ⟨v, rfl, hown, hb⟩
  have B1 := below_step B0 hb
  clear B0
  replace r0 := RdI.below (B := 0) r0 hb
  replace r1 := RdI.below (B := 0) r1 hb
  clear hb
  obtain ⟨ara, cra, rfl⟩ := owns_slice hown
  have ra := owns_rdI hown FA.out
  clear hown
  go_wp2_with fail
  refine (HN1.out _ r1).mono ?_
  rintro e w2 ⟨v, rfl, hown, hb⟩
  have B2 := below_step B1 hb
  clear B1
  replace r0 := RdI.below (B := 0) r0 hb
  replace r1 := RdI.below (B := 0) r1 hb
  replace ra := RdI.below (B := 0) ra hb
  clear hb
  obtain ⟨arb, crb, rfl⟩ := owns_slice hown
  have rb := owns_rdI hown FB.out
  clear hown
  clear r0 r1
  go_wp2_with fail
  refine (ownI_any _ _ _ _ 0 _ ra (by omega)).mono ?_
  rintro e w3 ⟨gx, rfl, hgx, hgx2, hox, hb3⟩
  have rb3 := RdI.below (B := 0) rb hb3
  go_wp2_with fail
  refine (ownI_any _ _ _ _ 0 _ rb3 (by omega)).mono ?_
  rintro e w4 ⟨gy, rfl, hgy, hgy2, hoy, hb4⟩
  have hx4 := owns_base (hox.below hb4).owns hgx
  have hy4 := owns_base hoy.owns (Nat.le_trans hb3.size hgy)
  have hb34 := below_step hb3 hb4
  have hne : gx ≠ gy := by omega
  clear hox hoy rb3 hb3 hb4
  go_wp2_with fail
  go_loopw [9, 11] (fun v t wr => ∃ k : Nat, (k : Int) ≤ modZ i 9 ∧ t = .int .i64 k ∧ (∃ a c, v = .slice a (m0 + k) c ∧ wr.ownsRow w2.heap.size 3 1 (.slice a (m0 + k) c) (m0 + k) (ints (A ++ List.replicate k 0)) ∧ (Value.slice a (m0 + k) c).ownBlock ≠ some gy) ∧ wr.ownsRow w2.heap.size 3 1 (.slice (some ⟨gy, 0, none⟩) m1 (m1 + 3)) m1 (ints B) ∧ Below w2.heap.size w2 wr) (fun _ t _ => (modZ i 9).toNat - (intOf t).toNat)
  case atStart => exact ⟨0, by omega, rfl, ⟨_, _, rfl, by simpa using hx4, by simp [Value.ownBlock]; exact hne⟩, hy4, hb34⟩
  case round =>
    obtain ⟨k, hk, rfl, ⟨a, c, rfl, hxr, hxn⟩, hyr, hbr⟩ := hrel
    clear hx4 hy4 hb34
    have hbase : w2.heap.size ≤ wr.heap.size := hbr.size
    have XN := Lib.hid hxn
    clear hxn
    by_cases hl : (k : Int) < modZ i 9
    · have hn2 : m0 + k + 1 ≤ 1099511627776 := by omega
      go_wp2_with (first
        | (go_at_call 10; refine (mod_any _ _ (by omega) (by omega) _).mono ?_; rintro e w' ⟨rfl, rfl⟩)
        | (at_builtin; refine ap_new wr _ EI rfl _ _ rfl w2.heap.size _ (m0 + k) _ rfl hxr hbase 1 rfl rfl (one1 rfl) hn2 ?_; intro v' w5 hown3 hg3 hb5 hfr3))
      obtain ⟨a', c', rfl⟩ := owns_slice hown3
      go_roundw
      case rel =>
        refine ⟨k + 1, by omega, by go_num, ⟨a', c', rfl, by rw [List.replicate_succ', ← List.append_assoc, ints_append]; exact hown3, ?_⟩, owns_grown hyr hg3 (fun q hq => by cases hq; exact XN.out), hbr.trans hb5⟩
        rcases hfr3 with h | h
        · intro e; exact XN.out (h.symm.trans e)
        · intro e; have := h gy e; have := (hyr.lt gy rfl).2; omega
      case measure => simp [intOf]; omega
    · have hke : modZ i 9 = (k : Int) := by omega
      have KE := Lib.hid hke
      clear hke
      go_wp2_with (go_at_call 10; refine (mod_any _ _ (by omega) (by omega) _).mono ?_; rintro e w' ⟨rfl, rfl⟩)
      have hxb : ∀ g, (Value.slice a (m0 + k) c).ownBlock = some g → g ≠ gy := fun g hg e => XN.out (by rw [hg, e])
      have XB := Lib.hid hxb
      clear hxb
      go_loopw [10, 12] (fun v t wr => ∃ k' : Nat, (k' : Int) ≤ modZ j 9 ∧ t = .int .i64 k' ∧ (∃ a' c', v = .slice a' (m1 + k') c' ∧ wr.ownsRow w2.heap.size 3 1 (.slice a' (m1 + k') c') (m1 + k') (ints (B ++ List.replicate k' 0)) ∧ ∀ g, (Value.slice a (m0 + k) c).ownBlock = some g → (Value.slice a' (m1 + k') c').ownBlock ≠ some g) ∧ wr.ownsRow w2.heap.size 3 1 (.slice a (m0 + k) c) (m0 + k) (ints (A ++ List.replicate k 0)) ∧ Below w2.heap.size w2 wr) (fun _ t _ => (modZ j 9).toNat - (intOf t).toNat)
      case atStart => exact ⟨0, by omega, rfl, ⟨_, _, rfl, by simpa using hyr, fun g hg e => XB.out g hg (by simpa [Value.ownBlock] using e.symm)⟩, hxr, hbr⟩
      case round =>
        clear hyr hbr hbase hxr
        obtain ⟨k', hk', rfl, ⟨a', c', rfl, hyr, hyn⟩, hxr, hbr⟩ := hrel
        have hbase : w2.heap.size ≤ wr.heap.size := hbr.size
        have YN := Lib.hid hyn
        clear hyn
        by_cases hl' : (k' : Int) < modZ j 9
        · have hn2 : m1 + k' + 1 ≤ 1099511627776 := by omega
          go_wp2_with (first
            | (go_at_call 10; refine (mod_any _ _ (by omega) (by omega) _).mono ?_; rintro e w' ⟨rfl, rfl⟩)
            | (at_builtin; refine ap_new wr _ EI rfl _ _ rfl w2.heap.size _ (m1 + k') _ rfl hyr hbase 1 rfl rfl (one1 rfl) hn2 ?_; intro v' w5 hown3 hg3 hb5 hfr3))
          obtain ⟨a2, c2, rfl⟩ := owns_slice hown3
          go_roundw
          case rel =>
            refine ⟨k' + 1, by omega, by go_num, ⟨a2, c2, rfl, by rw [List.replicate_succ', ← List.append_assoc, ints_append]; exact hown3, ?_⟩, owns_grown hxr hg3 (fun q hq => YN.out q hq), hbr.trans hb5⟩
            intro g hg
            rcases hfr3 with h | h
            · intro e; exact YN.out g hg (h.symm.trans e)
            · intro e; have := h g e; have := (hxr.lt g hg).2; omega
          case measure => simp [intOf]; omega
        · have hke : modZ j 9 = (k' : Int) := by omega
          have rx := owns_rdI hxr (zeros_fits FA.out k)
          have ry := owns_rdI hyr (zeros_fits FB.out k')
          replace ra := RdI.below (B := 0) ra hbr
          replace rb := RdI.below (B := 0) rb hbr
          have q1 : leqC (A ++ List.replicate k 0) (B ++ List.replicate k' 0) = leqC A B := leq_congr (atC_zeros A k) (atC_zeros B k')
          have q2 : cmpC (A ++ List.replicate k 0) (B ++ List.replicate k' 0) = cmpC A B := cmp_congr (atC_zeros A k) (atC_zeros B k')
          have q3 : cmpC (A ++ List.replicate k 0) A = 0 := cmp_zero (atC_zeros A k)
          have q4 : cmpC (joinC (A ++ List.replicate k 0) (B ++ List.replicate k' 0)) (joinC A B) = 0 := cmp_zero fun i => by rw [atC_join, atC_join, atC_zeros, atC_zeros]
          have Q1 := Lib.hid q1
          have Q2 := Lib.hid q2
          have FX := Lib.hid (zeros_fits FA.out k)
          have FY := Lib.hid (zeros_fits FB.out k')
          generalize A ++ List.replicate k 0 = X at *
          generalize B ++ List.replicate k' 0 = Y at *
          have B1 := B2.trans (hbr.mono B2.size)
          clear hke hxr hyr KE XB YN XN hbr q1 q2
          have mk : m0 + k ≤ 100 := by omega
          have mk' : m1 + k' ≤ 100 := by omega
          go_wp2_with (go_at_call 10; refine (mod_any _ _ (by omega) (by omega) _).mono ?_; rintro e w' ⟨rfl, rfl⟩)
          refine (awake_any _).mono ?_
          rintro e w21 ⟨rfl, hb⟩
          have B21 := below_step B1 hb
          clear B1
          replace ra := RdI.below (B := 0) ra hb
          replace rb := RdI.below (B := 0) rb hb
          replace rx := RdI.below (B := 0) rx hb
          replace ry := RdI.below (B := 0) ry hb
          clear hb
          go_wp2_with fail
          refine (leq_any _ _ _ _ _ _ _ _ _ rx ry (by (try unfold maxN); omega) (by (try unfold maxN); omega)).mono ?_
          rintro e w22 ⟨rfl, hb⟩
          have B22 := below_step B21 hb
          clear B21
          replace ra := RdI.below (B := 0) ra hb
          replace rb := RdI.below (B := 0) rb hb
          replace rx := RdI.below (B := 0) rx hb
          replace ry := RdI.below (B := 0) ry hb
          clear hb
          rw [Q1.out]
          go_wp2_with fail
          refine (leq_any _ _ _ _ _ _ _ _ _ ra rb (by (try unfold maxN); omega) (by (try unfold maxN); omega)).mono ?_
          rintro e w23 ⟨rfl, hb⟩
          have B23 := below_step B22 hb
          clear B22
          replace ra := RdI.below (B := 0) ra hb
          replace rb := RdI.below (B := 0) rb hb
          replace rx := RdI.below (B := 0) rx hb
          replace ry := RdI.below (B := 0) ry hb
          clear hb
          go_wp2_with fail
          refine (cmp_any _ _ _ _ _ _ _ _ _ rx ry (by (try unfold maxN); omega) (by (try unfold maxN); omega)).mono ?_
          rintro e w24 ⟨rfl, hb⟩
          have B24 := below_step B23 hb
          clear B23
          replace ra := RdI.below (B := 0) ra hb
          replace rb := RdI.below (B := 0) rb hb
          replace rx := RdI.below (B := 0) rx hb
          replace ry := RdI.below (B := 0) ry hb
          clear hb
          rw [Q2.out]
          go_wp2_with fail
          refine (cmp_any _ _ _ _ _ _ _ _ _ ra rb (by (try unfold maxN); omega) (by (try unfold maxN); omega)).mono ?_
          rintro e w25 ⟨rfl, hb⟩
          have B25 := below_step B24 hb
          clear B24
          replace ra := RdI.below (B := 0) ra hb
          replace rb := RdI.below (B := 0) rb hb
          replace rx := RdI.below (B := 0) rx hb
          replace ry := RdI.below (B := 0) ry hb
          clear hb
          go_wp2_with fail
          refine (cmp_any _ _ _ _ _ _ _ _ _ rx ra (by (try unfold maxN); omega) (by (try unfold maxN); omega)).mono ?_
          rintro e w26 ⟨rfl, hb⟩
          have B26 := below_step B25 hb
          clear B25
          replace ra := RdI.below (B := 0) ra hb
          replace rb := RdI.below (B := 0) rb hb
          replace rx := RdI.below (B := 0) rx hb
          replace ry := RdI.below (B := 0) ry hb
          clear hb
          go_wp2_with fail
          refine (join_any _ _ _ _ _ _ _ _ _ rx ry (by (try unfold maxN); omega) (by (try unfold maxN); omega)).mono ?_
          rintro e w27 ⟨v, rfl, hown, hb⟩
          have B27 := below_step B26 hb
          clear B26
          replace ra := RdI.below (B := 0) ra hb
          replace rb := RdI.below (B := 0) rb hb
          replace rx := RdI.below (B := 0) rx hb
          replace ry := RdI.below (B := 0) ry hb
          clear hb
          obtain ⟨arj, crj, rfl⟩ := owns_slice hown
          have rj := owns_rdI hown (join_fits FX.out FY.out)
          clear hown
          go_wp2_with fail
          refine (join_any _ _ _ _ _ _ _ _ _ ra rb (by (try unfold maxN); omega) (by (try unfold maxN); omega)).mono ?_
          rintro e w28 ⟨v, rfl, hown, hb⟩
          have B28 := below_step B27 hb
          clear B27
          replace ra := RdI.below (B := 0) ra hb
          replace rb := RdI.below (B := 0) rb hb
          replace rx := RdI.below (B := 0) rx hb
          replace ry := RdI.below (B := 0) ry hb
          replace rj := RdI.below (B := 0) rj hb
          clear hb
          obtain ⟨ark, crk, rfl⟩ := owns_slice hown
          have rk := owns_rdI hown (join_fits FA.out FB.out)
          clear hown
          go_wp2_with fail
          refine (cmp_any _ _ _ _ _ _ _ _ _ rj rk (by (try unfold maxN); omega) (by (try unfold maxN); omega)).mono ?_
          rintro e w29 ⟨rfl, hb⟩
          have B29 := below_step B28 hb
          clear B28
          replace ra := RdI.below (B := 0) ra hb
          replace rb := RdI.below (B := 0) rb hb
          replace rx := RdI.below (B := 0) rx hb
          replace ry := RdI.below (B := 0) ry hb
          replace rj := RdI.below (B := 0) rj hb
          replace rk := RdI.below (B := 0) rk hb
          clear hb
          go_wp2
          go_ret
          exact ⟨rfl, B29⟩
end Go.Proofs.Ytocpanhhbjhklaa
