/- RaceFront: what comes later changes no earlier clock; the first two that race are the first two of any front that has both. -/
import Derived.Test.YtkhhjjjpbfnlmaaRaceT
namespace Go.Proofs.Ytkhhjjjpbfnlmaa
set_option linter.unusedVariables false
set_option linter.unusedSimpArgs false
open Go.RowKit Go.Proofs.YtkhhjjjpbfnlmaaMem Go.Proofs.YtkhhjjjpbfnlmaaFlat Go.Proofs.YtkhhjjjpbfnlmaaMapK

theorem RdE.held {W w' : World} {ao : Option Addr} {n cap : Nat} {l : List EvS} (h : RdE W ao n cap l) (hs : Below W.heap.size W w' ∧ (∀ b o, b < W.heap.size → w'.cell? ⟨b, o, none⟩ = W.cell? ⟨b, o, none⟩)) : RdE w' ao n cap l := h.below hs.1
theorem before_race {l : List EvS} {i j : Nat} (hj : j < (allC l).length) (hi : i < j) (h : raceB l i j = true) : conflictB (nthE l i) (nthE l j) = true ∧ beforeB l i j = false := by
  unfold raceB at h
  simp only [Bool.and_eq_true, Bool.not_eq_true'] at h
  refine ⟨h.1, ?_⟩
  unfold beforeB
  rw [show ((i : Nat) : Int).toNat = i from Int.toNat_natCast i, show ((j : Nat) : Int).toNat = j from Int.toNat_natCast j, h.2]
  simp

set_option maxHeartbeats 2000000 in
theorem RaceFront_1 (ao at' : Option Addr) (n0 cap m capt : Nat) (l : List EvS) (ts : List Int) (z : Int) (w : World) (h : RdE w ao n0 cap l) (ht : RdI w at' m capt ts) :
    Calls Try.prog 8 #[.slice ao n0 cap, .slice at' m capt, .int .i64 z] w fun e w' => e = .returned (.bool true) ∧ Below w.heap.size w w' := by
  have hlen := longE_length l ts
  have hok := Lib.hid (longE_ok h.ok ts)
  have hfit := Lib.hid (allC_fits (longE l ts) (by omega))
  go_enter Try.func8, Try.ntmps8
  go_wp2_with fail
  refine (long_any ao at' n0 cap m capt l ts _ h ht).mono ?_
  rintro e w1 ⟨v, rfl, hown, hb1⟩
  obtain ⟨a, c, rfl⟩ := owns_slice hown
  have r1 := owns_rdE hown hok.out
  generalize longE l ts = L at *
  clear hown h ht
  obtain ⟨n, hq⟩ : ∃ n, L.length = n := ⟨_, rfl⟩
  rw [hq] at r1 hlen ⊢
  have HN := Lib.hid hq
  clear hq
  have hn : n ≤ 1000 := by omega
  have hcap := r1.rd.le
  go_wp2_with fail
  refine (awake_any _).mono ?_
  rintro e w2 ⟨rfl, hb2⟩
  have r2 := r1.below hb2
  have B2 := below_step hb1 hb2
  clear r1 hb1 hb2
  go_wp2_with fail
  refine (refRight_any a n c L _ r2).mono ?_
  cases hr : rightB L
  · rintro e w3 ⟨rfl, hb3⟩
    have r3 := r2.below hb3
    have B3 := below_step B2 hb3
    clear r2 B2 hb3
    go_wp2_with fail
    refine (awake_any _).mono ?_
    rintro e w4 ⟨rfl, hb4⟩
    have r4 := r3.below hb4
    have B4 := below_step B3 hb4
    clear r3 B3 hb4
    go_wp2_with fail
    refine (right_any a n c L _ r4).mono ?_
    rw [hr]
    rintro e w5 ⟨rfl, hb5⟩
    go_wp2
    go_ret
    exact ⟨rfl, below_step B4 hb5⟩
  · rintro e w3 ⟨rfl, hb3⟩
    have r3 := r2.below hb3
    have B3 := below_step B2 hb3
    clear r2 B2 hb3
    have hw1 : wrap64 ((n : Int) + 1) = (n : Int) + 1 := by unfold RowKit.wrap64; omega
    have hw2 : IntKind.i64.wrap ((n : Int) + 1) = (n : Int) + 1 := by rw [IntKind.wrap_i64]; omega
    have n1 : (1 : Int) ≤ (n : Int) + 1 := by omega
    have n9 : (n : Int) + 1 ≤ 9223372036854775807 := by omega
    have hmb := modZ_bd z n1
    obtain ⟨k, hk⟩ := Int.eq_ofNat_of_zero_le hmb.1
    have HK := Lib.hid hk
    rw [hk] at hmb
    have hkn : k ≤ n := by omega
    clear hk hmb
    go_wp2_with fail
    refine (mod_any z ((n : Int) + 1) n1 n9 _).mono ?_
    rw [HK.out]
    rintro e w' ⟨rfl, rfl⟩
    clear hw1 hw2 n1 n9
    have hkc : k ≤ c := by omega
    have r3k := r3.take hkn
    have hfull := allC_full hr
    rw [HN.out] at hfull
    have HF := Lib.hid hfull
    have htk := Lib.hid (allC_take hr (show k ≤ L.length by rw [HN.out]; exact hkn))
    have hft := Lib.hid (firstR_take hr (show k ≤ L.length by rw [HN.out]; exact hkn))
    have hkl : (L.take k).length = k := by rw [List.length_take, HN.out]; omega
    have hfitk := Lib.hid (allC_fits (L.take k) (by rw [hkl]; omega))
    have hlk : Hid ((allC (L.take k)).length = k) := by unfold Hid; rw [htk.out, List.length_take, HF.out]; omega
    clear hfull hkl
    have ik0 : (0 : Int) ≤ (k : Int) := by omega
    have ikn : (k : Int) ≤ (n : Int) := by omega
    have ikc : (k : Int) ≤ (c : Int) := by omega
    go_upto_region 5 with fail
    go_region_held3 (fun w' => Below w3.heap.size w3 w' ∧ (∀ b o, b < w3.heap.size → w'.cell? ⟨b, o, none⟩ = w3.cell? ⟨b, o, none⟩)) (first | exact hs_refl ((Below.refl _ _).drew) | assumption | exact hs_step (by assumption) (by assumption))
      (first
        | (go_at_call 18; (with_reducible refine (clocks_any a n c L _ (r3.held (by assumption)) hn).mono ?_); rintro e w' ⟨v7, rfl, hown7, hb'⟩; obtain ⟨a7, c7, rfl⟩ := hown7.slice; have d7 := hown7.rd hfit.out; clear hown7)
        | (go_at_call 18; (with_reducible refine (clocks_any a k k (L.take k) _ (r3k.held (by assumption)) (by omega)).mono ?_); rintro e w' ⟨v8, rfl, hown8, hb'⟩; obtain ⟨a8, c8, rfl⟩ := hown8.slice; have d8 := hown8.rd hfitk.out; clear hown8; replace d7 := d7.below hb'))
    rw [HF.out, hlk.out]
    rw [HF.out] at d7
    rw [hlk.out] at d8
    rename_i w4 _ _
    have hS : Below w3.heap.size w3 _ := (‹Below w3.heap.size w3 _ ∧ _›).1
    have r6 := r3.below hS
    have r6k := r3k.below hS
    have B6 := B3.trans (hS.mono B3.size)
    have d7k := d7.take hkn
    rw [← htk.out] at d7k
    have hc7 := d7.le
    have ikc7 : (k : Int) ≤ (c7 : Int) := by omega
    clear hS d7 r3 r3k B3
    go_wp2_with fail
    refine (clocksEq_any a7 a8 _ c7 _ c8 _ _ _ d7k d8).mono ?_
    rw [eqC_same]
    rintro e w7 ⟨rfl, hb7⟩
    have r7 := r6.below hb7
    have r7k := r6k.below hb7
    have B7 := below_step B6 hb7
    clear hb7 r6 r6k B6 d7k d8
    go_wp2_with fail
    refine (first_any a n c L _ r7 hn).mono ?_
    rcases firstR_spec L with ⟨i, j, e1, g1, g2, g3, _, _⟩ | ⟨e1, _⟩
    · have hbr := before_race g1 g2 g3
      rw [HF.out] at g1
      have hft2 := hft.out
      rw [e1] at hft2 ⊢
      have FT := Lib.hid hft2
      have HCF := Lib.hid hbr.1
      have HBF := Lib.hid hbr.2
      clear hbr g3 e1 hft2
      simp only [resF]
      rintro e w8 ⟨rfl, hb8⟩
      have r8 := r7.below hb8
      have r8k := r7k.below hb8
      have B8 := below_step B7 hb8
      clear hb8 r7 r7k B7
      obtain ⟨bo, oo, rfl, hlt, hci⟩ := r8.cells (show i < n by omega)
      obtain ⟨b', o', e', _, hcj⟩ := r8.cells (show j < n by omega)
      simp only [Option.some.injEq, Addr.mk.injEq, and_true] at e'
      obtain ⟨rfl, rfl⟩ := e'
      have HCI := Lib.hid hci
      have HCJ := Lib.hid hcj
      clear hci hcj
      have kin : (i : Int) < n := by omega
      have kjn : (j : Int) < n := by omega
      have d1 : decide ((i : Int) < 0) = false := by simp
      have d2 : decide ((j : Int) ≤ (i : Int)) = false := by simp; omega
      have d3 : decide ((n : Int) ≤ (j : Int)) = false := by simp; omega
      have d4 : decide (j ≤ i) = false := by simp; omega
      have d5 : decide (n ≤ j) = false := by simp; omega
      have d6 : (j ≤ i) = False := by simp; omega
      have d7 : (n ≤ j) = False := by simp; omega
      by_cases hjk : j < k
      · have FT2 : Hid (firstR (L.take k) = some (i, j)) := by unfold Hid; rw [FT.out]; simp [hjk]
        have ijk : (j : Int) < (k : Int) := by omega
        go_wp2_with fail
        refine (first_any _ k k (L.take k) _ r8k (by omega)).mono ?_
        rw [FT2.out]
        simp only [resF]
        rintro e w9 ⟨rfl, hb9⟩
        have r9 := r8.below hb9
        have B9 := below_step B8 hb9
        obtain ⟨i0, i1, i2, i3, i4⟩ := HCI.out w9 hb9
        obtain ⟨j0, j1, j2, j3, j4⟩ := HCJ.out w9 hb9
        have hlt9 : bo < w9.heap.size := Nat.lt_of_lt_of_le hlt hb9.size
        clear hb9 r8 r8k B8
        go_wp2_with fail
        go_region_held3 (fun w' => Below w9.heap.size w9 w' ∧ (∀ b o, b < w9.heap.size → w'.cell? ⟨b, o, none⟩ = w9.cell? ⟨b, o, none⟩)) (first | exact hs_refl ((Below.refl _ _).drew) | assumption | exact hs_step (by assumption) (by assumption))
          (first
            | (go_at_call 22; (with_reducible refine (conflict_any (nthE L i) (nthE L j) _).mono ?_); rw [HCF.out]; rintro e w' ⟨rfl, hb'⟩)
            | (go_at_call 24; (with_reducible refine (before_any _ n c L (i : Int) (j : Int) _ (r9.held (by assumption)) hn).mono ?_); rw [HBF.out]; rintro e w' ⟨rfl, hb'⟩))
        go_wp2
        go_ret
        exact ⟨rfl, B9.trans ((‹Below w9.heap.size w9 _ ∧ _›).1.mono B9.size)⟩
      · have FT2 : Hid (firstR (L.take k) = none) := by unfold Hid; rw [FT.out]; simp [hjk]
        have ijk : ¬ (j : Int) < (k : Int) := by omega
        go_wp2_with fail
        refine (first_any _ k k (L.take k) _ r8k (by omega)).mono ?_
        rw [FT2.out]
        simp only [resF]
        rintro e w9 ⟨rfl, hb9⟩
        have r9 := r8.below hb9
        have B9 := below_step B8 hb9
        obtain ⟨i0, i1, i2, i3, i4⟩ := HCI.out w9 hb9
        obtain ⟨j0, j1, j2, j3, j4⟩ := HCJ.out w9 hb9
        have hlt9 : bo < w9.heap.size := Nat.lt_of_lt_of_le hlt hb9.size
        clear hb9 r8 r8k B8
        go_wp2_with fail
        go_region_held3 (fun w' => Below w9.heap.size w9 w' ∧ (∀ b o, b < w9.heap.size → w'.cell? ⟨b, o, none⟩ = w9.cell? ⟨b, o, none⟩)) (first | exact hs_refl ((Below.refl _ _).drew) | assumption | exact hs_step (by assumption) (by assumption))
          (first
            | (go_at_call 22; (with_reducible refine (conflict_any (nthE L i) (nthE L j) _).mono ?_); rw [HCF.out]; rintro e w' ⟨rfl, hb'⟩)
            | (go_at_call 24; (with_reducible refine (before_any _ n c L (i : Int) (j : Int) _ (r9.held (by assumption)) hn).mono ?_); rw [HBF.out]; rintro e w' ⟨rfl, hb'⟩))
        go_wp2
        go_ret
        exact ⟨rfl, B9.trans ((‹Below w9.heap.size w9 _ ∧ _›).1.mono B9.size)⟩
    · have hft2 := hft.out
      rw [e1] at hft2 ⊢
      have FT := Lib.hid hft2
      clear e1 hft2
      simp only [resF]
      rintro e w8 ⟨rfl, hb8⟩
      have r8 := r7.below hb8
      have r8k := r7k.below hb8
      have B8 := below_step B7 hb8
      clear hb8 r7 r7k B7
      go_wp2_with fail
      refine (first_any _ k k (L.take k) _ r8k (by omega)).mono ?_
      rw [FT.out]
      simp only [resF]
      rintro e w9 ⟨rfl, hb9⟩
      go_wp2
      go_ret
      exact ⟨rfl, below_step B8 hb9⟩

theorem RaceFront_any (w : World) (ao : Option Addr) (n cap : Nat) (L : List (List Value)) (h : IsRows w [.int .i64, .int .i64, .int .i64, .int .i64, .int .i64] ao n cap L) (a1 : Option Addr) (n1 c1 : Nat) (L1 : List (List Value)) (h1 : IsRows w [.int .i64] a1 n1 c1 L1) (i : Int) (hi : (Lit.int .i64 i).wf = true) :
    Calls Try.prog 8 #[.slice ao n cap, .slice a1 n1 c1, .int .i64 i] w fun e w' => e = .returned (.bool true) ∧ Below w.heap.size w w' := by
  obtain ⟨l, r⟩ := isRows_rdE h
  obtain ⟨ts, r1⟩ := isRows_rdI h1
  exact RaceFront_1 ao a1 n cap n1 c1 l ts i w r r1
end Go.Proofs.Ytkhhjjjpbfnlmaa
