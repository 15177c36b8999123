/- RaceBefore: which of any two events is before the other. -/
import Derived.Test.YtkhhjjjpbfnlmaaRaceQ
import Derived.Deep.RegionWith
namespace Go.Proofs.Ytkhhjjjpbfnlmaa
set_option linter.unusedVariables false
set_option linter.unusedSimpArgs false
open Go.RowKit Go.Proofs.YtkhhjjjpbfnlmaaMem Go.Proofs.YtkhhjjjpbfnlmaaFlat Go.Proofs.YtkhhjjjpbfnlmaaMapK

theorem RdE.held {W w' : World} {ao : Option Addr} {n cap : Nat} {l : List EvS} (h : RdE W ao n cap l) (hs : Below W.heap.size W w' ∧ (∀ b o, b < W.heap.size → w'.cell? ⟨b, o, none⟩ = W.cell? ⟨b, o, none⟩)) : RdE w' ao n cap l := h.below hs.1
theorem before_out {l : List EvS} {i j : Int} (h : i < 0 ∨ (allC l).length ≤ i ∨ j < 0 ∨ (allC l).length ≤ j) : beforeB l i j = false := by
  cases hb : beforeB l i j with
  | false => rfl
  | true =>
    unfold beforeB at hb
    simp only [Bool.and_eq_true, decide_eq_true_eq] at hb
    omega
theorem before_in {l : List EvS} {i j : Nat} (hi : i < (allC l).length) (hj : j < (allC l).length) : beforeB l i j = (decide (i ≠ j) && leqC (nthC (allC l) i) (nthC (allC l) j)) := by
  unfold beforeB
  have h1 : decide ((0 : Int) ≤ (i : Int)) = true := by simp
  have h2 : decide ((0 : Int) ≤ (j : Int)) = true := by simp
  have h3 : decide ((i : Int) < ((allC l).length : Int)) = true := by simp; omega
  have h4 : decide ((j : Int) < ((allC l).length : Int)) = true := by simp; omega
  have h5 : decide ((i : Int) ≠ (j : Int)) = decide (i ≠ j) := by congr 1; simp only [ne_eq, eq_iff_iff]; omega
  rw [h1, h2, h3, h4, h5]; simp
theorem allC_full {l : List EvS} (h : rightB l = true) : (allC l).length = l.length := by rw [allC_length, if_pos h]
theorem allC_none {l : List EvS} (h : rightB l = false) : (allC l).length = 0 := by rw [allC_length, if_neg (by rw [h]; simp)]

set_option maxHeartbeats 2000000 in
theorem RaceBefore_1 (ao at' : Option Addr) (n0 cap m capt : Nat) (l : List EvS) (ts : List Int) (i j : Int) (w : World) (h : RdE w ao n0 cap l) (ht : RdI w at' m capt ts) :
    Calls Try.prog 6 #[.slice ao n0 cap, .slice at' m capt, .int .i64 i, .int .i64 j] w fun e w' => e = .returned (.bool true) ∧ Below w.heap.size w w' := by
  have hlen := longE_length l ts
  have hok := Lib.hid (longE_ok h.ok ts)
  have hfit := Lib.hid (allC_fits (longE l ts) (by omega))
  go_enter Try.func6, Try.ntmps6
  go_wp2_with fail
  refine (long_any ao at' n0 cap m capt l ts _ h ht).mono ?_
  rintro e w1 ⟨v, rfl, hown, hb1⟩
  obtain ⟨a, c, rfl⟩ := owns_slice hown
  have r1 := owns_rdE hown hok.out
  generalize longE l ts = L at *
  clear hown h ht
  obtain ⟨n, hq⟩ : ∃ n, L.length = n := ⟨_, rfl⟩
  rw [hq] at r1 hlen ⊢
  have HN := Lib.hid hq
  clear hq
  have hn : n ≤ 1000 := by omega
  go_wp2_with fail
  refine (refRight_any a n c L _ r1).mono ?_
  cases hr : rightB L
  · rintro e w2 ⟨rfl, hb2⟩
    have r2 := r1.below hb2
    have B2 := below_step hb1 hb2
    have q1 : Hid (beforeB L i j = false) := before_out (by rw [allC_none hr]; omega)
    have q2 : Hid (beforeB L 0 1 = false) := before_out (by rw [allC_none hr]; omega)
    clear r1 hb1 hb2
    go_wp2_with fail
    refine (awake_any _).mono ?_
    rintro e w3 ⟨rfl, hb3⟩
    have r3 := r2.below hb3
    have B3 := below_step B2 hb3
    clear r2 B2 hb3
    go_wp2_with fail
    refine (before_any a n c L i j _ r3 hn).mono ?_
    rw [q1.out]
    rintro e w4 ⟨rfl, hb4⟩
    have r4 := r3.below hb4
    have B4 := below_step B3 hb4
    clear r3 B3 hb4
    go_wp2_with fail
    refine (before_any a n c L 0 1 _ r4 hn).mono ?_
    rw [q2.out]
    rintro e w5 ⟨rfl, hb5⟩
    go_wp2
    go_ret
    exact ⟨rfl, below_step B4 hb5⟩
  · rintro e w2 ⟨rfl, hb2⟩
    have r2 := r1.below hb2
    have B2 := below_step hb1 hb2
    have hm := allC_full hr
    rw [HN.out] at hm
    have HM := Lib.hid hm
    have h64 := Lib.hid (allC_64 L)
    clear r1 hb1 hb2 hm
    go_wp2_with fail
    refine (refClocks_any a n c L _ r2 hn).mono ?_
    rintro e w3 ⟨v, rfl, hown, hb3⟩
    obtain ⟨ac, cc, rfl⟩ := hown.slice
    have d3 := hown.rd hfit.out
    rw [HM.out] at d3 ⊢
    have r3 := r2.below hb3
    have B3 := below_step B2 hb3
    clear r2 B2 hb3 hown
    go_wp2_with fail
    go_loopw [11, 12] (fun v11 v12 wr => ∃ k : Nat, k ≤ n ∧ v11 = .int .i64 k ∧ Below w3.heap.size w3 wr) (fun v11 _ _ => n - (intOf v11).toNat)
    case atStart => exact ⟨0, Nat.zero_le _, rfl, Below.refl _ _⟩
    case round =>
      obtain ⟨k, hk, rfl, hbr⟩ := hrel
      by_cases hl : k < n
      · have kn : (k : Int) < n := by omega
        have n1 : (1 : Int) ≤ (n : Int) := by omega
        have n9 : (n : Int) ≤ 9223372036854775807 := by omega
        have hmb := modZ_bd j n1
        obtain ⟨b, hb⟩ := Int.eq_ofNat_of_zero_le hmb.1
        have HB := Lib.hid hb
        rw [hb] at hmb
        obtain ⟨b0, bn⟩ := hmb
        clear hb
        have bn' : b < n := by omega
        go_wp2_with fail
        refine (mod_any j n n1 n9 _).mono ?_
        rw [HB.out]
        rintro e w' ⟨rfl, rfl⟩
        have RR := r3.below hbr
        have dr := d3.below hbr
        obtain ⟨g, off, a1, c1, rfl, hlt, hc1, hr1⟩ := dr.at_ k hl
        obtain ⟨g', off', a2, c2, e', _, hc2, hr2⟩ := dr.at_ b bn'
        simp only [Option.some.injEq, Addr.mk.injEq, and_true] at e'
        obtain ⟨rfl, rfl⟩ := e'
        have hb1 := before_in (l := L) (i := k) (j := b) (by rw [HM.out]; exact hl) (by rw [HM.out]; exact bn')
        have hb2 := before_in (l := L) (i := b) (j := k) (by rw [HM.out]; exact bn') (by rw [HM.out]; exact hl)
        have hgo : Below w.heap.size w wr := B3.trans (hbr.mono B3.size)
        by_cases hkb : k = b
        · subst hkb
          have HB1 : Hid (beforeB L k k = false) := by unfold Hid; rw [hb1]; simp
          have e1 : ((k : Int) != (k : Int)) = false := by simp
          clear hb1 hb2
          go_wp2_with fail
          refine wp_region_held_drew (S := fun w' => Below wr.heap.size wr w' ∧ (∀ b o, b < wr.heap.size → w'.cell? ⟨b, o, none⟩ = wr.cell? ⟨b, o, none⟩)) (by kernel_rfl) ?_ (fun hHeld => ?_)
          · exact hs_refl (Below.refl _ _).drew
          refine wpAnyH_take (i := 0) (v := ?_) rfl (by kernel_rfl) (by kernel_rfl) (by kernel_rfl) (fun _ _ _ h => h) (Or.inl ⟨by rfl, ?_⟩) (by assumption) ?_
          rotate_left
          · intro w hSw
            (try dsimp only at hSw)
            first | (go_simp; done) | (go_simp; with_reducible rfl)
          try simp only [List.getElem_toArray, List.getElem_cons_succ, List.getElem_cons_zero, Act.put, List.setIfInBounds_toArray, List.set_cons_zero, List.set_cons_succ]
          refine wpAnyH_take (i := 1) (v := ?_) rfl (by kernel_rfl) (by kernel_rfl) (by kernel_rfl) (fun _ _ _ h => h) (Or.inl ⟨by rfl, ?_⟩) (by assumption) ?_
          rotate_left
          · intro w hSw
            (try dsimp only at hSw)
            first | (go_simp; done) | (go_simp; with_reducible rfl)
          try simp only [List.getElem_toArray, List.getElem_cons_succ, List.getElem_cons_zero, Act.put, List.setIfInBounds_toArray, List.set_cons_zero, List.set_cons_succ]
          refine wpAnyH_take (i := 2) (v := ?_) rfl (by kernel_rfl) (by kernel_rfl) (by kernel_rfl) (fun _ _ _ h => h) (Or.inl ⟨by rfl, ?_⟩) (by assumption) ?_
          rotate_left
          · intro w hSw
            (try dsimp only at hSw)
            first | (go_simp; done) | (go_simp; with_reducible rfl)
          try simp only [List.getElem_toArray, List.getElem_cons_succ, List.getElem_cons_zero, Act.put, List.setIfInBounds_toArray, List.set_cons_zero, List.set_cons_succ]
          refine wpAnyH_take (i := 4) (v := ?_) rfl (by kernel_rfl) (by kernel_rfl) (by kernel_rfl) (fun _ _ _ h => h) (Or.inl ⟨by rfl, ?_⟩) (by assumption) ?_
          rotate_left
          · intro w hSw
            (try dsimp only at hSw)
            first | (go_simp; done) | (go_simp; with_reducible rfl)
          try simp only [List.getElem_toArray, List.getElem_cons_succ, List.getElem_cons_zero, Act.put, List.setIfInBounds_toArray, List.set_cons_zero, List.set_cons_succ]
          refine wpAnyH_take (i := 5) (v := ?_) rfl (by kernel_rfl) (by kernel_rfl) (by kernel_rfl) (fun _ _ _ h => h) (Or.inl ⟨by rfl, ?_⟩) (by assumption) ?_
          rotate_left
          · intro w hSw
            (try dsimp only at hSw)
            first | (go_simp; done) | (go_simp; with_reducible rfl)
          try simp only [List.getElem_toArray, List.getElem_cons_succ, List.getElem_cons_zero, Act.put, List.setIfInBounds_toArray, List.set_cons_zero, List.set_cons_succ]
          refine wpAnyH_take (i := 6) (v := ?_) rfl (by kernel_rfl) (by kernel_rfl) (by kernel_rfl) (fun _ _ _ h => h) (Or.inl ⟨by rfl, ?_⟩) (by assumption) ?_
          rotate_left
          · intro w hSw
            (try dsimp only at hSw)
            first | (go_simp; done) | (go_simp; with_reducible rfl)
          try simp only [List.getElem_toArray, List.getElem_cons_succ, List.getElem_cons_zero, Act.put, List.setIfInBounds_toArray, List.set_cons_zero, List.set_cons_succ]
          refine wpAnyH_ready (rs := [3]) (by kernel_rfl) (by simp) ?_
          refine AllReadyH.cons rfl (fun K hK => ?_) AllReadyH.nil
          go_simp
          (go_at_call 24; refine (before_any _ n c L _ _ _ (RR.held hHeld) hn).mono ?_; rw [HB1.out]; rintro e w' ⟨rfl, hb'⟩; go_wp2_with fail)
          refine hK.out _ _ ?_ (fun hHeld => ?_)
          · exact hs_step hHeld hb'
          clear hK K
          try simp only [List.getElem_toArray, List.getElem_cons_succ, List.getElem_cons_zero, Act.put, List.setIfInBounds_toArray, List.set_cons_zero, List.set_cons_succ]
          refine wpAnyH_take (i := 7) (v := ?_) rfl (by kernel_rfl) (by kernel_rfl) (by kernel_rfl) (fun _ _ _ h => h) (Or.inl ⟨by rfl, ?_⟩) (by assumption) ?_
          rotate_left
          · intro w hSw
            (try dsimp only at hSw)
            first | (go_simp; done) | (go_simp; with_reducible rfl)
          try simp only [List.getElem_toArray, List.getElem_cons_succ, List.getElem_cons_zero, Act.put, List.setIfInBounds_toArray, List.set_cons_zero, List.set_cons_succ]
          refine wpAnyH_take (i := 8) (v := undef) rfl (by kernel_rfl) (by kernel_rfl) (by kernel_rfl) (fun _ _ _ h => h) (Or.inr ⟨by rfl, rfl⟩) (by assumption) ?_
          try simp only [List.getElem_toArray, List.getElem_cons_succ, List.getElem_cons_zero, Act.put, List.setIfInBounds_toArray, List.set_cons_zero, List.set_cons_succ]
          refine wpAnyH_take (i := 9) (v := undef) rfl (by kernel_rfl) (by kernel_rfl) (by kernel_rfl) (fun _ _ _ h => h) (Or.inr ⟨by rfl, rfl⟩) (by assumption) ?_
          try simp only [List.getElem_toArray, List.getElem_cons_succ, List.getElem_cons_zero, Act.put, List.setIfInBounds_toArray, List.set_cons_zero, List.set_cons_succ]
          refine wpAnyH_take (i := 10) (v := undef) rfl (by kernel_rfl) (by kernel_rfl) (by kernel_rfl) (fun _ _ _ h => h) (Or.inr ⟨by rfl, rfl⟩) (by assumption) ?_
          try simp only [List.getElem_toArray, List.getElem_cons_succ, List.getElem_cons_zero, Act.put, List.setIfInBounds_toArray, List.set_cons_zero, List.set_cons_succ]
          refine wpAnyH_take (i := 11) (v := undef) rfl (by kernel_rfl) (by kernel_rfl) (by kernel_rfl) (fun _ _ _ h => h) (Or.inr ⟨by rfl, rfl⟩) (by assumption) ?_
          try simp only [List.getElem_toArray, List.getElem_cons_succ, List.getElem_cons_zero, Act.put, List.setIfInBounds_toArray, List.set_cons_zero, List.set_cons_succ]
          refine wpAnyH_take (i := 12) (v := undef) rfl (by kernel_rfl) (by kernel_rfl) (by kernel_rfl) (fun _ _ _ h => h) (Or.inr ⟨by rfl, rfl⟩) (by assumption) ?_
          try simp only [List.getElem_toArray, List.getElem_cons_succ, List.getElem_cons_zero, Act.put, List.setIfInBounds_toArray, List.set_cons_zero, List.set_cons_succ]
          refine wpAnyH_take (i := 13) (v := undef) rfl (by kernel_rfl) (by kernel_rfl) (by kernel_rfl) (fun _ _ _ h => h) (Or.inr ⟨by rfl, rfl⟩) (by assumption) ?_
          try simp only [List.getElem_toArray, List.getElem_cons_succ, List.getElem_cons_zero, Act.put, List.setIfInBounds_toArray, List.set_cons_zero, List.set_cons_succ]
          refine wpAnyH_take (i := 14) (v := undef) rfl (by kernel_rfl) (by kernel_rfl) (by kernel_rfl) (fun _ _ _ h => h) (Or.inr ⟨by rfl, rfl⟩) (by assumption) ?_
          try simp only [List.getElem_toArray, List.getElem_cons_succ, List.getElem_cons_zero, Act.put, List.setIfInBounds_toArray, List.set_cons_zero, List.set_cons_succ]
          refine wpAnyH_take (i := 15) (v := undef) rfl (by kernel_rfl) (by kernel_rfl) (by kernel_rfl) (fun _ _ _ h => h) (Or.inr ⟨by rfl, rfl⟩) (by assumption) ?_
          try simp only [List.getElem_toArray, List.getElem_cons_succ, List.getElem_cons_zero, Act.put, List.setIfInBounds_toArray, List.set_cons_zero, List.set_cons_succ]
          refine wpAnyH_take (i := 16) (v := undef) rfl (by kernel_rfl) (by kernel_rfl) (by kernel_rfl) (fun _ _ _ h => h) (Or.inr ⟨by rfl, rfl⟩) (by assumption) ?_
          try simp only [List.getElem_toArray, List.getElem_cons_succ, List.getElem_cons_zero, Act.put, List.setIfInBounds_toArray, List.set_cons_zero, List.set_cons_succ]
          refine wpAnyH_take (i := 17) (v := ?_) rfl (by kernel_rfl) (by kernel_rfl) (by kernel_rfl) (fun _ _ _ h => h) (Or.inl ⟨by rfl, ?_⟩) (by assumption) ?_
          rotate_left
          · intro w hSw
            (try dsimp only at hSw)
            first | (go_simp; done) | (go_simp; with_reducible rfl)
          try simp only [List.getElem_toArray, List.getElem_cons_succ, List.getElem_cons_zero, Act.put, List.setIfInBounds_toArray, List.set_cons_zero, List.set_cons_succ]
          refine wpAnyH_take (i := 18) (v := ?_) rfl (by kernel_rfl) (by kernel_rfl) (by kernel_rfl) (fun _ _ _ h => h) (Or.inl ⟨by rfl, ?_⟩) (by assumption) ?_
          rotate_left
          · intro w hSw
            (try dsimp only at hSw)
            first | (go_simp; done) | (go_simp; with_reducible rfl)
          try simp only [List.getElem_toArray, List.getElem_cons_succ, List.getElem_cons_zero, Act.put, List.setIfInBounds_toArray, List.set_cons_zero, List.set_cons_succ]
          refine wpAnyH_take (i := 19) (v := ?_) rfl (by kernel_rfl) (by kernel_rfl) (by kernel_rfl) (fun _ _ _ h => h) (Or.inl ⟨by rfl, ?_⟩) (by assumption) ?_
          rotate_left
          · intro w hSw
            (try dsimp only at hSw)
            first | (go_simp; done) | (go_simp; with_reducible rfl)
          try simp only [List.getElem_toArray, List.getElem_cons_succ, List.getElem_cons_zero, Act.put, List.setIfInBounds_toArray, List.set_cons_zero, List.set_cons_succ]
          refine wpAnyH_take (i := 20) (v := ?_) rfl (by kernel_rfl) (by kernel_rfl) (by kernel_rfl) (fun _ _ _ h => h) (Or.inl ⟨by rfl, ?_⟩) (by assumption) ?_
          rotate_left
          · intro w hSw
            (try dsimp only at hSw)
            first | (go_simp; done) | (go_simp; with_reducible rfl)
          try simp only [List.getElem_toArray, List.getElem_cons_succ, List.getElem_cons_zero, Act.put, List.setIfInBounds_toArray, List.set_cons_zero, List.set_cons_succ]
          refine wpAnyH_take (i := 21) (v := ?_) rfl (by kernel_rfl) (by kernel_rfl) (by kernel_rfl) (fun _ _ _ h => h) (Or.inl ⟨by rfl, ?_⟩) (by assumption) ?_
          rotate_left
          · intro w hSw
            (try dsimp only at hSw)
            first | (go_simp; done) | (go_simp; with_reducible rfl)
          try simp only [List.getElem_toArray, List.getElem_cons_succ, List.getElem_cons_zero, Act.put, List.setIfInBounds_toArray, List.set_cons_zero, List.set_cons_succ]
          refine wpAnyH_take (i := 22) (v := ?_) rfl (by kernel_rfl) (by kernel_rfl) (by kernel_rfl) (fun _ _ _ h => h) (Or.inl ⟨by rfl, ?_⟩) (by assumption) ?_
          rotate_left
          · intro w hSw
            (try dsimp only at hSw)
            first | (go_simp; done) | (go_simp; with_reducible rfl)
          try simp only [List.getElem_toArray, List.getElem_cons_succ, List.getElem_cons_zero, Act.put, List.setIfInBounds_toArray, List.set_cons_zero, List.set_cons_succ]
          refine wpAnyH_take (i := 24) (v := ?_) rfl (by kernel_rfl) (by kernel_rfl) (by kernel_rfl) (fun _ _ _ h => h) (Or.inl ⟨by rfl, ?_⟩) (by assumption) ?_
          rotate_left
          · intro w hSw
            (try dsimp only at hSw)
            first | (go_simp; done) | (go_simp; with_reducible rfl)
          try simp only [List.getElem_toArray, List.getElem_cons_succ, List.getElem_cons_zero, Act.put, List.setIfInBounds_toArray, List.set_cons_zero, List.set_cons_succ]
          refine wpAnyH_take (i := 25) (v := ?_) rfl (by kernel_rfl) (by kernel_rfl) (by kernel_rfl) (fun _ _ _ h => h) (Or.inl ⟨by rfl, ?_⟩) (by assumption) ?_
          rotate_left
          · intro w hSw
            (try dsimp only at hSw)
            first | (go_simp; done) | (go_simp; with_reducible rfl)
          try simp only [List.getElem_toArray, List.getElem_cons_succ, List.getElem_cons_zero, Act.put, List.setIfInBounds_toArray, List.set_cons_zero, List.set_cons_succ]
          refine wpAnyH_take (i := 26) (v := ?_) rfl (by kernel_rfl) (by kernel_rfl) (by kernel_rfl) (fun _ _ _ h => h) (Or.inl ⟨by rfl, ?_⟩) (by assumption) ?_
          rotate_left
          · intro w hSw
            (try dsimp only at hSw)
            first | (go_simp; done) | (go_simp; with_reducible rfl)
          try simp only [List.getElem_toArray, List.getElem_cons_succ, List.getElem_cons_zero, Act.put, List.setIfInBounds_toArray, List.set_cons_zero, List.set_cons_succ]
          refine wpAnyH_ready (rs := [23]) (by kernel_rfl) (by simp) ?_
          refine AllReadyH.cons rfl (fun K hK => ?_) AllReadyH.nil
          go_simp
          (go_at_call 24; refine (before_any _ n c L _ _ _ (RR.held hHeld) hn).mono ?_; rw [HB1.out]; rintro e w' ⟨rfl, hb'⟩; go_wp2_with fail)
          refine hK.out _ _ ?_ (fun hHeld => ?_)
          · exact hs_step hHeld hb'
          clear hK K
          try simp only [List.getElem_toArray, List.getElem_cons_succ, List.getElem_cons_zero, Act.put, List.setIfInBounds_toArray, List.set_cons_zero, List.set_cons_succ]
          refine wpAnyH_take (i := 27) (v := ?_) rfl (by kernel_rfl) (by kernel_rfl) (by kernel_rfl) (fun _ _ _ h => h) (Or.inl ⟨by rfl, ?_⟩) (by assumption) ?_
          rotate_left
          · intro w hSw
            (try dsimp only at hSw)
            first | (go_simp; done) | (go_simp; with_reducible rfl)
          try simp only [List.getElem_toArray, List.getElem_cons_succ, List.getElem_cons_zero, Act.put, List.setIfInBounds_toArray, List.set_cons_zero, List.set_cons_succ]
          refine wpAnyH_take (i := 28) (v := undef) rfl (by kernel_rfl) (by kernel_rfl) (by kernel_rfl) (fun _ _ _ h => h) (Or.inr ⟨by rfl, rfl⟩) (by assumption) ?_
          try simp only [List.getElem_toArray, List.getElem_cons_succ, List.getElem_cons_zero, Act.put, List.setIfInBounds_toArray, List.set_cons_zero, List.set_cons_succ]
          refine wpAnyH_take (i := 29) (v := undef) rfl (by kernel_rfl) (by kernel_rfl) (by kernel_rfl) (fun _ _ _ h => h) (Or.inr ⟨by rfl, rfl⟩) (by assumption) ?_
          try simp only [List.getElem_toArray, List.getElem_cons_succ, List.getElem_cons_zero, Act.put, List.setIfInBounds_toArray, List.set_cons_zero, List.set_cons_succ]
          refine wpAnyH_take (i := 30) (v := undef) rfl (by kernel_rfl) (by kernel_rfl) (by kernel_rfl) (fun _ _ _ h => h) (Or.inr ⟨by rfl, rfl⟩) (by assumption) ?_
          try simp only [List.getElem_toArray, List.getElem_cons_succ, List.getElem_cons_zero, Act.put, List.setIfInBounds_toArray, List.set_cons_zero, List.set_cons_succ]
          refine wpAnyH_take (i := 31) (v := undef) rfl (by kernel_rfl) (by kernel_rfl) (by kernel_rfl) (fun _ _ _ h => h) (Or.inr ⟨by rfl, rfl⟩) (by assumption) ?_
          try simp only [List.getElem_toArray, List.getElem_cons_succ, List.getElem_cons_zero, Act.put, List.setIfInBounds_toArray, List.set_cons_zero, List.set_cons_succ]
          refine wpAnyH_take (i := 32) (v := undef) rfl (by kernel_rfl) (by kernel_rfl) (by kernel_rfl) (fun _ _ _ h => h) (Or.inr ⟨by rfl, rfl⟩) (by assumption) ?_
          try simp only [List.getElem_toArray, List.getElem_cons_succ, List.getElem_cons_zero, Act.put, List.setIfInBounds_toArray, List.set_cons_zero, List.set_cons_succ]
          refine wpAnyH_take (i := 33) (v := undef) rfl (by kernel_rfl) (by kernel_rfl) (by kernel_rfl) (fun _ _ _ h => h) (Or.inr ⟨by rfl, rfl⟩) (by assumption) ?_
          try simp only [List.getElem_toArray, List.getElem_cons_succ, List.getElem_cons_zero, Act.put, List.setIfInBounds_toArray, List.set_cons_zero, List.set_cons_succ]
          refine wpAnyH_take (i := 34) (v := undef) rfl (by kernel_rfl) (by kernel_rfl) (by kernel_rfl) (fun _ _ _ h => h) (Or.inr ⟨by rfl, rfl⟩) (by assumption) ?_
          try simp only [List.getElem_toArray, List.getElem_cons_succ, List.getElem_cons_zero, Act.put, List.setIfInBounds_toArray, List.set_cons_zero, List.set_cons_succ]
          refine wpAnyH_take (i := 35) (v := undef) rfl (by kernel_rfl) (by kernel_rfl) (by kernel_rfl) (fun _ _ _ h => h) (Or.inr ⟨by rfl, rfl⟩) (by assumption) ?_
          try simp only [List.getElem_toArray, List.getElem_cons_succ, List.getElem_cons_zero, Act.put, List.setIfInBounds_toArray, List.set_cons_zero, List.set_cons_succ]
          refine wpAnyH_take (i := 36) (v := undef) rfl (by kernel_rfl) (by kernel_rfl) (by kernel_rfl) (fun _ _ _ h => h) (Or.inr ⟨by rfl, rfl⟩) (by assumption) ?_
          try simp only [List.getElem_toArray, List.getElem_cons_succ, List.getElem_cons_zero, Act.put, List.setIfInBounds_toArray, List.set_cons_zero, List.set_cons_succ]
          refine wpAnyH_take (i := 37) (v := ?_) rfl (by kernel_rfl) (by kernel_rfl) (by kernel_rfl) (fun _ _ _ h => h) (Or.inl ⟨by rfl, ?_⟩) (by assumption) ?_
          rotate_left
          · intro w hSw
            (try dsimp only at hSw)
            first | (go_simp; done) | (go_simp; with_reducible rfl)
          try simp only [List.getElem_toArray, List.getElem_cons_succ, List.getElem_cons_zero, Act.put, List.setIfInBounds_toArray, List.set_cons_zero, List.set_cons_succ]
          refine wpAnyH_take (i := 38) (v := ?_) rfl (by kernel_rfl) (by kernel_rfl) (by kernel_rfl) (fun _ _ _ h => h) (Or.inl ⟨by rfl, ?_⟩) (by assumption) ?_
          rotate_left
          · intro w hSw
            (try dsimp only at hSw)
            first | (go_simp; done) | (go_simp; with_reducible rfl)
          try simp only [List.getElem_toArray, List.getElem_cons_succ, List.getElem_cons_zero, Act.put, List.setIfInBounds_toArray, List.set_cons_zero, List.set_cons_succ]
          refine wpAnyH_take (i := 39) (v := ?_) rfl (by kernel_rfl) (by kernel_rfl) (by kernel_rfl) (fun _ _ _ h => h) (Or.inl ⟨by rfl, ?_⟩) (by assumption) ?_
          rotate_left
          · intro w hSw
            (try dsimp only at hSw)
            first | (go_simp; done) | (go_simp; with_reducible rfl)
          try simp only [List.getElem_toArray, List.getElem_cons_succ, List.getElem_cons_zero, Act.put, List.setIfInBounds_toArray, List.set_cons_zero, List.set_cons_succ]
          refine wpAnyH_done (by kernel_rfl) ?_ _
          go_wp2
          go_roundw
          case rel => exact ⟨k + 1, by omega, by go_num, hbr.trans ((‹Below wr.heap.size wr _ ∧ _›).1.mono hbr.size)⟩
          case measure => simp [intOf]; omega
        · have e1 : ((k : Int) != (b : Int)) = true := by simp; omega
          have e2 : decide (k ≠ b) = true := by simpa using hkb
          have e3 : decide (b ≠ k) = true := by simp; omega
          rw [e2] at hb1
          rw [e3] at hb2
          clear e2 e3
          cases x1 : leqC (nthC (allC L) k) (nthC (allC L) b) <;> cases x2 : leqC (nthC (allC L) b) (nthC (allC L) k)
          all_goals
            rw [x1] at hb1
            rw [x2] at hb2
            have HB1 := Lib.hid hb1
            have HB2 := Lib.hid hb2
            have HL1 := Lib.hid x1
            have HL2 := Lib.hid x2
            clear hb1 hb2 x1 x2
            simp only [Bool.and_false, Bool.and_true] at HB1 HB2
            go_wp2_with fail
            go_region_held3 (fun w' => Below wr.heap.size wr w' ∧ (∀ b o, b < wr.heap.size → w'.cell? ⟨b, o, none⟩ = wr.cell? ⟨b, o, none⟩)) (first | exact hs_refl (Below.refl _ _).drew | assumption | exact hs_step (by assumption) (by assumption))
              (first
                | (go_at_call 24; (with_reducible refine (before_any _ n c L (k : Int) (b : Int) _ (RR.held (by assumption)) hn).mono ?_); rw [HB1.out]; rintro e w' ⟨rfl, hb'⟩)
                | (go_at_call 24; (with_reducible refine (before_any _ n c L (b : Int) (k : Int) _ (RR.held (by assumption)) hn).mono ?_); rw [HB2.out]; rintro e w' ⟨rfl, hb'⟩)
                | (go_at_call 25; (with_reducible refine (refLeq_any a1 a2 _ c1 _ c2 _ _ _ (hr1.held (by assumption)) (hr2.held (by assumption))).mono ?_); rw [HL1.out]; rintro e w' ⟨rfl, rfl⟩)
                | (go_at_call 25; (with_reducible refine (refLeq_any a2 a1 _ c2 _ c1 _ _ _ (hr2.held (by assumption)) (hr1.held (by assumption))).mono ?_); rw [HL2.out]; rintro e w' ⟨rfl, rfl⟩))
            go_wp2
            go_roundw
            case rel => exact ⟨k + 1, by omega, by go_num, hbr.trans ((‹Below wr.heap.size wr _ ∧ _›).1.mono hbr.size)⟩
            case measure => simp [intOf]; omega
      · obtain rfl : k = n := by omega
        have RR := r3.below hbr
        have q2 : Hid (beforeB L k 0 = false) := before_out (by rw [HM.out]; omega)
        have q3 : Hid (beforeB L (-1) 0 = false) := before_out (by omega)
        have hgo : Below w.heap.size w wr := B3.trans (hbr.mono B3.size)
        rcases (show i < 0 ∨ (¬ i < 0 ∧ (k : Int) ≤ i) ∨ (¬ i < 0 ∧ ¬ (k : Int) ≤ i ∧ j < 0) ∨ (¬ i < 0 ∧ ¬ (k : Int) ≤ i ∧ ¬ j < 0 ∧ (k : Int) ≤ j) ∨ (¬ i < 0 ∧ ¬ (k : Int) ≤ i ∧ ¬ j < 0 ∧ ¬ (k : Int) ≤ j) by omega) with t | ⟨t, t2⟩ | ⟨t, t2, t3⟩ | ⟨t, t2, t3, t4⟩ | ⟨t, t2, t3, t4⟩
        iterate 4
          · have q1 : Hid (beforeB L i j = false) := before_out (by rw [HM.out]; omega)
            go_wp2_with fail
            refine (awake_any _).mono ?_
            rintro e w3' ⟨rfl, hb3⟩
            have r4 := RR.below hb3
            have B4 := below_step hgo hb3
            go_wp2_with fail
            refine (before_any a k c L i j _ r4 hn).mono ?_
            rw [q1.out]
            rintro e w4 ⟨rfl, hb4⟩
            have r5 := r4.below hb4
            have B5 := below_step B4 hb4
            go_wp2_with fail
            refine (before_any a k c L k 0 _ r5 hn).mono ?_
            rw [q2.out]
            rintro e w5 ⟨rfl, hb5⟩
            have r6 := r5.below hb5
            have B6 := below_step B5 hb5
            go_wp2_with fail
            refine (before_any a k c L (-1) 0 _ r6 hn).mono ?_
            rw [q3.out]
            rintro e w6 ⟨rfl, hb6⟩
            go_wp2
            go_ret
            exact ⟨rfl, below_step B6 hb6⟩
        · go_wp2_with fail
          refine (awake_any _).mono ?_
          rintro e w3' ⟨rfl, hb3⟩
          have r5 := RR.below hb3
          have B5 := below_step hgo hb3
          go_wp2_with fail
          refine (before_any a k c L k 0 _ r5 hn).mono ?_
          rw [q2.out]
          rintro e w5 ⟨rfl, hb5⟩
          have r6 := r5.below hb5
          have B6 := below_step B5 hb5
          go_wp2_with fail
          refine (before_any a k c L (-1) 0 _ r6 hn).mono ?_
          rw [q3.out]
          rintro e w6 ⟨rfl, hb6⟩
          go_wp2
          go_ret
          exact ⟨rfl, below_step B6 hb6⟩

theorem RaceBefore_any (w : World) (ao : Option Addr) (n cap : Nat) (L : List (List Value)) (h : IsRows w [.int .i64, .int .i64, .int .i64, .int .i64, .int .i64] ao n cap L) (a1 : Option Addr) (n1 c1 : Nat) (L1 : List (List Value)) (h1 : IsRows w [.int .i64] a1 n1 c1 L1) (i : Int) (hi : (Lit.int .i64 i).wf = true) (j : Int) (hj : (Lit.int .i64 j).wf = true) :
    Calls Try.prog 6 #[.slice ao n cap, .slice a1 n1 c1, .int .i64 i, .int .i64 j] w fun e w' => e = .returned (.bool true) ∧ Below w.heap.size w w' := by
  obtain ⟨l, r⟩ := isRows_rdE h
  obtain ⟨ts, r1⟩ := isRows_rdI h1
  exact RaceBefore_1 ao a1 n cap n1 c1 l ts i j w r r1
end Go.Proofs.Ytkhhjjjpbfnlmaa
