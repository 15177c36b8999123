/- LinLine: where of any two calls one is ahead of the other, just their own order may fit. -/
import Derived.Test.YtdjooacjjnjfmaaGreatId
namespace Go.Proofs.YtdjooacjjnjfmaaGreat
set_option linter.unusedVariables false
set_option linter.unusedSimpArgs false
set_option maxRecDepth 20000
open Go.RowKit Go.Proofs.YtdjooacjjnjfmaaGreatMem Go.Proofs.YtdjooacjjnjfmaaGreatFlat Go.Proofs.YtdjooacjjnjfmaaGreatMapK Go.Proofs.YtdjooacjjnjfmaaGreatLin H
set_option maxHeartbeats 4000000 in
theorem linLine_in (c : Cfg) (hu : W64 c.unit) (ao : Option Addr) (n0 c0 : Nat) (cs : List CallS) (at_ : Int) (w : World) (h : RdC w ao n0 c0 cs) :
    Calls Tryz.prog 7 #[.agg #[.int .i64 c.shards, .int .i64 c.slots, .int .i64 c.workers, .int .i64 c.width, .int .u64 c.unit], .slice ao n0 c0, .int .i64 at_] w fun e w' => e = .returned (.bool true) ∧ Below w.heap.size w w' := by
  have HC := Lib.hid h
  have hsm := h.rd.small
  have hcl := h.len
  clear h
  have I := CfgIn.start w c
  have C0 := config_any c hu
  have hcR := confP_r15 c hu
  have hR := confP_right c hu
  have hu' := (confP_ok c hu).unit
  go_enter Tryz.func7, Tryz.ntmps7
  go_upto_region 1 with fail
  generalize (w.alloc (.cells #[.int .i64 c.shards, .int .i64 c.slots, .int .i64 c.workers, .int .i64 c.width, .int .u64 c.unit] 24)) = W at *
  obtain ⟨x0, x1, x2, x3, x4, xl⟩ := I.cells
  have HI := Lib.hid I
  clear I
  go_wp2_with fail
  refine (C0 _).mono ?_
  rintro e W1 ⟨rfl, hb1⟩
  replace HI : Hid (CfgIn w W1 c) := Lib.hid (HI.out.below hb1)
  clear hb1 x0 x1 x2 x3 x4 xl C0
  obtain ⟨x0, x1, x2, x3, x4, xl⟩ := HI.out.cells
  obtain ⟨f0, f1, f2, f3, f4⟩ := HI.out.frozen
  replace HI := Lib.hid (HI.out.set (confP c))
  obtain ⟨c', hcc⟩ : ∃ c', confP c = c' := ⟨_, rfl⟩
  rw [hcc] at HI hcR hR hu'
  rw [hcc]
  have HCR := Lib.hid hcR
  have HRT := Lib.hid hR
  have HU := Lib.hid hu'
  clear hcc hcR hR hu'
  go_upto_region 2 with fail
  generalize (((((W1.setCell ⟨w.heap.size, 0, none⟩ (.int .i64 c'.shards)).setCell ⟨w.heap.size, 1, none⟩ (.int .i64 c'.slots)).setCell ⟨w.heap.size, 2, none⟩ (.int .i64 c'.workers)).setCell ⟨w.heap.size, 3, none⟩ (.int .i64 c'.width)).setCell ⟨w.heap.size, 4, none⟩ (.int .u64 c'.unit)) = W2 at *
  clear x0 x1 x2 x3 x4 xl f0 f1 f2 f3 f4
  obtain ⟨x0, x1, x2, x3, x4, xl⟩ := HI.out.cells
  go_wp2_with fail
  refine (newModel_any c' _).mono ?_
  rintro e W3 ⟨x, rfl, rm, hb3⟩
  have h0 : LnI w W3 x c' (fun k => k = w.heap.size) .new [] (.slice none 0 0) := ⟨OwnDs.nil _ _, ⟨.new, _, MSim.new, rm, fun k hk => by omega, fun k hk => (by cases hk), fun k hk => (by obtain ⟨d, hd, -⟩ := hk; cases hd), fun k hk hk2 => by omega⟩, fun k hk => by have := hb3.size; omega, HI.out.bel.trans (hb3.mono HI.out.bel.size)⟩
  replace HI := Lib.hid (HI.out.below hb3)
  have HLN0 := Lib.hid h0
  clear h0 rm hb3 x0 x1 x2 x3 x4 xl
  obtain ⟨n, hnn⟩ : ∃ n, min n0 12 = n := ⟨_, rfl⟩
  have HNN := Lib.hid hnn
  have hn12 : n ≤ 12 := by omega
  have hnn0 : n ≤ n0 := by omega
  have HOK := Lib.hid (lnOk c' cs)
  have HM00 : Hid (lnAll c' cs 0 = (.new, [])) := rfl
  clear hnn
  go_wp2_with fail
  go_loopw [8, 9, 10] (fun v8 v9 _ wr => ∃ (i : Nat) (l : List DoneS), i ≤ n ∧ v9 = .int .i64 i ∧ LnI w wr x c' (fun k => k = w.heap.size) (lnAll c' cs i).1 l v8 ∧ l.map DoneS.bare = (lnAll c' cs i).2 ∧ CfgIn w wr c') (fun _ v9 _ _ => n - (intOf v9).toNat)
  case atStart => exact ⟨0, [], Nat.zero_le _, rfl, HLN0.out, rfl, HI.out⟩
  case round =>
    obtain ⟨i, l, hi, rfl, hln, hbare, hcf⟩ := hrel
    have HLN := Lib.hid hln
    have HBA := Lib.hid hbare
    have HCF := Lib.hid hcf
    have HOK1 := Lib.hid (HOK.out i)
    clear hln hbare hcf HLN0
    by_cases hl : i < n
    · have i1 : (i : Int) < (n0 : Int) := by omega
      have i2 : (i : Int) < 12 := by omega
      have hi0 : (0 : Int) ≤ (i : Int) := by omega
      have HI1 : Hid (∀ S, lnAll c' cs i = S → lnAll c' cs (i + 1) = ((S.1.doo c' (dL cs i)).1, S.2 ++ [lnD i (dL cs i) (S.1.doo c' (dL cs i)).2])) := Lib.hid fun S e => by rw [← e]; rfl
      obtain ⟨s, hs⟩ : ∃ s, lnAll c' cs i = s := ⟨_, rfl⟩
      rw [hs] at HLN HBA HOK1
      replace HI1 := Lib.hid (HI1.out s hs)
      obtain ⟨b, o, rfl, hbl, hcc⟩ := HC.out.cells (show i < n0 by omega)
      have hbel := HLN.out.bel
      obtain ⟨q0, q1, q2, q3⟩ := hcc wr (hbel.block b hbl)
      have hbl2 : b < wr.heap.size := Nat.lt_of_lt_of_le hbl hbel.size
      have E1 : Hid (dL cs i = if (callP (nthC cs i)).op = 5 then { callP (nthC cs i) with op := 4 } else callP (nthC cs i)) := rfl
      have HDOK := Lib.hid (dL_ok (HC.out.nth_ok (show i < n0 by omega)))
      obtain ⟨d0, hd0⟩ : ∃ d0, nthC cs i = d0 := ⟨_, rfl⟩
      obtain ⟨d2, hd2⟩ : ∃ d2, dL cs i = d2 := ⟨_, rfl⟩
      rw [hd0] at q0 q1 q2 q3
      rw [hd0, hd2] at E1
      rw [hd2] at HDOK HI1
      clear hs hd0 hd2 hcc hbel
      go_wp2_with fail
      refine (callP_any d0 _).mono ?_
      rintro e W5 ⟨rfl, hb5⟩
      obtain ⟨d1, hd1⟩ : ∃ d1, callP d0 = d1 := ⟨_, rfl⟩
      rw [hd1] at E1
      rw [hd1]
      have H5 := Lib.hid (HLN.out.below (K' := fun k => k = w.heap.size) hb5 fun k hk => .inl hk)
      have HCF5 := Lib.hid (HCF.out.below hb5)
      clear hb5 hd1 q0 q1 q2 q3 hbl2 HLN HCF
      have h6 : LnI w (W5.alloc (.cells #[.int .i64 d1.op, .int .i64 d1.flow, .int .i64 d1.a, .int .i64 d1.b] 40)) x c' (fun k => k = w.heap.size ∨ k = W5.heap.size) s.1 l u8 := H5.out.below (below1 _ _) fun k hk => hk.imp id fun hk => by subst hk; exact ⟨Nat.le_refl _, by simp⟩
      have b6 : Blk (W5.alloc (.cells #[.int .i64 d1.op, .int .i64 d1.flow, .int .i64 d1.a, .int .i64 d1.b] 40)) W5.heap.size d1.cells 40 := Blk.new W5 d1.cells 40
      have c6 := HCF5.out.below (below1 W5 (.cells #[.int .i64 d1.op, .int .i64 d1.flow, .int .i64 d1.a, .int .i64 d1.b] 40))
      have H6 := Lib.hid h6
      have B6 := Lib.hid b6
      have C6 := Lib.hid c6
      have hDw : w.heap.size < W5.heap.size := HCF5.out.box.lt
      clear h6 b6 c6 H5 HCF5
      go_upto_if 37 with fail
      generalize W5.alloc (.cells #[.int .i64 d1.op, .int .i64 d1.flow, .int .i64 d1.a, .int .i64 d1.b] 40) = W6 at *
      generalize W5.heap.size = D at *
      go_cut [] from 20 to 54 (fun wx => LnI w wx x c' (fun k => k = w.heap.size ∨ k = D) s.1 l u8 ∧ Blk wx D d2.cells 40 ∧ CfgIn w wx c')
      case first =>
        by_cases h5 : d1.op = 5
        · have g5 : (d1.op == 5) = true := by simp [h5]
          have E : Hid (d2 = { d1 with op := 4 }) := Lib.hid (by rw [E1.out, if_pos h5])
          have t0 : W6.cell? ⟨D, 0, none⟩ = some (.int .i64 d1.op) := B6.out.cell 0
          have z0 := B6.out.frozen 0
          have tl := B6.out.lt
          clear h5
          go_wp2
          go_meet
          refine ⟨H6.out.fr (S := fun k => k = D) (Fr.setCell (S := fun k => k = D) (a := ⟨D, 0, none⟩) (Fr.refl _ _) (.inl rfl) _) fun k hk => ?_, by rw [E.out]; exact B6.out.set 0 _, ⟨C6.out.bel.setCell (p := ⟨D, 0, none⟩) (Nat.le_of_lt hDw) _, C6.out.box.set_far (a := ⟨D, 0, none⟩) (by show w.heap.size ≠ D; omega) _⟩⟩
          subst hk
          exact ⟨.inr rfl, Nat.le_of_lt hDw, fun e => own_blk' H6.out.own.1 B6.out (by decide) _ e rfl, fun ⟨d, hd, e⟩ => own_blk' (H6.out.own.2 d hd).1 B6.out (by decide) _ e rfl⟩
        · have g5 : (d1.op == 5) = false := by simpa using h5
          have E : Hid (d2 = d1) := Lib.hid (by rw [E1.out, if_neg h5])
          clear h5
          go_wp2
          go_meet
          exact ⟨H6.out, by rw [E.out]; exact B6.out, C6.out⟩
      case rest =>
      obtain ⟨h7, b7, c7⟩ := hcut
      have H7 := Lib.hid h7
      have B7 := Lib.hid b7
      have C7 := Lib.hid c7
      clear h7 b7 c7 H6 B6 C6 E1
      have hln : l.length = i := by have := HOK1.out.len; rw [← HBA.out, List.length_map] at this; exact this
      have HDO := H7.out.below (w2 := wc.drew) (K' := fun k => k = w.heap.size ∨ k = D) (Below.refl _ _).drew fun k hk => .inl hk
      have HDO := HDO.doo (HOK1.out.good HC.out.ok HCR.out.unit (by omega)) (show i ≤ 1000000 by omega) HCR.out d2 HDOK.out
      have hrok := doo_ret_ok (HOK1.out.good HC.out.ok HCR.out.unit (by omega)) (show i ≤ 1000000 by omega) c' d2
      obtain ⟨m2, rr, hdo⟩ : ∃ m2 rr, s.1.doo c' d2 = (m2, rr) := ⟨_, _, rfl⟩
      rw [hdo] at HDO hrok
      dsimp only at HDO hrok
      replace HI1 := Lib.hid HI1.out
      rw [hdo] at HI1
      have HDOH := Lib.hid HDO
      have HROK := Lib.hid hrok
      have HLN2 := Lib.hid hln
      have hbw := H7.out.bel.size
      clear HDO hdo hrok hln
      have t0 : wc.cell? ⟨D, 0, none⟩ = some (.int .i64 d2.op) := B7.out.cell 0
      have t1 : wc.cell? ⟨D, 1, none⟩ = some (.int .i64 d2.flow) := B7.out.cell 1
      have t2 : wc.cell? ⟨D, 2, none⟩ = some (.int .i64 d2.a) := B7.out.cell 2
      have t3 : wc.cell? ⟨D, 3, none⟩ = some (.int .i64 d2.b) := B7.out.cell 3
      go_upto_region 10 with fail
      refine wp_region_held_drew (S := fun w' => w'.cell? ⟨D, 0, none⟩ = some (.int .i64 d2.op) ∧ w'.cell? ⟨D, 1, none⟩ = some (.int .i64 d2.flow) ∧ w'.cell? ⟨D, 2, none⟩ = some (.int .i64 d2.a) ∧ w'.cell? ⟨D, 3, none⟩ = some (.int .i64 d2.b)) (by kernel_rfl) ?_ (fun hHeld => ?_)
      · exact ⟨t0, t1, t2, t3⟩
      refine wpAnyH_take (i := 0) (v := ?_) rfl (by kernel_rfl) (by kernel_rfl) (by kernel_rfl) (fun _ _ _ h => h) (Or.inl ⟨by rfl, ?_⟩) (by assumption) ?_
      rotate_left
      · intro w hSw
        (try dsimp only at hSw)
        first | (go_simp; done) | (go_simp; with_reducible rfl)
      try simp only [List.getElem_toArray, List.getElem_cons_succ, List.getElem_cons_zero, Act.put, List.setIfInBounds_toArray, List.set_cons_zero, List.set_cons_succ]
      refine wpAnyH_take (i := 1) (v := ?_) rfl (by kernel_rfl) (by kernel_rfl) (by kernel_rfl) (fun _ _ _ h => h) (Or.inl ⟨by rfl, ?_⟩) (by assumption) ?_
      rotate_left
      · intro w hSw
        (try dsimp only at hSw)
        first | (go_simp; done) | (go_simp; with_reducible rfl)
      try simp only [List.getElem_toArray, List.getElem_cons_succ, List.getElem_cons_zero, Act.put, List.setIfInBounds_toArray, List.set_cons_zero, List.set_cons_succ]
      refine wpAnyH_take (i := 2) (v := ?_) rfl (by kernel_rfl) (by kernel_rfl) (by kernel_rfl) (fun _ _ _ h => h) (Or.inl ⟨by rfl, ?_⟩) (by assumption) ?_
      rotate_left
      · intro w hSw
        (try dsimp only at hSw)
        first | (go_simp; done) | (go_simp; with_reducible rfl)
      try simp only [List.getElem_toArray, List.getElem_cons_succ, List.getElem_cons_zero, Act.put, List.setIfInBounds_toArray, List.set_cons_zero, List.set_cons_succ]
      refine wpAnyH_take (i := 3) (v := ?_) rfl (by kernel_rfl) (by kernel_rfl) (by kernel_rfl) (fun _ _ _ h => h) (Or.inl ⟨by rfl, ?_⟩) (by assumption) ?_
      rotate_left
      · intro w hSw
        (try dsimp only at hSw)
        first | (go_simp; done) | (go_simp; with_reducible rfl)
      try simp only [List.getElem_toArray, List.getElem_cons_succ, List.getElem_cons_zero, Act.put, List.setIfInBounds_toArray, List.set_cons_zero, List.set_cons_succ]
      refine wpAnyH_take (i := 4) (v := ?_) rfl (by kernel_rfl) (by kernel_rfl) (by kernel_rfl) (fun _ _ _ h => h) (Or.inl ⟨by rfl, ?_⟩) (by assumption) ?_
      rotate_left
      · intro w hSw
        (try dsimp only at hSw)
        first | (go_simp; done) | (go_simp; with_reducible rfl)
      try simp only [List.getElem_toArray, List.getElem_cons_succ, List.getElem_cons_zero, Act.put, List.setIfInBounds_toArray, List.set_cons_zero, List.set_cons_succ]
      refine wpAnyH_take (i := 5) (v := ?_) rfl (by kernel_rfl) (by kernel_rfl) (by kernel_rfl) (fun _ _ _ h => h) (Or.inl ⟨by rfl, ?_⟩) (by assumption) ?_
      rotate_left
      · intro w hSw
        (try dsimp only at hSw)
        first | (go_simp; done) | (go_simp; with_reducible rfl)
      try simp only [List.getElem_toArray, List.getElem_cons_succ, List.getElem_cons_zero, Act.put, List.setIfInBounds_toArray, List.set_cons_zero, List.set_cons_succ]
      refine wpAnyH_take (i := 6) (v := ?_) rfl (by kernel_rfl) (by kernel_rfl) (by kernel_rfl) (fun _ _ _ h => h) (Or.inl ⟨by rfl, ?_⟩) (by assumption) ?_
      rotate_left
      · intro w hSw
        (try dsimp only at hSw)
        first | (go_simp; done) | (go_simp; with_reducible rfl)
      try simp only [List.getElem_toArray, List.getElem_cons_succ, List.getElem_cons_zero, Act.put, List.setIfInBounds_toArray, List.set_cons_zero, List.set_cons_succ]
      refine wpAnyH_take (i := 7) (v := ?_) rfl (by kernel_rfl) (by kernel_rfl) (by kernel_rfl) (fun _ _ _ h => h) (Or.inl ⟨by rfl, ?_⟩) (by assumption) ?_
      rotate_left
      · intro w hSw
        (try dsimp only at hSw)
        first | (go_simp; done) | (go_simp; with_reducible rfl)
      try simp only [List.getElem_toArray, List.getElem_cons_succ, List.getElem_cons_zero, Act.put, List.setIfInBounds_toArray, List.set_cons_zero, List.set_cons_succ]
      refine wpAnyH_take (i := 8) (v := ?_) rfl (by kernel_rfl) (by kernel_rfl) (by kernel_rfl) (fun _ _ _ h => h) (Or.inl ⟨by rfl, ?_⟩) (by assumption) ?_
      rotate_left
      · intro w hSw
        (try dsimp only at hSw)
        first | (go_simp; done) | (go_simp; with_reducible rfl)
      try simp only [List.getElem_toArray, List.getElem_cons_succ, List.getElem_cons_zero, Act.put, List.setIfInBounds_toArray, List.set_cons_zero, List.set_cons_succ]
      refine wpAnyH_take (i := 9) (v := ?_) rfl (by kernel_rfl) (by kernel_rfl) (by kernel_rfl) (fun _ _ _ h => h) (Or.inl ⟨by rfl, ?_⟩) (by assumption) ?_
      rotate_left
      · intro w hSw
        (try dsimp only at hSw)
        first | (go_simp; done) | (go_simp; with_reducible rfl)
      try simp only [List.getElem_toArray, List.getElem_cons_succ, List.getElem_cons_zero, Act.put, List.setIfInBounds_toArray, List.set_cons_zero, List.set_cons_succ]
      refine wpAnyH_take (i := 10) (v := ?_) rfl (by kernel_rfl) (by kernel_rfl) (by kernel_rfl) (fun _ _ _ h => h) (Or.inl ⟨by rfl, ?_⟩) (by assumption) ?_
      rotate_left
      · intro w hSw
        (try dsimp only at hSw)
        first | (go_simp; done) | (go_simp; with_reducible rfl)
      try simp only [List.getElem_toArray, List.getElem_cons_succ, List.getElem_cons_zero, Act.put, List.setIfInBounds_toArray, List.set_cons_zero, List.set_cons_succ]
      refine wpAnyH_take (i := 11) (v := ?_) rfl (by kernel_rfl) (by kernel_rfl) (by kernel_rfl) (fun _ _ _ h => h) (Or.inl ⟨by rfl, ?_⟩) (by assumption) ?_
      rotate_left
      · intro w hSw
        (try dsimp only at hSw)
        first | (go_simp; done) | (go_simp; with_reducible rfl)
      try simp only [List.getElem_toArray, List.getElem_cons_succ, List.getElem_cons_zero, Act.put, List.setIfInBounds_toArray, List.set_cons_zero, List.set_cons_succ]
      refine wpAnyH_ready (rs := [12]) (by kernel_rfl) (by simp) ?_
      refine AllReadyH.cons rfl (fun K hK => ?_) AllReadyH.nil
      go_simp
      go_at_call 23
      refine HDOH.out.mono ?_
      rintro e2 w4 ⟨ao4, cap4, rfl, row4, m4, keep4, z4⟩
      have B4 : Blk w4 D d2.cells 40 := B7.out.of_eq (keep4 D (.inr rfl))
      have C4 : CfgIn w w4 c' := ⟨m4.bel, C7.out.box.of_eq (keep4 _ (.inl rfl))⟩
      have HB4 := Lib.hid B4
      have HC4 := Lib.hid C4
      have HM4 := Lib.hid m4
      have HR4 := Lib.hid row4
      refine hK.out _ _ ⟨HB4.out.cell 0, HB4.out.cell 1, HB4.out.cell 2, HB4.out.cell 3⟩ (fun hHeld => ?_)
      clear hK K B4 C4 m4 row4 keep4 t0 t1 t2 t3 H7 B7 C7
      try simp only [List.getElem_toArray, List.getElem_cons_succ, List.getElem_cons_zero, Act.put, List.setIfInBounds_toArray, List.set_cons_zero, List.set_cons_succ]
      refine wpAnyH_take (i := 13) (v := ?_) rfl (by kernel_rfl) (by kernel_rfl) (by kernel_rfl) (fun _ _ _ h => h) (Or.inl ⟨by rfl, ?_⟩) (by assumption) ?_
      rotate_left
      · intro w hSw
        (try dsimp only at hSw)
        first | (go_simp; done) | (go_simp; with_reducible rfl)
      try simp only [List.getElem_toArray, List.getElem_cons_succ, List.getElem_cons_zero, Act.put, List.setIfInBounds_toArray, List.set_cons_zero, List.set_cons_succ]
      refine wpAnyH_ready (rs := [14]) (by kernel_rfl) (by simp) ?_
      refine AllReadyH.cons rfl (fun K hK => ?_) AllReadyH.nil
      go_simp
      refine hK.out _ _ ⟨(HB4.out.below (below1 _ _)).cell 0, (HB4.out.below (below1 _ _)).cell 1, (HB4.out.below (below1 _ _)).cell 2, (HB4.out.below (below1 _ _)).cell 3⟩ (fun hHeld => ?_)
      clear hK K
      try simp only [List.getElem_toArray, List.getElem_cons_succ, List.getElem_cons_zero, Act.put, List.setIfInBounds_toArray, List.set_cons_zero, List.set_cons_succ]
      refine wpAnyH_ready (rs := [15]) (by kernel_rfl) (by simp) ?_
      refine AllReadyH.cons rfl (fun K hK => ?_) AllReadyH.nil
      have hown4 : w4.ownsRow w.heap.size 42 12 u8 i (doneC l) := by have := HM4.out.own.1; rw [HLN2.out] at this; exact this
      have hbase4 := HM4.out.bel.size
      refine step_ap_new0 w4 _ ED rfl _ _ rfl w.heap.size u8 i (doneC l) rfl hown4 hbase4 1 rfl rfl (by simp [Value.oneCell']) (by omega) ?_
      intro v' w9 hown9 hg9 hb9 hfr9
      have hDne : ∀ k, u8.ownBlock = some k → k ≠ D := own_blk' hown4 HB4.out (by decide)
      have hCne : ∀ k, u8.ownBlock = some k → k ≠ w.heap.size := own_blk' hown4 HC4.out.box (by decide)
      have B9 := HB4.out.grown hg9 fun e => hDne D e rfl
      have C9 := HC4.out.box.grown hg9 fun e => hCne _ e rfl
      refine hK.out _ _ ⟨B9.cell 0, B9.cell 1, B9.cell 2, B9.cell 3⟩ (fun hHeld => ?_)
      clear hK K
      try simp only [List.getElem_toArray, List.getElem_cons_succ, List.getElem_cons_zero, Act.put, List.setIfInBounds_toArray, List.set_cons_zero, List.set_cons_succ]
      have HO9 := Lib.hid hown9
      have HG9 := Lib.hid hg9
      have HB9 := Lib.hid hb9
      have HF9 := Lib.hid hfr9
      have HC9 : Hid (CfgIn w w9 c') := Lib.hid ⟨HM4.out.bel.trans hb9, C9⟩
      clear hown9 hg9 hb9 hfr9 C9 B9
      refine wpAnyH_take (i := 16) (v := ?_) rfl (by kernel_rfl) (by kernel_rfl) (by kernel_rfl) (fun _ _ _ h => h) (Or.inl ⟨by rfl, ?_⟩) (by assumption) ?_
      rotate_left
      · intro w hSw
        (try dsimp only at hSw)
        first | (go_simp; done) | (go_simp; with_reducible rfl)
      try simp only [List.getElem_toArray, List.getElem_cons_succ, List.getElem_cons_zero, Act.put, List.setIfInBounds_toArray, List.set_cons_zero, List.set_cons_succ]
      refine wpAnyH_done (by kernel_rfl) ?_ _
      go_wp2
      go_roundw
      case rel =>
        obtain ⟨k1, k2, k3⟩ := doneOk (y := ⟨(i : Int) % 3, (i : Int) / 3, d2.op, d2.flow, d2.a, d2.b, rr.e, ao4, rr.ps.length, cap4, rr.n, rr.v, 0, 0, rr.ps.map pkS⟩) (who := (i : Int) % 3) (place := (i : Int) / 3) (fr := 2 * (i : Int)) (t := 2 * (i : Int)) (d := d2) (r := rr) rfl HDOK.out HROK.out (by unfold I64; omega) (by unfold I64; omega) (by unfold I64; omega) (by unfold I64; omega)
        have hy : OwnK w4 w.heap.size ⟨(i : Int) % 3, (i : Int) / 3, d2.op, d2.flow, d2.a, d2.b, rr.e, ao4, rr.ps.length, cap4, rr.n, rr.v, 2 * (i : Int), 2 * (i : Int), rr.ps.map pkS⟩ := ⟨by
          show w4.ownsRow w.heap.size 59 3 (.slice ao4 rr.ps.length cap4) rr.ps.length (pkC (rr.ps.map pkS))
          rw [show pkC (rr.ps.map pkS) = pks rr.ps by rw [pkC_pks, pkL_pkS]]
          exact HR4.out, k1, k2⟩
        have ho9 := HO9.out
        rw [Int.tmod_eq_emod_of_nonneg hi0, wr1 (x := (i : Int) / 3) (by omega), wr1 (x := 2 * (i : Int)) (by omega)] at ho9
        have hp := HM4.out.push (K' := fun k => k = w.heap.size) (fun k hk => .inl (.inl hk)) hy (fun k hk => .inr hk) HLN2.out ho9 HG9.out HB9.out HF9.out
        refine ⟨i + 1, l ++ [⟨(i : Int) % 3, (i : Int) / 3, d2.op, d2.flow, d2.a, d2.b, rr.e, ao4, rr.ps.length, cap4, rr.n, rr.v, 2 * (i : Int), 2 * (i : Int), rr.ps.map pkS⟩], by omega, by go_num, ?_, ?_, HC9.out⟩
        · rw [HI1.out]
          exact hp
        · rw [HI1.out, List.map_append, HBA.out]
          unfold lnD
          rw [show ((i % 3 : Nat) : Int) = (i : Int) % 3 by omega, show ((i / 3 : Nat) : Int) = (i : Int) / 3 by omega]
          rfl
      case measure => simp [intOf]; omega
    · obtain rfl : i = n := by omega
      have hlen : l.length = i := by have := HOK1.out.len; rw [← HBA.out, List.length_map] at this; exact this
      obtain ⟨ha, hcap, rfl⟩ := owns_slice HLN.out.own.1
      have hown := HLN.out.own
      rw [hlen] at hown
      have HOW := Lib.hid hown
      have HRD : Hid (RdD wr ha i hcap l) := Lib.hid (by rw [← hlen]; have := HLN.out.own; exact this.rd)
      have HPAR : Hid (ParOk i l) := Lib.hid ⟨by omega, fun d hd => by
        have h1 := (HRD.out.ok d hd).2.len
        have h2 : d.bare ∈ (lnAll c' cs i).2 := by rw [← HBA.out]; exact List.mem_map_of_mem hd
        obtain ⟨j, hj, hjd⟩ := List.mem_iff_getElem.1 h2
        obtain ⟨m, hm⟩ := HOK1.out.at_ j (by rw [← HOK1.out.len]; exact hj)
        rw [nthD_eq hj, hjd] at hm
        have h3 := congrArg (fun z : DoneS => z.l.length) hm
        have h3 : d.l.length = ((m.doo c' (dL cs j)).2.ps.map pkS).length := h3
        rw [List.length_map] at h3
        have := doo_ps c' m (dL cs j)
        omega⟩
      have hLL := lineL_of HOK1.out
      have HLL : Hid (LineL l) := Lib.hid fun j hj => by
        have := hLL j (by rw [← HBA.out, List.length_map]; exact hj)
        rw [← HBA.out, ← nthD_bare] at this
        exact this
      obtain ⟨hf1, hf2⟩ := line_found HOK1.out HRT.out hn12
      rw [← HBA.out, foundB_bare] at hf1
      rw [← HBA.out, fitsB_bare] at hf2
      have HF1 := Lib.hid hf1
      have HF2 := Lib.hid hf2
      have HLEN := Lib.hid hlen
      replace HI := HCF
      clear hf1 hf2 hLL hown hlen HCF HLN HOK1 HOK HM00 HBA
      have hrl : (List.range i).length = i := List.length_range
      rw [HLEN.out]
      by_cases j1 : (i : Int) < (n0 : Int)
      · have j2 : ¬ (i : Int) < 12 := by have := HNN.out; omega
        go_wp2_with fail
        refine (ord15_any none 0 0 [] i _ (nil_rdI15 _) (by omega)).mono ?_
        rintro e W4 ⟨qa, qc, q1, rfl, hown4, hos4, hid4, -, hb4⟩
        have hq1 := hid4 rfl
        subst hq1
        have hqn : (toI (List.range i)).length = i := by unfold toI; simp
        rw [hqn] at hown4
        rw [hqn]
        replace HI := Lib.hid (HI.out.below hb4)
        replace HRD := Lib.hid (HRD.out.below hb4)
        replace HOW := Lib.hid (HOW.out.below hb4)
        have HQ := Lib.hid (owns_rdI hown4 hos4)
        have HOQ := Lib.hid hown4
        clear hb4 hown4 hos4 hid4 hqn
        obtain ⟨x0, x1, x2, x3, x4, xl⟩ := HI.out.cells
        have hS := linSearch_any c' HU.out ha i hcap l W4 HRD.out HPAR.out
        rw [HF1.out] at hS
        have HS := Lib.hid hS
        clear hS
        go_wp2_with fail
        refine HS.out.mono ?_
        rintro e W5 ⟨hret, hb5⟩
        obtain ⟨ga, gc, rfl, hrow⟩ := hret
        rw [hrl] at hrow
        rw [hrl]
        replace HI := Lib.hid (HI.out.below hb5)
        replace HRD := Lib.hid (HRD.out.below hb5)
        replace HOW := Lib.hid (HOW.out.below hb5)
        replace HOQ := Lib.hid (owns_below (B := 0) HOQ.out hb5)
        replace HQ := Lib.hid (RdI.below (B := 0) HQ.out hb5)
        have HG := Lib.hid (owns_rdI hrow HQ.out.fits)
        clear hb5 hrow x0 x1 x2 x3 x4 xl HS
        go_wp2_with fail
        refine (awake15_any W5).mono ?_
        rintro e W6 ⟨rfl, hb6⟩
        replace HI := Lib.hid (HI.out.below hb6)
        replace HRD := Lib.hid (HRD.out.below hb6)
        replace HOW := Lib.hid (HOW.out.below hb6)
        replace HOQ := Lib.hid (owns_below (B := 0) HOQ.out hb6)
        replace HQ := Lib.hid (RdI.below (B := 0) HQ.out hb6)
        replace HG := Lib.hid (RdI.below (B := 0) HG.out hb6)
        clear hb6
        go_wp2_with fail
        refine (plainI_any _ _ _ _ _ _ (toI (List.range i)) (toI (List.range i)) W6 HG.out HQ.out).mono ?_
        rw [eqI_same]
        rintro e W7 ⟨rfl, hb7⟩
        replace HI := Lib.hid (HI.out.below hb7)
        replace HRD := Lib.hid (HRD.out.below hb7)
        replace HOW := Lib.hid (HOW.out.below hb7)
        replace HOQ := Lib.hid (owns_below (B := 0) HOQ.out hb7)
        replace HQ := Lib.hid (RdI.below (B := 0) HQ.out hb7)
        clear hb7 HG
        obtain ⟨x0, x1, x2, x3, x4, xl⟩ := HI.out.cells
        go_wp2_with fail
        refine (linFits_any c' HU.out ha i hcap l qa i qc (toI (List.range i)) W7 HRD.out HPAR.out HQ.out (by omega)).mono ?_
        rw [HF2.out]
        rintro e W8 ⟨rfl, hb8⟩
        replace HI := Lib.hid (HI.out.below hb8)
        replace HOW := Lib.hid (HOW.out.below hb8)
        replace HOQ := Lib.hid (owns_below (B := 0) HOQ.out hb8)
        replace HQ := Lib.hid (RdI.below (B := 0) HQ.out hb8)
        clear hb8 x0 x1 x2 x3 x4 xl HRD
        by_cases hz : i = 0
        · have hz0 : ((i : Int) == 0) = true := by simp [hz]
          go_wp2
          go_ret
          exact ⟨rfl, HI.out.bel⟩
        have hz0 : ((i : Int) == 0) = false := by simpa using hz
        obtain ⟨g, rfl⟩ : ∃ g, ha = some ⟨g, 0, none⟩ := by
          rcases HOW.out.1.2 with ⟨hv, hv2⟩ | ⟨g, cap', cur, hv, _⟩
          · cases hv
            have := HLEN.out
            omega
          · cases hv; exact ⟨g, rfl⟩
        have hk0 := modZ_bd at_ (n := (i : Int)) (by omega)
        obtain ⟨k, hk⟩ : ∃ k : Nat, modZ at_ (i : Int) = (k : Int) := ⟨(modZ at_ (i : Int)).toNat, by omega⟩
        have hki : k < i := by omega
        have hki2 : (k : Int) < (i : Int) := by omega
        have HK := Lib.hid hk
        clear hk hk0
        go_wp2_with fail
        refine (mod_any at_ i (by omega) (by omega) _).mono ?_
        rw [HK.out]
        rintro e w' ⟨rfl, rfl⟩
        have gl := (owns_lt HOW.out.1 g rfl).2
        have gw : w.heap.size < g := by
          have h1 := (owns_lt HOW.out.1 g rfl).1
          have h2 := own_blk' HOW.out.1 HI.out.box (by decide) g rfl
          omega
        obtain ⟨y8, z8⟩ := ownDs_at12 HOW.out (i := 8) HLEN.out hki (by omega)
        have y8 : W8.cell? ⟨g, k * 12 + 6 + 2, none⟩ = some (.int .i64 (nthD l k).n) := y8
        have z8 : W8.frozen? ⟨g, k * 12 + 6 + 2, none⟩ = false := z8
        have y8' : W8.cell? ⟨g, k * 12 + 8, none⟩ = some (.int .i64 (nthD l k).n) := y8
        have z8' : W8.frozen? ⟨g, k * 12 + 8, none⟩ = false := z8
        have hlk : k < l.length := by rw [HLEN.out]; exact hki
        have hd0 := HOW.out.2 (nthD l k) (by rw [nthD_eq hlk]; exact List.getElem_mem _)
        have okN : ({ nthD l k with n := -1 } : DoneS).Ok := by
          have h := hd0.2.1
          unfold DoneS.Ok at h ⊢
          exact ⟨h.1, h.2.1, h.2.2.1, h.2.2.2.1, h.2.2.2.2.1, h.2.2.2.2.2.1, h.2.2.2.2.2.2.1, by unfold I64; simp, h.2.2.2.2.2.2.2.2⟩
        have s1 := ownDs_set1 HOW.out (i := 8) (u := .int .i64 (-1)) (d' := { nthD l k with n := -1 }) HLEN.out hki (by omega) rfl ⟨hd0.1, okN, hd0.2.2⟩
        have c1 := HI.out.far (i := k * 12 + 8) gw (.int .i64 (-1))
        have q1 : RdI (W8.setCell ⟨g, k * 12 + 8, none⟩ (.int .i64 (-1))) qa i qc (toI (List.range i)) := owns_rdI (owns_grown HOQ.out (w' := W8.setCell ⟨g, k * 12 + 8, none⟩ (.int .i64 (-1))) (r := some g) ⟨rfl, rfl, rfl, by simp [World.setCell], fun q _ hq => Below.heap_setCell W8 ⟨g, k * 12 + 8, none⟩ _ q fun e => hq (by rw [e])⟩ (fun q hq => tag_ne HOW.out.1 HOQ.out (by decide) q hq)) HQ.out.fits
        have hl' : (l.set k { nthD l k with n := -1 }).length = i := by rw [List.length_set]; exact HLEN.out
        have r1 : RdD (W8.setCell ⟨g, k * 12 + 8, none⟩ (.int .i64 (-1))) (some ⟨g, 0, none⟩) i hcap (l.set k { nthD l k with n := -1 }) := by have := s1; rw [← hl'] at this ⊢; exact this.rd
        have hLL' : LineL (l.set k { nthD l k with n := -1 }) := fun j hj => by
          rw [List.length_set] at hj
          have h := HLL.out j hj
          by_cases e : j = k
          · subst e
            rw [nthD_set hj]
            exact h
          · unfold nthD at h ⊢
            rw [List.getD_eq_getElem?_getD, List.getElem?_set_ne (by omega), ← List.getD_eq_getElem?_getD]
            exact h
        have hbad := fun o => line_bad (c := c') (o := o) hLL' (by rw [hl']; exact hki) (by rw [nthD_set hlk])
        have hbadf := line_bad_found (c := c') hLL' (by rw [hl']; exact hki) (by rw [nthD_set hlk])
        have hpar : ParOk i (l.set k { nthD l k with n := -1 }) := ⟨by omega, fun d hd => by
          rcases List.mem_or_eq_of_mem_set hd with hd | rfl
          · exact HPAR.out.2 d hd
          · exact HPAR.out.2 (nthD l k) (by rw [nthD_eq hlk]; exact List.getElem_mem _)⟩
        have HQ1 := Lib.hid q1
        have HR1 := Lib.hid r1
        have HC1 := Lib.hid c1
        have HBAD := Lib.hid (hbad (toI (List.range i)))
        have HBADF := Lib.hid hbadf
        have HPAR1 := Lib.hid hpar
        clear q1 r1 c1 hLL' hbad hbadf hpar s1 okN hd0 hlk HI HOW HOQ HQ HPAR
        go_upto_region 18 with fail
        first
          | generalize W8.setCell ⟨g, k * 12 + 8, none⟩ (.int .i64 (-1)) = W9 at *
          | skip
        obtain ⟨x0, x1, x2, x3, x4, xl⟩ := HC1.out.cells
        generalize l.set k { nthD l k with n := -1 } = l' at *
        have hS := linSearch_any c' HU.out (some ⟨g, 0, none⟩) i hcap l' W9 HR1.out HPAR1.out
        rw [HBADF.out] at hS
        have HS := Lib.hid hS
        clear hS y8 z8 y8' z8'
        go_wp2_with fail
        refine HS.out.mono ?_
        rintro e W10 ⟨hret, hb10⟩
        have hret : e = .returned (.tuple #[.slice none 0 0, .bool false]) := hret
        subst hret
        replace HC1 := Lib.hid (HC1.out.below hb10)
        replace HR1 := Lib.hid (HR1.out.below hb10)
        replace HQ1 := Lib.hid (RdI.below (B := 0) HQ1.out hb10)
        clear hb10 x0 x1 x2 x3 x4 xl HS
        obtain ⟨x0, x1, x2, x3, x4, xl⟩ := HC1.out.cells
        go_wp2_with fail
        refine (linFits_any c' HU.out (some ⟨g, 0, none⟩) i hcap l' qa i qc (toI (List.range i)) W10 HR1.out HPAR1.out HQ1.out (by omega)).mono ?_
        rw [HBAD.out]
        rintro e W11 ⟨rfl, hb11⟩
        replace HC1 := Lib.hid (HC1.out.below hb11)
        clear hb11 x0 x1 x2 x3 x4 xl
        go_wp2
        go_ret
        exact ⟨rfl, HC1.out.bel⟩
      · go_wp2_with fail
        refine (ord15_any none 0 0 [] i _ (nil_rdI15 _) (by omega)).mono ?_
        rintro e W4 ⟨qa, qc, q1, rfl, hown4, hos4, hid4, -, hb4⟩
        have hq1 := hid4 rfl
        subst hq1
        have hqn : (toI (List.range i)).length = i := by unfold toI; simp
        rw [hqn] at hown4
        rw [hqn]
        replace HI := Lib.hid (HI.out.below hb4)
        replace HRD := Lib.hid (HRD.out.below hb4)
        replace HOW := Lib.hid (HOW.out.below hb4)
        have HQ := Lib.hid (owns_rdI hown4 hos4)
        have HOQ := Lib.hid hown4
        clear hb4 hown4 hos4 hid4 hqn
        obtain ⟨x0, x1, x2, x3, x4, xl⟩ := HI.out.cells
        have hS := linSearch_any c' HU.out ha i hcap l W4 HRD.out HPAR.out
        rw [HF1.out] at hS
        have HS := Lib.hid hS
        clear hS
        go_wp2_with fail
        refine HS.out.mono ?_
        rintro e W5 ⟨hret, hb5⟩
        obtain ⟨ga, gc, rfl, hrow⟩ := hret
        rw [hrl] at hrow
        rw [hrl]
        replace HI := Lib.hid (HI.out.below hb5)
        replace HRD := Lib.hid (HRD.out.below hb5)
        replace HOW := Lib.hid (HOW.out.below hb5)
        replace HOQ := Lib.hid (owns_below (B := 0) HOQ.out hb5)
        replace HQ := Lib.hid (RdI.below (B := 0) HQ.out hb5)
        have HG := Lib.hid (owns_rdI hrow HQ.out.fits)
        clear hb5 hrow x0 x1 x2 x3 x4 xl HS
        go_wp2_with fail
        refine (awake15_any W5).mono ?_
        rintro e W6 ⟨rfl, hb6⟩
        replace HI := Lib.hid (HI.out.below hb6)
        replace HRD := Lib.hid (HRD.out.below hb6)
        replace HOW := Lib.hid (HOW.out.below hb6)
        replace HOQ := Lib.hid (owns_below (B := 0) HOQ.out hb6)
        replace HQ := Lib.hid (RdI.below (B := 0) HQ.out hb6)
        replace HG := Lib.hid (RdI.below (B := 0) HG.out hb6)
        clear hb6
        go_wp2_with fail
        refine (plainI_any _ _ _ _ _ _ (toI (List.range i)) (toI (List.range i)) W6 HG.out HQ.out).mono ?_
        rw [eqI_same]
        rintro e W7 ⟨rfl, hb7⟩
        replace HI := Lib.hid (HI.out.below hb7)
        replace HRD := Lib.hid (HRD.out.below hb7)
        replace HOW := Lib.hid (HOW.out.below hb7)
        replace HOQ := Lib.hid (owns_below (B := 0) HOQ.out hb7)
        replace HQ := Lib.hid (RdI.below (B := 0) HQ.out hb7)
        clear hb7 HG
        obtain ⟨x0, x1, x2, x3, x4, xl⟩ := HI.out.cells
        go_wp2_with fail
        refine (linFits_any c' HU.out ha i hcap l qa i qc (toI (List.range i)) W7 HRD.out HPAR.out HQ.out (by omega)).mono ?_
        rw [HF2.out]
        rintro e W8 ⟨rfl, hb8⟩
        replace HI := Lib.hid (HI.out.below hb8)
        replace HOW := Lib.hid (HOW.out.below hb8)
        replace HOQ := Lib.hid (owns_below (B := 0) HOQ.out hb8)
        replace HQ := Lib.hid (RdI.below (B := 0) HQ.out hb8)
        clear hb8 x0 x1 x2 x3 x4 xl HRD
        by_cases hz : i = 0
        · have hz0 : ((i : Int) == 0) = true := by simp [hz]
          go_wp2
          go_ret
          exact ⟨rfl, HI.out.bel⟩
        have hz0 : ((i : Int) == 0) = false := by simpa using hz
        obtain ⟨g, rfl⟩ : ∃ g, ha = some ⟨g, 0, none⟩ := by
          rcases HOW.out.1.2 with ⟨hv, hv2⟩ | ⟨g, cap', cur, hv, _⟩
          · cases hv
            have := HLEN.out
            omega
          · cases hv; exact ⟨g, rfl⟩
        have hk0 := modZ_bd at_ (n := (i : Int)) (by omega)
        obtain ⟨k, hk⟩ : ∃ k : Nat, modZ at_ (i : Int) = (k : Int) := ⟨(modZ at_ (i : Int)).toNat, by omega⟩
        have hki : k < i := by omega
        have hki2 : (k : Int) < (i : Int) := by omega
        have HK := Lib.hid hk
        clear hk hk0
        go_wp2_with fail
        refine (mod_any at_ i (by omega) (by omega) _).mono ?_
        rw [HK.out]
        rintro e w' ⟨rfl, rfl⟩
        have gl := (owns_lt HOW.out.1 g rfl).2
        have gw : w.heap.size < g := by
          have h1 := (owns_lt HOW.out.1 g rfl).1
          have h2 := own_blk' HOW.out.1 HI.out.box (by decide) g rfl
          omega
        obtain ⟨y8, z8⟩ := ownDs_at12 HOW.out (i := 8) HLEN.out hki (by omega)
        have y8 : W8.cell? ⟨g, k * 12 + 6 + 2, none⟩ = some (.int .i64 (nthD l k).n) := y8
        have z8 : W8.frozen? ⟨g, k * 12 + 6 + 2, none⟩ = false := z8
        have y8' : W8.cell? ⟨g, k * 12 + 8, none⟩ = some (.int .i64 (nthD l k).n) := y8
        have z8' : W8.frozen? ⟨g, k * 12 + 8, none⟩ = false := z8
        have hlk : k < l.length := by rw [HLEN.out]; exact hki
        have hd0 := HOW.out.2 (nthD l k) (by rw [nthD_eq hlk]; exact List.getElem_mem _)
        have okN : ({ nthD l k with n := -1 } : DoneS).Ok := by
          have h := hd0.2.1
          unfold DoneS.Ok at h ⊢
          exact ⟨h.1, h.2.1, h.2.2.1, h.2.2.2.1, h.2.2.2.2.1, h.2.2.2.2.2.1, h.2.2.2.2.2.2.1, by unfold I64; simp, h.2.2.2.2.2.2.2.2⟩
        have s1 := ownDs_set1 HOW.out (i := 8) (u := .int .i64 (-1)) (d' := { nthD l k with n := -1 }) HLEN.out hki (by omega) rfl ⟨hd0.1, okN, hd0.2.2⟩
        have c1 := HI.out.far (i := k * 12 + 8) gw (.int .i64 (-1))
        have q1 : RdI (W8.setCell ⟨g, k * 12 + 8, none⟩ (.int .i64 (-1))) qa i qc (toI (List.range i)) := owns_rdI (owns_grown HOQ.out (w' := W8.setCell ⟨g, k * 12 + 8, none⟩ (.int .i64 (-1))) (r := some g) ⟨rfl, rfl, rfl, by simp [World.setCell], fun q _ hq => Below.heap_setCell W8 ⟨g, k * 12 + 8, none⟩ _ q fun e => hq (by rw [e])⟩ (fun q hq => tag_ne HOW.out.1 HOQ.out (by decide) q hq)) HQ.out.fits
        have hl' : (l.set k { nthD l k with n := -1 }).length = i := by rw [List.length_set]; exact HLEN.out
        have r1 : RdD (W8.setCell ⟨g, k * 12 + 8, none⟩ (.int .i64 (-1))) (some ⟨g, 0, none⟩) i hcap (l.set k { nthD l k with n := -1 }) := by have := s1; rw [← hl'] at this ⊢; exact this.rd
        have hLL' : LineL (l.set k { nthD l k with n := -1 }) := fun j hj => by
          rw [List.length_set] at hj
          have h := HLL.out j hj
          by_cases e : j = k
          · subst e
            rw [nthD_set hj]
            exact h
          · unfold nthD at h ⊢
            rw [List.getD_eq_getElem?_getD, List.getElem?_set_ne (by omega), ← List.getD_eq_getElem?_getD]
            exact h
        have hbad := fun o => line_bad (c := c') (o := o) hLL' (by rw [hl']; exact hki) (by rw [nthD_set hlk])
        have hbadf := line_bad_found (c := c') hLL' (by rw [hl']; exact hki) (by rw [nthD_set hlk])
        have hpar : ParOk i (l.set k { nthD l k with n := -1 }) := ⟨by omega, fun d hd => by
          rcases List.mem_or_eq_of_mem_set hd with hd | rfl
          · exact HPAR.out.2 d hd
          · exact HPAR.out.2 (nthD l k) (by rw [nthD_eq hlk]; exact List.getElem_mem _)⟩
        have HQ1 := Lib.hid q1
        have HR1 := Lib.hid r1
        have HC1 := Lib.hid c1
        have HBAD := Lib.hid (hbad (toI (List.range i)))
        have HBADF := Lib.hid hbadf
        have HPAR1 := Lib.hid hpar
        clear q1 r1 c1 hLL' hbad hbadf hpar s1 okN hd0 hlk HI HOW HOQ HQ HPAR
        go_upto_region 18 with fail
        first
          | generalize W8.setCell ⟨g, k * 12 + 8, none⟩ (.int .i64 (-1)) = W9 at *
          | skip
        obtain ⟨x0, x1, x2, x3, x4, xl⟩ := HC1.out.cells
        generalize l.set k { nthD l k with n := -1 } = l' at *
        have hS := linSearch_any c' HU.out (some ⟨g, 0, none⟩) i hcap l' W9 HR1.out HPAR1.out
        rw [HBADF.out] at hS
        have HS := Lib.hid hS
        clear hS y8 z8 y8' z8'
        go_wp2_with fail
        refine HS.out.mono ?_
        rintro e W10 ⟨hret, hb10⟩
        have hret : e = .returned (.tuple #[.slice none 0 0, .bool false]) := hret
        subst hret
        replace HC1 := Lib.hid (HC1.out.below hb10)
        replace HR1 := Lib.hid (HR1.out.below hb10)
        replace HQ1 := Lib.hid (RdI.below (B := 0) HQ1.out hb10)
        clear hb10 x0 x1 x2 x3 x4 xl HS
        obtain ⟨x0, x1, x2, x3, x4, xl⟩ := HC1.out.cells
        go_wp2_with fail
        refine (linFits_any c' HU.out (some ⟨g, 0, none⟩) i hcap l' qa i qc (toI (List.range i)) W10 HR1.out HPAR1.out HQ1.out (by omega)).mono ?_
        rw [HBAD.out]
        rintro e W11 ⟨rfl, hb11⟩
        replace HC1 := Lib.hid (HC1.out.below hb11)
        clear hb11 x0 x1 x2 x3 x4 xl
        go_wp2
        go_ret
        exact ⟨rfl, HC1.out.bel⟩
theorem LinLine_any (w : World) (c : List Value) (w0 : FlatOk [.int .i64, .int .i64, .int .i64, .int .i64, .int .u64] c) (ao : Option Addr) (n cap : Nat) (L : List (List Value)) (h1 : IsRows w [.int .i64, .int .i64, .int .i64, .int .i64] ao n cap L) (x : Int) (wx : (Lit.int .i64 x).wf = true) :
    Calls Tryz.prog 7 #[.agg c.toArray, .slice ao n cap, .int .i64 x] w fun e w' => e = .returned (.bool true) ∧ Below w.heap.size w w' := by
  obtain ⟨d, rfl, hu⟩ := cfg_of w0
  obtain ⟨l, r1⟩ := isRows_rdC h1
  exact linLine_in d hu ao n cap l x w r1
end Go.Proofs.YtdjooacjjnjfmaaGreat
