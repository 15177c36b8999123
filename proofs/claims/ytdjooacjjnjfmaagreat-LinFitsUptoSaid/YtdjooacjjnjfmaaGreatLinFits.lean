/- LinFits: of a history that has an order, and of any numbers: whether these are an order that fits. -/
import Derived.Test.YtdjooacjjnjfmaaGreatHa
namespace Go.Proofs.YtdjooacjjnjfmaaGreat
set_option linter.unusedVariables false
set_option linter.unusedSimpArgs false
set_option maxRecDepth 20000
open Go.RowKit Go.Proofs.YtdjooacjjnjfmaaGreatMem Go.Proofs.YtdjooacjjnjfmaaGreatFlat Go.Proofs.YtdjooacjjnjfmaaGreatMapK Go.Proofs.YtdjooacjjnjfmaaGreatLin H
set_option maxHeartbeats 4000000 in
theorem linFits_in (c : Cfg) (hu : W64 c.unit) (ao a1 a2 a3 : Option Addr) (n0 n1 n2 n3 c0 c1 c2 c3 : Nat) (cs : List CallS) (ws rs os : List Int) (w : World) (h : RdC w ao n0 c0 cs) (hw : RdI w a1 n1 c1 ws) (hr : RdI w a2 n2 c2 rs) (ho : RdI w a3 n3 c3 os) (hn : n0 ≤ 1048576) (hn3 : n3 ≤ 1048576) :
    Calls Tryz.prog 3 #[.agg #[.int .i64 c.shards, .int .i64 c.slots, .int .i64 c.workers, .int .i64 c.width, .int .u64 c.unit], .slice ao n0 c0, .slice a1 n1 c1, .slice a2 n2 c2, .slice a3 n3 c3] w fun e w' => e = .returned (.bool true) ∧ Below w.heap.size w w' := by
  have HC := Lib.hid h
  have HW := Lib.hid hw
  have HR := Lib.hid hr
  have HO := Lib.hid ho
  clear h hw hr ho
  have I := CfgIn.start w c
  have C0 := config_any c hu
  have hcR := confP_r15 c hu
  have hR := confP_right c hu
  have hu' := (confP_ok c hu).unit
  go_enter Tryz.func3, Tryz.ntmps3
  go_upto_region 1 with fail
  generalize (w.alloc (.cells #[.int .i64 c.shards, .int .i64 c.slots, .int .i64 c.workers, .int .i64 c.width, .int .u64 c.unit] 24)) = W at *
  obtain ⟨x0, x1, x2, x3, x4, xl⟩ := I.cells
  have HI := Lib.hid I
  clear I
  go_wp2_with fail
  refine (C0 _).mono ?_
  rintro e W1 ⟨rfl, hb1⟩
  replace HI : Hid (CfgIn w W1 c) := Lib.hid (HI.out.below hb1)
  clear hb1 x0 x1 x2 x3 x4 xl C0
  obtain ⟨x0, x1, x2, x3, x4, xl⟩ := HI.out.cells
  obtain ⟨f0, f1, f2, f3, f4⟩ := HI.out.frozen
  replace HI := Lib.hid (HI.out.set (confP c))
  obtain ⟨c', hcc⟩ : ∃ c', confP c = c' := ⟨_, rfl⟩
  rw [hcc] at HI hcR hR hu'
  rw [hcc]
  have HCR := Lib.hid hcR
  have HRT := Lib.hid hR
  have HU := Lib.hid hu'
  clear hcc hcR hR hu'
  go_upto_region 2 with fail
  generalize (((((W1.setCell ⟨w.heap.size, 0, none⟩ (.int .i64 c'.shards)).setCell ⟨w.heap.size, 1, none⟩ (.int .i64 c'.slots)).setCell ⟨w.heap.size, 2, none⟩ (.int .i64 c'.workers)).setCell ⟨w.heap.size, 3, none⟩ (.int .i64 c'.width)).setCell ⟨w.heap.size, 4, none⟩ (.int .u64 c'.unit)) = W2 at *
  clear x0 x1 x2 x3 x4 xl f0 f1 f2 f3 f4
  obtain ⟨x0, x1, x2, x3, x4, xl⟩ := HI.out.cells
  go_wp2_with fail
  refine (made15_any c' HCR.out ao a1 a2 n0 n1 n2 c0 c1 c2 cs ws rs 10 _ (HC.out.below HI.out.bel) (RdI.below (B := 0) HW.out HI.out.bel) (RdI.below (B := 0) HR.out HI.out.bel) hn (by omega)).mono ?_
  rintro e W3 ⟨ha, hcap, l, rfl, hown, hbare, hb3⟩
  have HX := Lib.hid (made_x c' cs ws rs 10)
  have HX2 := Lib.hid (made_two c' cs ws rs 10 (by omega))
  obtain ⟨X, hXX⟩ : ∃ X, (madeS c' cs ws rs 10).out = X := ⟨_, rfl⟩
  rw [hXX] at HX hbare HX2
  replace HI := Lib.hid (HI.out.below hb3)
  have HBA := Lib.hid hbare
  have HOW := Lib.hid hown
  have HRD := Lib.hid hown.rd
  have HPAR := Lib.hid (HX.out.par (by omega) hbare hown.rd)
  obtain ⟨N, hN⟩ : ∃ N, l.length = N := ⟨_, rfl⟩
  rw [hN] at HOW HRD HPAR
  rw [hN]
  have HN := Lib.hid hN
  have HGE : Hid (w.heap.size < W2.heap.size) := Lib.hid xl
  clear hXX hb3 hown hbare hN x0 x1 x2 x3 x4 xl
  have HPL := Lib.hid (HX.out.parts (by omega))
  have HPP := Lib.hid (show partsD l = partsD X by rw [← HBA.out, partsD_bare])
  go_wp2_with fail
  refine (H.refParts_any _ _ _ l W3 HRD.out HPAR.out.1 HPAR.out.big).mono ?_
  rintro e W4 ⟨v4, l4, rfl, hmap, hown4, hb4⟩
  obtain ⟨pa, pc, rfl⟩ := hown4.slice
  have hPN : l4.length = (partsD X).length := by rw [← HPP.out, ← hmap, List.length_map]
  rw [hPN]
  replace HI := Lib.hid (HI.out.below hb4)
  replace HRD := Lib.hid (HRD.out.below hb4)
  obtain ⟨P, hP⟩ : ∃ P, (partsD X).length = P := ⟨_, rfl⟩
  rw [hP] at HPL
  rw [hP]
  have HP := Lib.hid hP
  have hp1 := HPL.out
  clear hb4 hown4 hmap hPN hP
  go_wp2_with fail
  refine (ord15_any a3 n3 c3 os P _ (RdI.below (B := 0) HO.out HI.out.bel) (by omega)).mono ?_
  rintro e W5 ⟨oa, oc, o1, rfl, hown5, hos5, -, hol5, hb5⟩
  replace HI := Lib.hid (HI.out.below hb5)
  replace HRD := Lib.hid (HRD.out.below hb5)
  have HO1 := Lib.hid (owns_rdI hown5 hos5)
  obtain ⟨M, hM⟩ : ∃ M, o1.length = M := ⟨_, rfl⟩
  rw [hM] at HO1
  rw [hM]
  have hM2 : M * 8 ≤ 140737488355328 := by omega
  clear hb5 hown5 hos5 hol5 hM
  go_wp2_with fail
  refine (H.refParts_any _ _ _ l W5 HRD.out HPAR.out.1 HPAR.out.big).mono ?_
  rintro e W6 ⟨v6, l6, rfl, hmap, hown6, hb6⟩
  obtain ⟨pa6, pc6, rfl⟩ := hown6.slice
  have hPN : l6.length = P := by rw [← HP.out, ← HPP.out, ← hmap, List.length_map]
  rw [hPN]
  replace HI := Lib.hid (HI.out.below hb6)
  replace HRD := Lib.hid (HRD.out.below hb6)
  replace HO1 := Lib.hid (RdI.below (B := 0) HO1.out hb6)
  clear hb6 hown6 hmap hPN
  go_wp2_with fail
  refine (ord15_any none 0 0 [] P _ (nil_rdI15 _) (by omega)).mono ?_
  rintro e W7 ⟨qa, qc, q1, rfl, hown7, hos7, hid7, hol7, hb7⟩
  have hq1 := hid7 rfl
  subst hq1
  have hqn : (toI (List.range P)).length = P := by unfold toI; simp
  rw [hqn] at hown7
  rw [hqn]
  replace HI := Lib.hid (HI.out.below hb7)
  replace HRD := Lib.hid (HRD.out.below hb7)
  replace HO1 := Lib.hid (RdI.below (B := 0) HO1.out hb7)
  have HQ1 := Lib.hid (owns_rdI hown7 hos7)
  have HO3 := Lib.hid (RdI.below (B := 0) HO.out HI.out.bel)
  have hP2 : P * 8 ≤ 140737488355328 := by omega
  have hn8 : n3 * 8 ≤ 140737488355328 := by omega
  have HFT : Hid (fitsB c' l (toI (List.range P)) = true) := Lib.hid (by rw [← fitsB_bare, HBA.out, ← HP.out]; exact HX.out.fits HRT.out)
  clear hb7 hown7 hos7 hid7 hol7 hqn
  have FP := Lib.hid (fun (W : World) (hb : Below W7.heap.size W7 W) => linFits_any c' HU.out ha N hcap l oa M oc o1 W (HRD.out.below hb) HPAR.out (RdI.below (B := 0) HO1.out hb) hM2)
  have GP := Lib.hid (fun (W : World) (hb : Below W7.heap.size W7 W) => refFits_any c' ha N hcap l oa M oc o1 W (HRD.out.below hb) HPAR.out (RdI.below (B := 0) HO1.out hb))
  have FO := Lib.hid (fun (W : World) (hb : Below W7.heap.size W7 W) => linFits_any c' HU.out ha N hcap l a3 n3 c3 os W (HRD.out.below hb) HPAR.out (RdI.below (B := 0) HO3.out hb) hn8)
  have GO := Lib.hid (fun (W : World) (hb : Below W7.heap.size W7 W) => refFits_any c' ha N hcap l a3 n3 c3 os W (HRD.out.below hb) HPAR.out (RdI.below (B := 0) HO3.out hb))
  have FQ := Lib.hid (fun (W : World) (hb : Below W7.heap.size W7 W) => linFits_any c' HU.out ha N hcap l qa P qc (toI (List.range P)) W (HRD.out.below hb) HPAR.out (RdI.below (B := 0) HQ1.out hb) hP2)
  have GQ := Lib.hid (fun (W : World) (hb : Below W7.heap.size W7 W) => refFits_any c' ha N hcap l qa P qc (toI (List.range P)) W (HRD.out.below hb) HPAR.out (RdI.below (B := 0) HQ1.out hb))
  rw [HFT.out] at FQ GQ
  generalize fitsB c' l o1 = b1 at *
  generalize fitsB c' l os = b2 at *
  have e1 : (b1 == b1) = true := by simp
  have e2 : (b2 == b2) = true := by simp
  have HBEL := Lib.hid HI.out.bel
  obtain ⟨x0, x1, x2, x3, x4, xl⟩ := HI.out.cells
  clear HI HRD HO1 HQ1 HO3 HFT HX HX2 HBA HOW HPP
  go_wp2_with fail
  refine wp_region_held_drew (S := (fun w' => Below W7.heap.size W7 w' ∧ (∀ b o, b < W7.heap.size → w'.cell? ⟨b, o, none⟩ = W7.cell? ⟨b, o, none⟩))) (by kernel_rfl) ?_ (fun hHeld => ?_)
  · exact hs_refl (Below.refl _ _).drew
  refine wpAnyH_ready (rs := [0]) (by kernel_rfl) (by simp) ?_
  refine AllReadyH.cons rfl (fun K hK => ?_) AllReadyH.nil
  go_simp
  (go_at_call 14; refine (awake15_any _).mono ?_; rintro e w' ⟨rfl, hb'⟩; go_wp2_with fail)
  refine hK.out _ _ ?_ (fun hHeld => ?_)
  · exact hs_step hHeld hb'
  clear hK K
  try simp only [List.getElem_toArray, List.getElem_cons_succ, List.getElem_cons_zero, Act.put, List.setIfInBounds_toArray, List.set_cons_zero, List.set_cons_succ]
  refine wpAnyH_take (i := 1) (v := ?_) rfl (by kernel_rfl) (by kernel_rfl) (by kernel_rfl) (fun _ _ _ h => h) (Or.inl ⟨by rfl, ?_⟩) (by assumption) ?_
  rotate_left
  · intro w hSw
    (try dsimp only at hSw)
    first | (go_simp; done) | (go_simp; with_reducible rfl)
  try simp only [List.getElem_toArray, List.getElem_cons_succ, List.getElem_cons_zero, Act.put, List.setIfInBounds_toArray, List.set_cons_zero, List.set_cons_succ]
  refine wpAnyH_take (i := 2) (v := ?_) rfl (by kernel_rfl) (by kernel_rfl) (by kernel_rfl) (fun _ _ _ h => h) (Or.inl ⟨by rfl, ?_⟩) (by assumption) ?_
  rotate_left
  · intro w hSw
    (try dsimp only at hSw)
    first | (go_simp; done) | (go_simp; with_reducible rfl)
  try simp only [List.getElem_toArray, List.getElem_cons_succ, List.getElem_cons_zero, Act.put, List.setIfInBounds_toArray, List.set_cons_zero, List.set_cons_succ]
  refine wpAnyH_take (i := 3) (v := ?_) rfl (by kernel_rfl) (by kernel_rfl) (by kernel_rfl) (fun _ _ _ h => h) (Or.inl ⟨by rfl, ?_⟩) (by assumption) ?_
  rotate_left
  · intro w hSw
    (try dsimp only at hSw)
    first | (go_simp; done) | (go_simp; with_reducible rfl)
  try simp only [List.getElem_toArray, List.getElem_cons_succ, List.getElem_cons_zero, Act.put, List.setIfInBounds_toArray, List.set_cons_zero, List.set_cons_succ]
  refine wpAnyH_take (i := 4) (v := ?_) rfl (by kernel_rfl) (by kernel_rfl) (by kernel_rfl) (fun _ _ _ h => h) (Or.inl ⟨by rfl, ?_⟩) (by assumption) ?_
  rotate_left
  · intro w hSw
    (try dsimp only at hSw)
    first | (go_simp; done) | (go_simp; with_reducible rfl)
  try simp only [List.getElem_toArray, List.getElem_cons_succ, List.getElem_cons_zero, Act.put, List.setIfInBounds_toArray, List.set_cons_zero, List.set_cons_succ]
  refine wpAnyH_take (i := 6) (v := ?_) rfl (by kernel_rfl) (by kernel_rfl) (by kernel_rfl) (fun _ _ _ h => h) (Or.inl ⟨by rfl, ?_⟩) (by assumption) ?_
  rotate_left
  · intro w hSw
    (try dsimp only at hSw)
    first | (go_simp; done) | (go_simp; with_reducible rfl)
  try simp only [List.getElem_toArray, List.getElem_cons_succ, List.getElem_cons_zero, Act.put, List.setIfInBounds_toArray, List.set_cons_zero, List.set_cons_succ]
  refine wpAnyH_take (i := 7) (v := ?_) rfl (by kernel_rfl) (by kernel_rfl) (by kernel_rfl) (fun _ _ _ h => h) (Or.inl ⟨by rfl, ?_⟩) (by assumption) ?_
  rotate_left
  · intro w hSw
    (try dsimp only at hSw)
    first | (go_simp; done) | (go_simp; with_reducible rfl)
  try simp only [List.getElem_toArray, List.getElem_cons_succ, List.getElem_cons_zero, Act.put, List.setIfInBounds_toArray, List.set_cons_zero, List.set_cons_succ]
  refine wpAnyH_take (i := 8) (v := ?_) rfl (by kernel_rfl) (by kernel_rfl) (by kernel_rfl) (fun _ _ _ h => h) (Or.inl ⟨by rfl, ?_⟩) (by assumption) ?_
  rotate_left
  · intro w hSw
    (try dsimp only at hSw)
    first | (go_simp; done) | (go_simp; with_reducible rfl)
  try simp only [List.getElem_toArray, List.getElem_cons_succ, List.getElem_cons_zero, Act.put, List.setIfInBounds_toArray, List.set_cons_zero, List.set_cons_succ]
  refine wpAnyH_ready (rs := [5]) (by kernel_rfl) (by simp) ?_
  refine AllReadyH.cons rfl (fun K hK => ?_) AllReadyH.nil
  go_simp
  (go_at_call 15; refine (FP.out _ hHeld.1).mono ?_; rintro e w' ⟨rfl, hb'⟩; go_wp2_with fail)
  refine hK.out _ _ ?_ (fun hHeld => ?_)
  · exact hs_step hHeld hb'
  clear hK K
  try simp only [List.getElem_toArray, List.getElem_cons_succ, List.getElem_cons_zero, Act.put, List.setIfInBounds_toArray, List.set_cons_zero, List.set_cons_succ]
  refine wpAnyH_ready (rs := [9]) (by kernel_rfl) (by simp) ?_
  refine AllReadyH.cons rfl (fun K hK => ?_) AllReadyH.nil
  go_simp
  (go_at_call 16; refine (GP.out _ hHeld.1).mono ?_; rintro e w' ⟨rfl, hb'⟩; go_wp2_with fail)
  refine hK.out _ _ ?_ (fun hHeld => ?_)
  · exact hs_step hHeld hb'
  clear hK K
  try simp only [List.getElem_toArray, List.getElem_cons_succ, List.getElem_cons_zero, Act.put, List.setIfInBounds_toArray, List.set_cons_zero, List.set_cons_succ]
  refine wpAnyH_take (i := 10) (v := ?_) rfl (by kernel_rfl) (by kernel_rfl) (by kernel_rfl) (fun _ _ _ h => h) (Or.inl ⟨by rfl, ?_⟩) (by assumption) ?_
  rotate_left
  · intro w hSw
    (try dsimp only at hSw)
    first | (go_simp; done) | (go_simp; with_reducible rfl)
  try simp only [List.getElem_toArray, List.getElem_cons_succ, List.getElem_cons_zero, Act.put, List.setIfInBounds_toArray, List.set_cons_zero, List.set_cons_succ]
  refine wpAnyH_take (i := 11) (v := ?_) rfl (by kernel_rfl) (by kernel_rfl) (by kernel_rfl) (fun _ _ _ h => h) (Or.inl ⟨by rfl, ?_⟩) (by assumption) ?_
  rotate_left
  · intro w hSw
    (try dsimp only at hSw)
    first | (go_simp; done) | (go_simp; with_reducible rfl)
  try simp only [List.getElem_toArray, List.getElem_cons_succ, List.getElem_cons_zero, Act.put, List.setIfInBounds_toArray, List.set_cons_zero, List.set_cons_succ]
  refine wpAnyH_take (i := 12) (v := ?_) rfl (by kernel_rfl) (by kernel_rfl) (by kernel_rfl) (fun _ _ _ h => h) (Or.inl ⟨by rfl, ?_⟩) (by assumption) ?_
  rotate_left
  · intro w hSw
    (try dsimp only at hSw)
    first | (go_simp; done) | (go_simp; with_reducible rfl)
  try simp only [List.getElem_toArray, List.getElem_cons_succ, List.getElem_cons_zero, Act.put, List.setIfInBounds_toArray, List.set_cons_zero, List.set_cons_succ]
  refine wpAnyH_take (i := 13) (v := ?_) rfl (by kernel_rfl) (by kernel_rfl) (by kernel_rfl) (fun _ _ _ h => h) (Or.inl ⟨by rfl, ?_⟩) (by assumption) ?_
  rotate_left
  · intro w hSw
    (try dsimp only at hSw)
    first | (go_simp; done) | (go_simp; with_reducible rfl)
  try simp only [List.getElem_toArray, List.getElem_cons_succ, List.getElem_cons_zero, Act.put, List.setIfInBounds_toArray, List.set_cons_zero, List.set_cons_succ]
  refine wpAnyH_take (i := 14) (v := ?_) rfl (by kernel_rfl) (by kernel_rfl) (by kernel_rfl) (fun _ _ _ h => h) (Or.inl ⟨by rfl, ?_⟩) (by assumption) ?_
  rotate_left
  · intro w hSw
    (try dsimp only at hSw)
    first | (go_simp; done) | (go_simp; with_reducible rfl)
  try simp only [List.getElem_toArray, List.getElem_cons_succ, List.getElem_cons_zero, Act.put, List.setIfInBounds_toArray, List.set_cons_zero, List.set_cons_succ]
  refine wpAnyH_take (i := 15) (v := ?_) rfl (by kernel_rfl) (by kernel_rfl) (by kernel_rfl) (fun _ _ _ h => h) (Or.inl ⟨by rfl, ?_⟩) (by assumption) ?_
  rotate_left
  · intro w hSw
    (try dsimp only at hSw)
    first | (go_simp; done) | (go_simp; with_reducible rfl)
  try simp only [List.getElem_toArray, List.getElem_cons_succ, List.getElem_cons_zero, Act.put, List.setIfInBounds_toArray, List.set_cons_zero, List.set_cons_succ]
  refine wpAnyH_take (i := 17) (v := ?_) rfl (by kernel_rfl) (by kernel_rfl) (by kernel_rfl) (fun _ _ _ h => h) (Or.inl ⟨by rfl, ?_⟩) (by assumption) ?_
  rotate_left
  · intro w hSw
    (try dsimp only at hSw)
    first | (go_simp; done) | (go_simp; with_reducible rfl)
  try simp only [List.getElem_toArray, List.getElem_cons_succ, List.getElem_cons_zero, Act.put, List.setIfInBounds_toArray, List.set_cons_zero, List.set_cons_succ]
  refine wpAnyH_take (i := 18) (v := ?_) rfl (by kernel_rfl) (by kernel_rfl) (by kernel_rfl) (fun _ _ _ h => h) (Or.inl ⟨by rfl, ?_⟩) (by assumption) ?_
  rotate_left
  · intro w hSw
    (try dsimp only at hSw)
    first | (go_simp; done) | (go_simp; with_reducible rfl)
  try simp only [List.getElem_toArray, List.getElem_cons_succ, List.getElem_cons_zero, Act.put, List.setIfInBounds_toArray, List.set_cons_zero, List.set_cons_succ]
  refine wpAnyH_take (i := 19) (v := ?_) rfl (by kernel_rfl) (by kernel_rfl) (by kernel_rfl) (fun _ _ _ h => h) (Or.inl ⟨by rfl, ?_⟩) (by assumption) ?_
  rotate_left
  · intro w hSw
    (try dsimp only at hSw)
    first | (go_simp; done) | (go_simp; with_reducible rfl)
  try simp only [List.getElem_toArray, List.getElem_cons_succ, List.getElem_cons_zero, Act.put, List.setIfInBounds_toArray, List.set_cons_zero, List.set_cons_succ]
  refine wpAnyH_ready (rs := [16]) (by kernel_rfl) (by simp) ?_
  refine AllReadyH.cons rfl (fun K hK => ?_) AllReadyH.nil
  go_simp
  (go_at_call 15; refine (FO.out _ hHeld.1).mono ?_; rintro e w' ⟨rfl, hb'⟩; go_wp2_with fail)
  refine hK.out _ _ ?_ (fun hHeld => ?_)
  · exact hs_step hHeld hb'
  clear hK K
  try simp only [List.getElem_toArray, List.getElem_cons_succ, List.getElem_cons_zero, Act.put, List.setIfInBounds_toArray, List.set_cons_zero, List.set_cons_succ]
  refine wpAnyH_ready (rs := [20]) (by kernel_rfl) (by simp) ?_
  refine AllReadyH.cons rfl (fun K hK => ?_) AllReadyH.nil
  go_simp
  (go_at_call 16; refine (GO.out _ hHeld.1).mono ?_; rintro e w' ⟨rfl, hb'⟩; go_wp2_with fail)
  refine hK.out _ _ ?_ (fun hHeld => ?_)
  · exact hs_step hHeld hb'
  clear hK K
  try simp only [List.getElem_toArray, List.getElem_cons_succ, List.getElem_cons_zero, Act.put, List.setIfInBounds_toArray, List.set_cons_zero, List.set_cons_succ]
  refine wpAnyH_take (i := 21) (v := ?_) rfl (by kernel_rfl) (by kernel_rfl) (by kernel_rfl) (fun _ _ _ h => h) (Or.inl ⟨by rfl, ?_⟩) (by assumption) ?_
  rotate_left
  · intro w hSw
    (try dsimp only at hSw)
    first | (go_simp; done) | (go_simp; with_reducible rfl)
  try simp only [List.getElem_toArray, List.getElem_cons_succ, List.getElem_cons_zero, Act.put, List.setIfInBounds_toArray, List.set_cons_zero, List.set_cons_succ]
  refine wpAnyH_take (i := 22) (v := ?_) rfl (by kernel_rfl) (by kernel_rfl) (by kernel_rfl) (fun _ _ _ h => h) (Or.inl ⟨by rfl, ?_⟩) (by assumption) ?_
  rotate_left
  · intro w hSw
    (try dsimp only at hSw)
    first | (go_simp; done) | (go_simp; with_reducible rfl)
  try simp only [List.getElem_toArray, List.getElem_cons_succ, List.getElem_cons_zero, Act.put, List.setIfInBounds_toArray, List.set_cons_zero, List.set_cons_succ]
  refine wpAnyH_take (i := 23) (v := ?_) rfl (by kernel_rfl) (by kernel_rfl) (by kernel_rfl) (fun _ _ _ h => h) (Or.inl ⟨by rfl, ?_⟩) (by assumption) ?_
  rotate_left
  · intro w hSw
    (try dsimp only at hSw)
    first | (go_simp; done) | (go_simp; with_reducible rfl)
  try simp only [List.getElem_toArray, List.getElem_cons_succ, List.getElem_cons_zero, Act.put, List.setIfInBounds_toArray, List.set_cons_zero, List.set_cons_succ]
  refine wpAnyH_take (i := 24) (v := ?_) rfl (by kernel_rfl) (by kernel_rfl) (by kernel_rfl) (fun _ _ _ h => h) (Or.inl ⟨by rfl, ?_⟩) (by assumption) ?_
  rotate_left
  · intro w hSw
    (try dsimp only at hSw)
    first | (go_simp; done) | (go_simp; with_reducible rfl)
  try simp only [List.getElem_toArray, List.getElem_cons_succ, List.getElem_cons_zero, Act.put, List.setIfInBounds_toArray, List.set_cons_zero, List.set_cons_succ]
  refine wpAnyH_take (i := 25) (v := ?_) rfl (by kernel_rfl) (by kernel_rfl) (by kernel_rfl) (fun _ _ _ h => h) (Or.inl ⟨by rfl, ?_⟩) (by assumption) ?_
  rotate_left
  · intro w hSw
    (try dsimp only at hSw)
    first | (go_simp; done) | (go_simp; with_reducible rfl)
  try simp only [List.getElem_toArray, List.getElem_cons_succ, List.getElem_cons_zero, Act.put, List.setIfInBounds_toArray, List.set_cons_zero, List.set_cons_succ]
  refine wpAnyH_take (i := 26) (v := ?_) rfl (by kernel_rfl) (by kernel_rfl) (by kernel_rfl) (fun _ _ _ h => h) (Or.inl ⟨by rfl, ?_⟩) (by assumption) ?_
  rotate_left
  · intro w hSw
    (try dsimp only at hSw)
    first | (go_simp; done) | (go_simp; with_reducible rfl)
  try simp only [List.getElem_toArray, List.getElem_cons_succ, List.getElem_cons_zero, Act.put, List.setIfInBounds_toArray, List.set_cons_zero, List.set_cons_succ]
  refine wpAnyH_ready (rs := [27]) (by kernel_rfl) (by simp) ?_
  refine AllReadyH.cons rfl (fun K hK => ?_) AllReadyH.nil
  go_simp
  (go_at_call 15; refine (FQ.out _ hHeld.1).mono ?_; rintro e w' ⟨rfl, hb'⟩; go_wp2_with fail)
  refine hK.out _ _ ?_ (fun hHeld => ?_)
  · exact hs_step hHeld hb'
  clear hK K
  try simp only [List.getElem_toArray, List.getElem_cons_succ, List.getElem_cons_zero, Act.put, List.setIfInBounds_toArray, List.set_cons_zero, List.set_cons_succ]
  refine wpAnyH_take (i := 28) (v := ?_) rfl (by kernel_rfl) (by kernel_rfl) (by kernel_rfl) (fun _ _ _ h => h) (Or.inl ⟨by rfl, ?_⟩) (by assumption) ?_
  rotate_left
  · intro w hSw
    (try dsimp only at hSw)
    first | (go_simp; done) | (go_simp; with_reducible rfl)
  try simp only [List.getElem_toArray, List.getElem_cons_succ, List.getElem_cons_zero, Act.put, List.setIfInBounds_toArray, List.set_cons_zero, List.set_cons_succ]
  refine wpAnyH_take (i := 29) (v := ?_) rfl (by kernel_rfl) (by kernel_rfl) (by kernel_rfl) (fun _ _ _ h => h) (Or.inl ⟨by rfl, ?_⟩) (by assumption) ?_
  rotate_left
  · intro w hSw
    (try dsimp only at hSw)
    first | (go_simp; done) | (go_simp; with_reducible rfl)
  try simp only [List.getElem_toArray, List.getElem_cons_succ, List.getElem_cons_zero, Act.put, List.setIfInBounds_toArray, List.set_cons_zero, List.set_cons_succ]
  refine wpAnyH_take (i := 30) (v := ?_) rfl (by kernel_rfl) (by kernel_rfl) (by kernel_rfl) (fun _ _ _ h => h) (Or.inl ⟨by rfl, ?_⟩) (by assumption) ?_
  rotate_left
  · intro w hSw
    (try dsimp only at hSw)
    first | (go_simp; done) | (go_simp; with_reducible rfl)
  try simp only [List.getElem_toArray, List.getElem_cons_succ, List.getElem_cons_zero, Act.put, List.setIfInBounds_toArray, List.set_cons_zero, List.set_cons_succ]
  refine wpAnyH_take (i := 31) (v := ?_) rfl (by kernel_rfl) (by kernel_rfl) (by kernel_rfl) (fun _ _ _ h => h) (Or.inl ⟨by rfl, ?_⟩) (by assumption) ?_
  rotate_left
  · intro w hSw
    (try dsimp only at hSw)
    first | (go_simp; done) | (go_simp; with_reducible rfl)
  try simp only [List.getElem_toArray, List.getElem_cons_succ, List.getElem_cons_zero, Act.put, List.setIfInBounds_toArray, List.set_cons_zero, List.set_cons_succ]
  refine wpAnyH_take (i := 32) (v := ?_) rfl (by kernel_rfl) (by kernel_rfl) (by kernel_rfl) (fun _ _ _ h => h) (Or.inl ⟨by rfl, ?_⟩) (by assumption) ?_
  rotate_left
  · intro w hSw
    (try dsimp only at hSw)
    first | (go_simp; done) | (go_simp; with_reducible rfl)
  try simp only [List.getElem_toArray, List.getElem_cons_succ, List.getElem_cons_zero, Act.put, List.setIfInBounds_toArray, List.set_cons_zero, List.set_cons_succ]
  refine wpAnyH_ready (rs := [33]) (by kernel_rfl) (by simp) ?_
  refine AllReadyH.cons rfl (fun K hK => ?_) AllReadyH.nil
  go_simp
  (go_at_call 16; refine (GQ.out _ hHeld.1).mono ?_; rintro e w' ⟨rfl, hb'⟩; go_wp2_with fail)
  refine hK.out _ _ ?_ (fun hHeld => ?_)
  · exact hs_step hHeld hb'
  clear hK K
  try simp only [List.getElem_toArray, List.getElem_cons_succ, List.getElem_cons_zero, Act.put, List.setIfInBounds_toArray, List.set_cons_zero, List.set_cons_succ]
  refine wpAnyH_take (i := 34) (v := ?_) rfl (by kernel_rfl) (by kernel_rfl) (by kernel_rfl) (fun _ _ _ h => h) (Or.inl ⟨by rfl, ?_⟩) (by assumption) ?_
  rotate_left
  · intro w hSw
    (try dsimp only at hSw)
    first | (go_simp; done) | (go_simp; with_reducible rfl)
  try simp only [List.getElem_toArray, List.getElem_cons_succ, List.getElem_cons_zero, Act.put, List.setIfInBounds_toArray, List.set_cons_zero, List.set_cons_succ]
  refine wpAnyH_take (i := 35) (v := ?_) rfl (by kernel_rfl) (by kernel_rfl) (by kernel_rfl) (fun _ _ _ h => h) (Or.inl ⟨by rfl, ?_⟩) (by assumption) ?_
  rotate_left
  · intro w hSw
    (try dsimp only at hSw)
    first | (go_simp; done) | (go_simp; with_reducible rfl)
  try simp only [List.getElem_toArray, List.getElem_cons_succ, List.getElem_cons_zero, Act.put, List.setIfInBounds_toArray, List.set_cons_zero, List.set_cons_succ]
  refine wpAnyH_done (by kernel_rfl) ?_ _
  go_wp2
  go_ret
  exact ⟨rfl, HBEL.out.trans (hHeld.1.mono HBEL.out.size)⟩
theorem LinFits_any (w : World) (c : List Value) (w0 : FlatOk [.int .i64, .int .i64, .int .i64, .int .i64, .int .u64] c) (ao : Option Addr) (n cap : Nat) (L : List (List Value)) (h1 : IsRows w [.int .i64, .int .i64, .int .i64, .int .i64] ao n cap L) (s1 : n ≤ 1048576)
    (a1 : Option Addr) (n1 c1 : Nat) (L1 : List (List Value)) (h2 : IsRows w [.int .i64] a1 n1 c1 L1) (s2 : n1 ≤ 1048576) (a2 : Option Addr) (n2 c2 : Nat) (L2 : List (List Value)) (h3 : IsRows w [.int .i64] a2 n2 c2 L2) (s3 : n2 ≤ 1048576) (a3 : Option Addr) (n3 c3 : Nat) (L3 : List (List Value)) (h4 : IsRows w [.int .i64] a3 n3 c3 L3) (s4 : n3 ≤ 1048576) :
    Calls Tryz.prog 3 #[.agg c.toArray, .slice ao n cap, .slice a1 n1 c1, .slice a2 n2 c2, .slice a3 n3 c3] w fun e w' => e = .returned (.bool true) ∧ Below w.heap.size w w' := by
  obtain ⟨d, rfl, hu⟩ := cfg_of w0
  obtain ⟨l, r1⟩ := isRows_rdC h1
  obtain ⟨x, r2⟩ := isRows_rdI h2
  obtain ⟨y, r3⟩ := isRows_rdI h3
  obtain ⟨z, r4⟩ := isRows_rdI h4
  exact linFits_in d hu ao a1 a2 a3 n n1 n2 n3 cap c1 c2 c3 l x y z w r1 r2 r3 r4 s1 s4
end Go.Proofs.YtdjooacjjnjfmaaGreat
