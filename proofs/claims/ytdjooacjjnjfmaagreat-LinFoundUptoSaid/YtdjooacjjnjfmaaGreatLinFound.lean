/- LinFound: what was done by a model, whatever its spans are, has an order; what is found fits, and no order that fits is less, number by number. -/
import Derived.Test.YtdjooacjjnjfmaaGreatHc
namespace Go.Proofs.YtdjooacjjnjfmaaGreat
set_option linter.unusedVariables false
set_option linter.unusedSimpArgs false
set_option maxRecDepth 20000
open Go.RowKit Go.Proofs.YtdjooacjjnjfmaaGreatMem Go.Proofs.YtdjooacjjnjfmaaGreatFlat Go.Proofs.YtdjooacjjnjfmaaGreatMapK Go.Proofs.YtdjooacjjnjfmaaGreatLin H

theorem leL_at : ∀ (i : Nat) {q p : List Nat}, leL q p → i < q.length → i < p.length → (∀ j, j < i → nth (toI q) j = nth (toI p) j) → nth (toI q) i ≤ nth (toI p) i
  | 0, [], p, _, h, _, _ => by simp at h
  | 0, a :: q, [], h, _, _, _ => h.elim
  | 0, a :: q, b :: p, h, _, _, _ => by
    show (a : Int) ≤ (b : Int)
    rcases h with h | ⟨h, -⟩ <;> omega
  | i + 1, [], p, _, h, _, _ => by simp at h
  | i + 1, a :: q, [], h, _, _, _ => h.elim
  | i + 1, a :: q, b :: p, h, h1, h2, hj => by
    have h0 : (a : Int) = (b : Int) := hj 0 (by omega)
    rcases h with h | ⟨-, h⟩
    · omega
    · exact leL_at i h (by simpa using h1) (by simpa using h2) fun j hlt => hj (j + 1) (by omega)
set_option maxHeartbeats 4000000 in
theorem linFound_in (c : Cfg) (hu : W64 c.unit) (ao a1 a2 a3 : Option Addr) (n0 n1 n2 n3 c0 c1 c2 c3 : Nat) (cs : List CallS) (ws rs os : List Int) (w : World) (h : RdC w ao n0 c0 cs) (hw : RdI w a1 n1 c1 ws) (hr : RdI w a2 n2 c2 rs) (ho : RdI w a3 n3 c3 os) (hn : n0 ≤ 1048576) :
    Calls Tryz.prog 6 #[.agg #[.int .i64 c.shards, .int .i64 c.slots, .int .i64 c.workers, .int .i64 c.width, .int .u64 c.unit], .slice ao n0 c0, .slice a1 n1 c1, .slice a2 n2 c2, .slice a3 n3 c3] w fun e w' => e = .returned (.bool true) ∧ Below w.heap.size w w' := by
  have HC := Lib.hid h
  have HW := Lib.hid hw
  have HR := Lib.hid hr
  have HO := Lib.hid ho
  clear h hw hr ho
  have I := CfgIn.start w c
  have C0 := config_any c hu
  have hcR := confP_r15 c hu
  have hR := confP_right c hu
  have hu' := (confP_ok c hu).unit
  go_enter Tryz.func6, Tryz.ntmps6
  go_upto_region 1 with fail
  generalize (w.alloc (.cells #[.int .i64 c.shards, .int .i64 c.slots, .int .i64 c.workers, .int .i64 c.width, .int .u64 c.unit] 24)) = W at *
  obtain ⟨x0, x1, x2, x3, x4, xl⟩ := I.cells
  have HI := Lib.hid I
  clear I
  go_wp2_with fail
  refine (C0 _).mono ?_
  rintro e W1 ⟨rfl, hb1⟩
  replace HI : Hid (CfgIn w W1 c) := Lib.hid (HI.out.below hb1)
  clear hb1 x0 x1 x2 x3 x4 xl C0
  obtain ⟨x0, x1, x2, x3, x4, xl⟩ := HI.out.cells
  obtain ⟨f0, f1, f2, f3, f4⟩ := HI.out.frozen
  replace HI := Lib.hid (HI.out.set (confP c))
  obtain ⟨c', hcc⟩ : ∃ c', confP c = c' := ⟨_, rfl⟩
  rw [hcc] at HI hcR hR hu'
  rw [hcc]
  have HCR := Lib.hid hcR
  have HRT := Lib.hid hR
  have HU := Lib.hid hu'
  clear hcc hcR hR hu'
  go_upto_region 2 with fail
  generalize (((((W1.setCell ⟨w.heap.size, 0, none⟩ (.int .i64 c'.shards)).setCell ⟨w.heap.size, 1, none⟩ (.int .i64 c'.slots)).setCell ⟨w.heap.size, 2, none⟩ (.int .i64 c'.workers)).setCell ⟨w.heap.size, 3, none⟩ (.int .i64 c'.width)).setCell ⟨w.heap.size, 4, none⟩ (.int .u64 c'.unit)) = W2 at *
  clear x0 x1 x2 x3 x4 xl f0 f1 f2 f3 f4
  obtain ⟨x0, x1, x2, x3, x4, xl⟩ := HI.out.cells
  go_wp2_with fail
  refine (made15_any c' HCR.out ao a1 a2 n0 n1 n2 c0 c1 c2 cs ws rs 9 _ (HC.out.below HI.out.bel) (RdI.below (B := 0) HW.out HI.out.bel) (RdI.below (B := 0) HR.out HI.out.bel) hn (by omega)).mono ?_
  rintro e W3 ⟨ha, hcap, l, rfl, hown, hbare, hb3⟩
  have HX := Lib.hid (made_x c' cs ws rs 9)
  have HX2 := Lib.hid (made_two c' cs ws rs 9 (by omega))
  obtain ⟨X, hXX⟩ : ∃ X, (madeS c' cs ws rs 9).out = X := ⟨_, rfl⟩
  rw [hXX] at HX hbare HX2
  replace HI := Lib.hid (HI.out.below hb3)
  have HBA := Lib.hid hbare
  have HOW := Lib.hid hown
  have HRD := Lib.hid hown.rd
  have HPAR := Lib.hid (HX.out.par (by omega) hbare hown.rd)
  obtain ⟨N, hN⟩ : ∃ N, l.length = N := ⟨_, rfl⟩
  rw [hN] at HOW HRD HPAR
  rw [hN]
  have HN := Lib.hid hN
  have HGE : Hid (w.heap.size < W2.heap.size) := Lib.hid xl
  clear hXX hb3 hown hbare hN x0 x1 x2 x3 x4 xl
  have HPL := Lib.hid (HX.out.parts (by omega))
  have HPP := Lib.hid (show partsD l = partsD X by rw [← HBA.out, partsD_bare])
  go_wp2_with fail
  refine (H.refParts_any _ _ _ l W3 HRD.out HPAR.out.1 HPAR.out.big).mono ?_
  rintro e W4 ⟨v4, l4, rfl, hmap, hown4, hb4⟩
  obtain ⟨pa, pc, rfl⟩ := hown4.slice
  have hPN : l4.length = (partsD X).length := by rw [← HPP.out, ← hmap, List.length_map]
  rw [hPN]
  replace HI := Lib.hid (HI.out.below hb4)
  replace HRD := Lib.hid (HRD.out.below hb4)
  obtain ⟨P, hP⟩ : ∃ P, (partsD X).length = P := ⟨_, rfl⟩
  rw [hP] at HPL
  rw [hP]
  have HP := Lib.hid hP
  have hp1 := HPL.out
  have HFT : Hid (fitsB c' l (toI (List.range P)) = true) := Lib.hid (by rw [← fitsB_bare, HBA.out, ← HP.out]; exact HX.out.fits HRT.out)
  have HPL2 : Hid ((partsD l).length = P) := Lib.hid (by rw [HPP.out, HP.out])
  clear hb4 hown4 hmap hPN hP HX HX2 HBA HOW HPP
  obtain ⟨x0, x1, x2, x3, x4, xl⟩ := HI.out.cells
  have hS := linSearch_any c' HU.out ha N hcap l W4 HRD.out HPAR.out
  by_cases h12 : P ≤ 12
  · have n12 : (P : Int) ≤ 12 := by omega
    obtain ⟨q, hf, -⟩ := fits_found HFT.out (by rw [HPL2.out]; exact h12)
    have HFI := Lib.hid (found_fits hf).1
    have hql : q.length = P := by rw [(found_fits hf).2.1, HPL2.out]
    have HF := Lib.hid hf
    rw [hf] at hS
    have HS := Lib.hid hS
    clear hS hf
    go_wp2_with fail
    refine HS.out.mono ?_
    rintro e W5 ⟨hret, hb5⟩
    obtain ⟨qa, qc, rfl, hrow⟩ := hret
    replace HI := Lib.hid (HI.out.below hb5)
    replace HRD := Lib.hid (HRD.out.below hb5)
    have HQ := Lib.hid (owns_rdI hrow (fun z hz => by
      unfold toI at hz
      obtain ⟨i, hi, rfl⟩ := List.mem_map.1 hz
      have := fnd_lt_found HF.out i hi
      unfold I64
      omega))
    rw [hql] at HQ
    rw [hql]
    have HQL := Lib.hid hql
    clear hb5 hrow hql x0 x1 x2 x3 x4 xl HS
    go_wp2_with fail
    refine (awake15_any W5).mono ?_
    rintro e W6 ⟨rfl, hb6⟩
    replace HI := Lib.hid (HI.out.below hb6)
    replace HRD := Lib.hid (HRD.out.below hb6)
    replace HQ := Lib.hid (RdI.below (B := 0) HQ.out hb6)
    clear hb6
    obtain ⟨x0, x1, x2, x3, x4, xl⟩ := HI.out.cells
    go_wp2_with fail
    refine (linFits_any c' HU.out ha N hcap l qa P qc (toI q) W6 HRD.out HPAR.out HQ.out (by omega)).mono ?_
    rw [HFI.out]
    rintro e W7 ⟨rfl, hb7⟩
    replace HI := Lib.hid (HI.out.below hb7)
    replace HRD := Lib.hid (HRD.out.below hb7)
    replace HQ := Lib.hid (RdI.below (B := 0) HQ.out hb7)
    clear hb7 x0 x1 x2 x3 x4 xl
    go_wp2_with fail
    refine (ord15_any a3 n3 c3 os P W7 (RdI.below (B := 0) HO.out HI.out.bel) (by omega)).mono ?_
    rintro e W8 ⟨oa, oc, o1, rfl, hown8, hos8, -, hol8, hb8⟩
    replace HI := Lib.hid (HI.out.below hb8)
    replace HRD := Lib.hid (HRD.out.below hb8)
    replace HQ := Lib.hid (RdI.below (B := 0) HQ.out hb8)
    have HO1 := Lib.hid (owns_rdI hown8 hos8)
    obtain ⟨M, hM⟩ : ∃ M, o1.length = M := ⟨_, rfl⟩
    rw [hM] at HO1 hol8
    rw [hM]
    have HM := Lib.hid hM
    clear hb8 hown8 hos8 hM
    obtain ⟨x0, x1, x2, x3, x4, xl⟩ := HI.out.cells
    have HFO := Lib.hid (linFits_any c' HU.out ha N hcap l oa M oc o1 W8 HRD.out HPAR.out HO1.out (by omega))
    go_wp2_with fail
    refine HFO.out.mono ?_
    rintro e W9 ⟨rfl, hb9⟩
    replace HI := Lib.hid (HI.out.below hb9)
    replace HQ := Lib.hid (RdI.below (B := 0) HQ.out hb9)
    replace HO1 := Lib.hid (RdI.below (B := 0) HO1.out hb9)
    clear hb9 x0 x1 x2 x3 x4 xl HFO
    cases hfo : fitsB c' l o1 with
    | false =>
      go_wp2
      go_ret
      exact ⟨rfl, HI.out.bel⟩
    | true =>
      have hMP : M = P := by rw [← HM.out, fits_length hfo, HPL2.out]
      subst hMP
      obtain ⟨q', hq', p, hp, hle⟩ := fits_found hfo (by rw [HPL2.out]; exact h12)
      rw [HF.out] at hq'
      cases hq'
      have hpl : p.length = M := by rw [← HM.out, hp]; unfold toI; simp
      have HLE : Hid (∀ i, i < M → (∀ j, j < i → nth (toI q) j = nth o1 j) → nth (toI q) i ≤ nth o1 i) := Lib.hid fun i hi hj => by
        rw [hp] at hj ⊢
        exact leL_at i hle (by rw [HQL.out]; exact hi) (by rw [hpl]; exact hi) hj
      have hbel := HI.out.bel
      have HBEL := Lib.hid hbel
      clear hfo hp hle hpl hbel HI HRD
      generalize hW9 : W9 = WF at *
      clear hW9
      go_wp2_with fail
      go_loopw [16] (fun v16 wr => ∃ i : Nat, i ≤ M ∧ v16 = .int .i64 i ∧ Below WF.heap.size WF wr ∧ ∀ j, j < i → nth (toI q) j = nth o1 j) (fun v16 _ => M - (intOf v16).toNat)
      case atStart => exact ⟨0, Nat.zero_le _, rfl, Below.refl _ _, fun j hj => by omega⟩
      case round =>
        obtain ⟨i, hi, rfl, hbr, hj⟩ := hrel
        by_cases hl : i < M
        · have i1 : (i : Int) < (M : Int) := by omega
          have hle := HLE.out i hl hj
          obtain ⟨b1, f1, e1, hl1, k1⟩ := (RdI.below (B := 0) HQ.out hbr).at_ i hl
          obtain ⟨b2, f2, e2, hl2, k2⟩ := (RdI.below (B := 0) HO1.out hbr).at_ i hl
          subst e1 e2
          have HJ := Lib.hid hj
          have HBR := Lib.hid hbr
          clear hj hbr
          generalize hz1 : nth (toI q) i = z1 at *
          generalize hz2 : nth o1 i = z2 at *
          replace hz1 := Lib.hid hz1
          replace hz2 := Lib.hid hz2
          by_cases hz : z2 = z1
          · have t1 : (z2 != z1) = false := by simp [hz]
            have HZ := Lib.hid hz
            clear hz hle
            go_wp2_with fail
            go_quiet (fail)
            go_wp2
            go_roundw
            case rel =>
              refine ⟨i + 1, by omega, by go_num, ⟨HBR.out.os, HBR.out.tape, HBR.out.output, HBR.out.size, HBR.out.block⟩, fun j hj => ?_⟩
              by_cases e : j = i
              · subst e; rw [hz1.out, hz2.out, HZ.out]
              · exact HJ.out j (by omega)
            case measure => simp [intOf]; omega
          · have t1 : (z2 != z1) = true := by simp [hz]
            have t2 : z1 < z2 := by omega
            clear hz hle
            go_wp2_with fail
            go_quiet (fail)
            go_wp2_with fail
            go_quiet (fail)
            go_wp2
            go_ret
            exact ⟨by first | rfl | simp, HBEL.out.trans (Below.mono (B := WF.heap.size) ⟨HBR.out.os, HBR.out.tape, HBR.out.output, HBR.out.size, HBR.out.block⟩ HBEL.out.size)⟩
        · obtain rfl : i = M := by omega
          have i1 : ¬ (i : Int) < (i : Int) := by omega
          go_wp2
          go_ret
          exact ⟨rfl, HBEL.out.trans (hbr.mono HBEL.out.size)⟩
  · have n12 : ¬ (P : Int) ≤ 12 := by omega
    have hf : foundB c' l = none := by unfold foundB; rw [if_neg (by rw [HPL2.out]; omega)]
    rw [hf] at hS
    have HS := Lib.hid hS
    clear hS hf
    go_wp2_with fail
    refine HS.out.mono ?_
    rintro e W5 ⟨hret, hb5⟩
    have hret : e = .returned (.tuple #[.slice none 0 0, .bool false]) := hret
    subst hret
    replace HI := Lib.hid (HI.out.below hb5)
    clear hb5 x0 x1 x2 x3 x4 xl HS
    go_wp2_with fail
    refine (awake15_any W5).mono ?_
    rintro e W7 ⟨rfl, hb7⟩
    replace HI := Lib.hid (HI.out.below hb7)
    clear hb7
    go_wp2
    go_ret
    exact ⟨rfl, HI.out.bel⟩
theorem LinFound_any (w : World) (c : List Value) (w0 : FlatOk [.int .i64, .int .i64, .int .i64, .int .i64, .int .u64] c) (ao : Option Addr) (n cap : Nat) (L : List (List Value)) (h1 : IsRows w [.int .i64, .int .i64, .int .i64, .int .i64] ao n cap L) (s1 : n ≤ 1048576)
    (a1 : Option Addr) (n1 c1 : Nat) (L1 : List (List Value)) (h2 : IsRows w [.int .i64] a1 n1 c1 L1) (s2 : n1 ≤ 1048576) (a2 : Option Addr) (n2 c2 : Nat) (L2 : List (List Value)) (h3 : IsRows w [.int .i64] a2 n2 c2 L2) (s3 : n2 ≤ 1048576) (a3 : Option Addr) (n3 c3 : Nat) (L3 : List (List Value)) (h4 : IsRows w [.int .i64] a3 n3 c3 L3) (s4 : n3 ≤ 1048576) :
    Calls Tryz.prog 6 #[.agg c.toArray, .slice ao n cap, .slice a1 n1 c1, .slice a2 n2 c2, .slice a3 n3 c3] w fun e w' => e = .returned (.bool true) ∧ Below w.heap.size w w' := by
  obtain ⟨d, rfl, hu⟩ := cfg_of w0
  obtain ⟨l, r1⟩ := isRows_rdC h1
  obtain ⟨x, r2⟩ := isRows_rdI h2
  obtain ⟨y, r3⟩ := isRows_rdI h3
  obtain ⟨z, r4⟩ := isRows_rdI h4
  exact linFound_in d hu ao a1 a2 a3 n n1 n2 n3 cap c1 c2 c3 l x y z w r1 r2 r3 r4 s1
end Go.Proofs.YtdjooacjjnjfmaaGreat
