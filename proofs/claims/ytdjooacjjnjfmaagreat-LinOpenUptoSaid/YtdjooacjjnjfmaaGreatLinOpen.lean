/- LinOpen: while a call has not ended, or two of one worker overlap, or the config is not right, nothing fits. -/
import Derived.Test.YtdjooacjjnjfmaaGreatJc
namespace Go.Proofs.YtdjooacjjnjfmaaGreat
set_option linter.unusedVariables false
set_option linter.unusedSimpArgs false
set_option maxRecDepth 20000
open Go.RowKit Go.Proofs.YtdjooacjjnjfmaaGreatMem Go.Proofs.YtdjooacjjnjfmaaGreatFlat Go.Proofs.YtdjooacjjnjfmaaGreatMapK Go.Proofs.YtdjooacjjnjfmaaGreatLin H

theorem may_workers (c : Cfg) (l : List DoneS) : mayB { c with workers := 0 } l = false := by
  have : Cfg.right { c with workers := 0 } = false := by
    unfold Cfg.right inB
    simp
  unfold mayB
  rw [this]
  rfl
theorem may_open {c : Cfg} {l : List DoneS} {k : Nat} (hk : k < l.length) (h : (nthD l k).to = -1) : mayB c l = false := by
  have : l.all endedB = false := by
    rw [List.all_eq_false]
    refine ⟨nthD l k, by rw [nthD_eq hk]; exact List.getElem_mem _, ?_⟩
    show ¬ (decide ((nthD l k).to ≠ -1)) = true
    simp [h]
  unfold mayB
  rw [this]
  simp
theorem may_twice {c : Cfg} {l : List DoneS} {k : Nat} (hk : k < l.length) (x : DoneS) (h : x.who = (nthD l k).who ∧ x.place < (nthD l k).place ∧ (nthD l k).fr ≤ x.to) : mayB c (l ++ [x]) = false := by
  have e1 : nthD (l ++ [x]) l.length = x := by unfold nthD; simp
  have e2 : nthD (l ++ [x]) k = nthD l k := by
    unfold nthD
    rw [List.getD_eq_getElem?_getD, List.getElem?_append_left hk, List.getD_eq_getElem?_getD]
  have : pairsB (l ++ [x]) = false := by
    refine pairs_false (i := l.length) (k := k) (by simp) hk ?_
    rw [e1, e2]
    unfold apartB
    rw [if_neg (by simp [h.1]), if_pos h.2.1]
    show (H.endedB x && decide (x.to < (nthD l k).fr)) = false
    rw [show decide (x.to < (nthD l k).fr) = false from decide_eq_false (by omega)]
    simp
  unfold mayB rightH
  rw [this]
  simp
theorem may_wrap {c : Cfg} {l : List DoneS} {k : Nat} (hk : k < l.length) (h : (nthD l k).place < 0) (y : DoneS) : mayB c (l ++ [y]) = false := by
  have e2 : nthD (l ++ [y]) k = nthD l k := by
    unfold nthD
    rw [List.getD_eq_getElem?_getD, List.getElem?_append_left hk, List.getD_eq_getElem?_getD]
  have : (l ++ [y]).all rightD = false := by
    rw [List.all_eq_false]
    refine ⟨nthD l k, List.mem_append_left _ (by rw [nthD_eq hk]; exact List.getElem_mem _), ?_⟩
    unfold rightD
    simp
    omega
  unfold mayB rightH
  rw [this]
  simp
theorem found_no {c : Cfg} {l : List DoneS} (h : mayB c l = false) : foundB c l = none := by
  unfold foundB
  rw [if_neg (by rw [h]; simp)]
theorem fits_no {c : Cfg} {l : List DoneS} (o : List Int) (h : mayB c l = false) : fitsB c l o = false := by
  unfold fitsB
  rw [h]
  rfl
theorem ownDs_setR {w : World} {base g n cap k : Nat} {l : List DoneS} {d' : DoneS} (h : OwnDs w base (.slice (some ⟨g, 0, none⟩) n cap) l) (hn : l.length = n) (hk : k < n) (hd : OwnK w base d') :
    OwnDs (w.setCells g (k * 12) d'.cells) base (.slice (some ⟨g, 0, none⟩) n cap) (l.set k d') := by
  have h1 := h.1
  rw [hn] at h1
  have hg : w.grownBy (w.setCells g (k * 12) d'.cells) (some g) := by rw [setCells_put]; exact putCells_grown _ _ _ _
  have hne : ∀ d, OwnK w base d → OwnK (w.setCells g (k * 12) d'.cells) base d := fun d hd => ⟨owns_grown hd.1 hg fun q hq => by
    have := tag_ne h.1 hd.1 (by decide) q hq
    exact this, hd.2⟩
  refine ⟨?_, fun d hd' => ?_⟩
  · rw [List.length_set, hn]
    exact owns_setRec doneS_cells h1 hk d' hn
  · rcases List.mem_or_eq_of_mem_set hd' with hd' | rfl
    · exact hne d (h.2 d hd')
    · exact hne _ hd
theorem below_setCells15 {B : Nat} {w w' : World} {g : Nat} (h : Below B w w') (hg : B ≤ g) (o : Nat) (us : List Value) : Below B w (w'.setCells g o us) := by
  induction us generalizing w' o with
  | nil => exact h
  | cons u us ih => exact ih (h.setCell (p := ⟨g, o, none⟩) hg u) (o + 1)
theorem parts_small {w : World} {ao : Option Addr} {n cap : Nat} {l : List DoneS} (r : RdD w ao n cap l) (h : ParOk n l) (hn : n ≤ 9) : (partsD l).length ≤ 909 := by
  have := partsD_length (m := 100) l fun d hd => by have h1 := h.2 d hd; have h2 := (r.ok d hd).2.len; omega
  have := r.len
  have : l.length * 101 ≤ 9 * 101 := Nat.mul_le_mul (by omega) (Nat.le_refl _)
  omega
theorem setCells_far15 {w : World} {g b : Nat} (hne : b ≠ g) (o : Nat) (us : List Value) : (w.setCells g o us).heap[b]? = w.heap[b]? := by
  induction us generalizing w o with
  | nil => rfl
  | cons u us ih => exact (ih (o + 1)).trans (Below.heap_setCell w ⟨g, o, none⟩ u b hne)
theorem wrap_1000 {p : Int} (h : I64 p) : wrap64 (p + 1000) < 0 ∨ p < wrap64 (p + 1000) := by
  unfold I64 at h
  unfold wrap64
  omega
theorem i64_wrap (p : Int) : I64 (wrap64 p) := by
  unfold I64 wrap64
  omega
set_option maxHeartbeats 4000000 in
theorem linOpen_in (c : Cfg) (hu : W64 c.unit) (ao a1 a2 : Option Addr) (n0 n1 n2 c0 c1 c2 : Nat) (cs : List CallS) (ws rs : List Int) (at_ : Int) (w : World) (h : RdC w ao n0 c0 cs) (hw : RdI w a1 n1 c1 ws) (hr : RdI w a2 n2 c2 rs) (hat : I64 at_) (hn : n0 ≤ 1048576) :
    Calls Tryz.prog 8 #[.agg #[.int .i64 c.shards, .int .i64 c.slots, .int .i64 c.workers, .int .i64 c.width, .int .u64 c.unit], .slice ao n0 c0, .slice a1 n1 c1, .slice a2 n2 c2, .int .i64 at_] w fun e w' => e = .returned (.bool true) ∧ Below w.heap.size w w' := by
  have HC := Lib.hid h
  have HW := Lib.hid hw
  have HR := Lib.hid hr
  clear h hw hr
  have I := CfgIn.start w c
  have C0 := config_any c hu
  have hcR := confP_r15 c hu
  have hR := confP_right c hu
  have hu' := (confP_ok c hu).unit
  go_enter Tryz.func8, Tryz.ntmps8
  go_upto_region 1 with fail
  generalize (w.alloc (.cells #[.int .i64 c.shards, .int .i64 c.slots, .int .i64 c.workers, .int .i64 c.width, .int .u64 c.unit] 24)) = W at *
  obtain ⟨x0, x1, x2, x3, x4, xl⟩ := I.cells
  have HI := Lib.hid I
  clear I
  go_wp2_with fail
  refine (C0 _).mono ?_
  rintro e W1 ⟨rfl, hb1⟩
  replace HI : Hid (CfgIn w W1 c) := Lib.hid (HI.out.below hb1)
  clear hb1 x0 x1 x2 x3 x4 xl C0
  obtain ⟨x0, x1, x2, x3, x4, xl⟩ := HI.out.cells
  obtain ⟨f0, f1, f2, f3, f4⟩ := HI.out.frozen
  replace HI := Lib.hid (HI.out.set (confP c))
  obtain ⟨c', hcc⟩ : ∃ c', confP c = c' := ⟨_, rfl⟩
  rw [hcc] at HI hcR hR hu'
  rw [hcc]
  have HCR := Lib.hid hcR
  have HRT := Lib.hid hR
  have HU := Lib.hid hu'
  clear hcc hcR hR hu'
  go_upto_region 2 with fail
  generalize (((((W1.setCell ⟨w.heap.size, 0, none⟩ (.int .i64 c'.shards)).setCell ⟨w.heap.size, 1, none⟩ (.int .i64 c'.slots)).setCell ⟨w.heap.size, 2, none⟩ (.int .i64 c'.workers)).setCell ⟨w.heap.size, 3, none⟩ (.int .i64 c'.width)).setCell ⟨w.heap.size, 4, none⟩ (.int .u64 c'.unit)) = W2 at *
  clear x0 x1 x2 x3 x4 xl f0 f1 f2 f3 f4
  obtain ⟨x0, x1, x2, x3, x4, xl⟩ := HI.out.cells
  go_wp2_with fail
  refine (made15_any c' HCR.out ao a1 a2 n0 n1 n2 c0 c1 c2 cs ws rs 8 _ (HC.out.below HI.out.bel) (RdI.below (B := 0) HW.out HI.out.bel) (RdI.below (B := 0) HR.out HI.out.bel) hn (by omega)).mono ?_
  rintro e W3 ⟨ha, hcap, l, rfl, hown, hbare, hb3⟩
  have HX := Lib.hid (made_x c' cs ws rs 8)
  have HX2 := Lib.hid (made_two c' cs ws rs 8 (by omega))
  obtain ⟨X, hXX⟩ : ∃ X, (madeS c' cs ws rs 8).out = X := ⟨_, rfl⟩
  rw [hXX] at HX hbare HX2
  replace HI := Lib.hid (HI.out.below hb3)
  have HBA := Lib.hid hbare
  have HOW := Lib.hid hown
  have HRD := Lib.hid hown.rd
  have HPAR := Lib.hid (HX.out.par (by omega) hbare hown.rd)
  obtain ⟨N, hN⟩ : ∃ N, l.length = N := ⟨_, rfl⟩
  rw [hN] at HOW HRD HPAR
  rw [hN]
  have HN := Lib.hid hN
  have HGE : Hid (w.heap.size < W2.heap.size) := Lib.hid xl
  clear hXX hb3 hown hbare hN x0 x1 x2 x3 x4 xl
  have hNX : N = X.length := by rw [← HN.out, ← HBA.out, List.length_map]
  have hN2 : 2 ≤ N := by have := HX2.out; omega
  have hN8 : N ≤ 8 := by have := HX.out.len; omega
  clear hNX
  have HPL := Lib.hid (HX.out.parts (by omega))
  have HPP := Lib.hid (show partsD l = partsD X by rw [← HBA.out, partsD_bare])
  go_wp2_with fail
  refine (H.refParts_any _ _ _ l W3 HRD.out HPAR.out.1 HPAR.out.big).mono ?_
  rintro e W4 ⟨v4, l4, rfl, hmap, hown4, hb4⟩
  obtain ⟨pa, pc, rfl⟩ := hown4.slice
  have hPN : l4.length = (partsD X).length := by rw [← HPP.out, ← hmap, List.length_map]
  rw [hPN]
  replace HI := Lib.hid (HI.out.below hb4)
  replace HOW := Lib.hid (HOW.out.below hb4)
  obtain ⟨P, hP⟩ : ∃ P, (partsD X).length = P := ⟨_, rfl⟩
  rw [hP] at HPL
  rw [hP]
  have HP := Lib.hid hP
  have hp1 := HPL.out
  clear hb4 hown4 hmap hPN hP
  go_wp2_with fail
  refine (ord15_any none 0 0 [] P _ (nil_rdI15 _) (by omega)).mono ?_
  rintro e W5 ⟨qa, qc, q1, rfl, hown5, hos5, hid5, hol5, hb5⟩
  have hq1 := hid5 rfl
  subst hq1
  have hqn : (toI (List.range P)).length = P := by unfold toI; simp
  rw [hqn] at hown5
  rw [hqn]
  replace HI := Lib.hid (HI.out.below hb5)
  replace HOW := Lib.hid (HOW.out.below hb5)
  have HQ1 := Lib.hid (owns_rdI hown5 hos5)
  have hP2 : P * 8 ≤ 140737488355328 := by omega
  have HFT : Hid (fitsB c' l (toI (List.range P)) = true) := Lib.hid (by rw [← fitsB_bare, HBA.out, ← HP.out]; exact HX.out.fits HRT.out)
  clear hb5 hown5 hos5 hid5 hol5 hqn HRD
  obtain ⟨x0, x1, x2, x3, x4, xl⟩ := HI.out.cells
  go_wp2_with fail
  refine (awake15_any W5).mono ?_
  rintro e W6 ⟨rfl, hb6⟩
  replace HI := Lib.hid (HI.out.below hb6)
  replace HOW := Lib.hid (HOW.out.below hb6)
  replace HQ1 := Lib.hid (RdI.below (B := 0) HQ1.out hb6)
  clear hb6 x0 x1 x2 x3 x4 xl
  obtain ⟨x0, x1, x2, x3, x4, xl⟩ := HI.out.cells
  have HRD := Lib.hid (show RdD W6 ha N hcap l by have := HOW.out; rw [← HN.out] at this ⊢; exact this.rd)
  go_wp2_with fail
  refine (linFits_any c' HU.out ha N hcap l qa P qc (toI (List.range P)) W6 HRD.out HPAR.out HQ1.out hP2).mono ?_
  rw [HFT.out]
  rintro e W7 ⟨rfl, hb7⟩
  replace HI := Lib.hid (HI.out.below hb7)
  replace HOW := Lib.hid (HOW.out.below hb7)
  replace HRD := Lib.hid (HRD.out.below hb7)
  replace HQ1 := Lib.hid (RdI.below (B := 0) HQ1.out hb7)
  clear hb7 x0 x1 x2 x3 x4 xl HFT
  obtain ⟨x0, x1, x2, x3, x4, xl⟩ := HI.out.cells
  go_upto_if 42 with fail
  go_cut [] from 20 to 131 (fun wx => Below W7.heap.size W7 wx)
  case first =>
    by_cases h12 : P ≤ 12
    · have n12 : (P : Int) ≤ 12 := by omega
      go_wp2_with fail
      have hba := below1 W7 (.cells #[.int .i64 c'.shards, .int .i64 c'.slots, .int .i64 0, .int .i64 c'.width, .int .u64 c'.unit] 24)
      have bB : Blk (W7.alloc (.cells #[.int .i64 c'.shards, .int .i64 c'.slots, .int .i64 0, .int .i64 c'.width, .int .u64 c'.unit] 24)) W7.heap.size ({ c' with workers := 0 } : Cfg).cells 24 := Blk.new W7 ({ c' with workers := 0 } : Cfg).cells 24
      have HRB := Lib.hid (HRD.out.below hba)
      have HQB := Lib.hid (RdI.below (B := 0) HQ1.out hba)
      have HBA7 := Lib.hid hba
      have HBB := Lib.hid bB
      clear hba bB
      generalize W7.alloc (.cells #[.int .i64 c'.shards, .int .i64 c'.slots, .int .i64 0, .int .i64 c'.width, .int .u64 c'.unit] 24) = WB at *
      have hS := linSearch_any { c' with workers := 0 } HU.out ha N hcap l WB HRB.out HPAR.out
      rw [found_no (may_workers c' l)] at hS
      refine hS.mono ?_
      rintro e W8 ⟨hret, hb8⟩
      have hret : e = .returned (.tuple #[.slice none 0 0, .bool false]) := hret
      subst hret
      replace HBB := Lib.hid (HBB.out.below hb8)
      replace HRB := Lib.hid (HRB.out.below hb8)
      replace HQB := Lib.hid (RdI.below (B := 0) HQB.out hb8)
      have HB8 := Lib.hid (HBA7.out.trans (hb8.mono HBA7.out.size))
      clear hS hb8 x0 x1 x2 x3 x4 xl
      have y0 : W8.cell? ⟨W7.heap.size, 0, none⟩ = some (.int .i64 c'.shards) := HBB.out.cell 0
      have y1 : W8.cell? ⟨W7.heap.size, 1, none⟩ = some (.int .i64 c'.slots) := HBB.out.cell 1
      have y2 : W8.cell? ⟨W7.heap.size, 2, none⟩ = some (.int .i64 0) := HBB.out.cell 2
      have y3 : W8.cell? ⟨W7.heap.size, 3, none⟩ = some (.int .i64 c'.width) := HBB.out.cell 3
      have y4 : W8.cell? ⟨W7.heap.size, 4, none⟩ = some (.int .u64 c'.unit) := HBB.out.cell 4
      have yl := HBB.out.lt
      go_wp2_with fail
      refine (linFits_any { c' with workers := 0 } HU.out ha N hcap l qa P qc (toI (List.range P)) W8 HRB.out HPAR.out HQB.out hP2).mono ?_
      rw [fits_no _ (may_workers c' l)]
      rintro e W9 ⟨rfl, hb9⟩
      go_wp2
      go_meet
      exact HB8.out.trans (hb9.mono HB8.out.size)
    · have n12 : ¬ (P : Int) ≤ 12 := by omega
      go_wp2
      go_meet
      exact Below.refl _ _
  case rest =>
  replace HI := Lib.hid (HI.out.below hcut)
  replace HOW := Lib.hid (HOW.out.below hcut)
  replace HQ1 := Lib.hid (RdI.below (B := 0) HQ1.out hcut)
  clear HRD x0 x1 x2 x3 x4 xl
  have HGW : Hid (W2.heap.size ≤ wc.heap.size) := Lib.hid (by
    rcases HOW.out.1.2 with ⟨hv, hn⟩ | ⟨g, cap', cur, hv, hg, hh, _⟩
    · have := HN.out; omega
    · have : g < wc.heap.size := by
        rcases Nat.lt_or_ge g wc.heap.size with hlt | hge
        · exact hlt
        · rw [Array.getElem?_eq_none hge] at hh; cases hh
      omega)
  clear hcut
  obtain ⟨g0, rfl⟩ : ∃ g, ha = some ⟨g, 0, none⟩ := by
    rcases HOW.out.1.2 with ⟨hv, hv2⟩ | ⟨g, cap', cur, hv, _⟩
    · have := HN.out; omega
    · cases hv; exact ⟨g, rfl⟩
  have hk0 := modZ_bd at_ (n := (N : Int)) (by omega)
  obtain ⟨k, hk⟩ : ∃ k : Nat, modZ at_ (N : Int) = (k : Int) := ⟨(modZ at_ (N : Int)).toNat, by omega⟩
  have hkN : k < N := by omega
  have hkN2 : (k : Int) < (N : Int) := by omega
  have HK := Lib.hid hk
  clear hk hk0
  go_wp2_with fail
  refine (mod_any at_ N (by omega) (by omega) _).mono ?_
  rw [HK.out]
  rintro e w' ⟨rfl, rfl⟩
  have HSRC : Hid (∀ j u, (doneC l)[j]? = some u → ∃ b off, (some ⟨g0, 0, none⟩ : Option Addr) = some ⟨b, off, none⟩ ∧ wc.cell? ⟨b, off + j, none⟩ = some u) := Lib.hid fun j u hu => by
    have hown := HOW.out.1
    rw [HN.out] at hown
    obtain ⟨g, e, -, -, hc⟩ := owns_at hown hu
    exact ⟨g, 0, e, hc⟩
  go_upto_region 14 with ((at_builtin; refine ap_src wc ED rfl _ _ rfl W2.heap.size _ 0 [] rfl (World.ownsRow_nil _ _ _ _) HGW.out (some ⟨g0, 0, none⟩) N hcap (doneC l) rfl (fun h => by cases h) (by rw [doneC_length, HN.out]) HSRC.out (doneC_one l) (by omega) ?_; intro v' W8 hown8 hg8 hb8 hfr8))
  have b8 : Below wc.heap.size wc W8 := (Below.refl _ wc).grown hg8 (Nat.le_refl _) (fun q hq => by cases hq)
  rw [Nat.zero_add, List.nil_append] at hown8
  obtain ⟨g8, c8, rfl, hg8w⟩ : ∃ g c, v' = .slice (some ⟨g, 0, none⟩) N c ∧ wc.heap.size ≤ g := by
    rcases hown8.2 with ⟨hv, hn⟩ | ⟨g, cap', cur, hv, hg, _⟩
    · omega
    · refine ⟨g, cap', hv, ?_⟩
      subst hv
      rcases hfr8 with h | h
      · cases h
      · exact h g rfl
  have G8 : OwnDs W8 W2.heap.size (.slice (some ⟨g8, 0, none⟩) N c8) l := ⟨by rw [HN.out]; exact hown8, fun d hd => (HOW.out.2 d hd).below b8⟩
  have gl := (owns_lt hown8 g8 rfl).2
  obtain ⟨y11, z11⟩ := ownDs_at12 G8 (i := 11) HN.out hkN (by omega)
  have y11 : W8.cell? ⟨g8, k * 12 + 11, none⟩ = some (.int .i64 (nthD l k).to) := y11
  have hlk : k < l.length := by rw [HN.out]; exact hkN
  have hdk := HOW.out.2 (nthD l k) (by rw [nthD_eq hlk]; exact List.getElem_mem _)
  have okT : ({ nthD l k with «to» := -1 } : DoneS).Ok := by
    have h := hdk.2.1
    unfold DoneS.Ok at h ⊢
    exact ⟨h.1, h.2.1, h.2.2.1, h.2.2.2.1, h.2.2.2.2.1, h.2.2.2.2.2.1, h.2.2.2.2.2.2.1, h.2.2.2.2.2.2.2.1, h.2.2.2.2.2.2.2.2.1, h.2.2.2.2.2.2.2.2.2.1, by unfold I64; simp⟩
  have G9 := ownDs_set1 G8 (i := 11) (u := .int .i64 (-1)) (d' := { nthD l k with «to» := -1 }) HN.out hkN (by omega) rfl ⟨(hdk.below b8).1, okT, hdk.2.2⟩
  have b9 : Below wc.heap.size wc (W8.setCell ⟨g8, k * 12 + 11, none⟩ (.int .i64 (-1))) := b8.setCell (p := ⟨g8, k * 12 + 11, none⟩) hg8w _
  have HM9 : Hid (mayB c' (l.set k { nthD l k with «to» := -1 }) = false) := Lib.hid (may_open (k := k) (by rw [List.length_set]; exact hlk) (by rw [nthD_set hlk]))
  have HL9 : Hid ((l.set k { nthD l k with «to» := -1 }).length = N) := Lib.hid (by rw [List.length_set]; exact HN.out)
  have HPAR9 : Hid (ParOk N (l.set k { nthD l k with «to» := -1 })) := Lib.hid ⟨by omega, fun d hd => by
    rcases List.mem_or_eq_of_mem_set hd with hd | rfl
    · exact HPAR.out.2 d hd
    · exact HPAR.out.2 (nthD l k) (by rw [nthD_eq hlk]; exact List.getElem_mem _)⟩
  have HG9 := Lib.hid G9
  have HB9 := Lib.hid b9
  have HG8W := Lib.hid hg8w
  clear G8 G9 b8 b9 hown8 hg8 hb8 hfr8 okT hdk hlk HSRC hg8w
  go_upto_region 15 with fail
  generalize W8.setCell ⟨g8, k * 12 + 11, none⟩ (.int .i64 (-1)) = W9 at *
  generalize hl9 : l.set k { nthD l k with «to» := -1 } = l9 at *
  have HE9 := Lib.hid hl9
  clear hl9 y11 z11 gl
  replace HI := Lib.hid (HI.out.below HB9.out)
  have HRD9 : Hid (RdD W9 (some ⟨g8, 0, none⟩) N c8 l9) := Lib.hid (by have := HG9.out; exact this.rd)
  obtain ⟨x0, x1, x2, x3, x4, xl⟩ := HI.out.cells
  have hS := linSearch_any c' HU.out (some ⟨g8, 0, none⟩) N c8 l9 W9 HRD9.out HPAR9.out
  rw [found_no HM9.out] at hS
  have HS := Lib.hid hS
  clear hS
  go_wp2_with fail
  refine HS.out.mono ?_
  rintro e W10 ⟨hret, hb10⟩
  have hret : e = .returned (.tuple #[.slice none 0 0, .bool false]) := hret
  subst hret
  replace HI := Lib.hid (HI.out.below hb10)
  replace HRD9 := Lib.hid (HRD9.out.below hb10)
  have HG10 := Lib.hid (HG9.out.below hb10)
  have HB10 := Lib.hid (below_step HB9.out hb10)
  have HQ10 := Lib.hid (RdI.below (B := 0) HQ1.out HB10.out)
  clear hb10 x0 x1 x2 x3 x4 xl HS HG9 HB9
  obtain ⟨x0, x1, x2, x3, x4, xl⟩ := HI.out.cells
  have FR := Lib.hid (fun (W : World) (hb : Below W10.heap.size W10 W) => H.refParts_any _ _ _ l9 W ((HRD9.out).below hb) (HPAR9.out).1 (HPAR9.out).big)
  have FF := Lib.hid (fun (W : World) (hb : Below W10.heap.size W10 W) (oa : Option Addr) (on oc : Nat) (o : List Int) (ho : RdI W oa on oc o) (h8 : on * 8 ≤ 140737488355328) => linFits_any c' HU.out (some ⟨g8, 0, none⟩) N c8 l9 oa on oc o W ((HRD9.out).below hb) (HPAR9.out) ho h8)
  have HPS := Lib.hid (parts_small (HRD9.out) (HPAR9.out) (by omega))
  go_wp2_with fail
  refine wp_region_held_drew (S := (fun w' => Below W10.heap.size W10 w' ∧ (∀ b o, b < W10.heap.size → w'.cell? ⟨b, o, none⟩ = W10.cell? ⟨b, o, none⟩))) (by kernel_rfl) ?_ (fun hHeld => ?_)
  · exact hs_refl (Below.refl _ _).drew
  refine wpAnyH_take (i := 0) (v := ?_) rfl (by kernel_rfl) (by kernel_rfl) (by kernel_rfl) (fun _ _ _ h => h) (Or.inl ⟨by rfl, ?_⟩) (by assumption) ?_
  rotate_left
  · intro w hSw
    (try dsimp only at hSw)
    first | (go_simp; done) | (go_simp; with_reducible rfl)
  try simp only [List.getElem_toArray, List.getElem_cons_succ, List.getElem_cons_zero, Act.put, List.setIfInBounds_toArray, List.set_cons_zero, List.set_cons_succ]
  refine wpAnyH_take (i := 1) (v := ?_) rfl (by kernel_rfl) (by kernel_rfl) (by kernel_rfl) (fun _ _ _ h => h) (Or.inl ⟨by rfl, ?_⟩) (by assumption) ?_
  rotate_left
  · intro w hSw
    (try dsimp only at hSw)
    first | (go_simp; done) | (go_simp; with_reducible rfl)
  try simp only [List.getElem_toArray, List.getElem_cons_succ, List.getElem_cons_zero, Act.put, List.setIfInBounds_toArray, List.set_cons_zero, List.set_cons_succ]
  refine wpAnyH_take (i := 2) (v := ?_) rfl (by kernel_rfl) (by kernel_rfl) (by kernel_rfl) (fun _ _ _ h => h) (Or.inl ⟨by rfl, ?_⟩) (by assumption) ?_
  rotate_left
  · intro w hSw
    (try dsimp only at hSw)
    first | (go_simp; done) | (go_simp; with_reducible rfl)
  try simp only [List.getElem_toArray, List.getElem_cons_succ, List.getElem_cons_zero, Act.put, List.setIfInBounds_toArray, List.set_cons_zero, List.set_cons_succ]
  refine wpAnyH_take (i := 3) (v := ?_) rfl (by kernel_rfl) (by kernel_rfl) (by kernel_rfl) (fun _ _ _ h => h) (Or.inl ⟨by rfl, ?_⟩) (by assumption) ?_
  rotate_left
  · intro w hSw
    (try dsimp only at hSw)
    first | (go_simp; done) | (go_simp; with_reducible rfl)
  try simp only [List.getElem_toArray, List.getElem_cons_succ, List.getElem_cons_zero, Act.put, List.setIfInBounds_toArray, List.set_cons_zero, List.set_cons_succ]
  refine wpAnyH_take (i := 4) (v := ?_) rfl (by kernel_rfl) (by kernel_rfl) (by kernel_rfl) (fun _ _ _ h => h) (Or.inl ⟨by rfl, ?_⟩) (by assumption) ?_
  rotate_left
  · intro w hSw
    (try dsimp only at hSw)
    first | (go_simp; done) | (go_simp; with_reducible rfl)
  try simp only [List.getElem_toArray, List.getElem_cons_succ, List.getElem_cons_zero, Act.put, List.setIfInBounds_toArray, List.set_cons_zero, List.set_cons_succ]
  refine wpAnyH_ready (rs := [5]) (by kernel_rfl) (by simp) ?_
  refine AllReadyH.cons rfl (fun K hK => ?_) AllReadyH.nil
  go_simp
  (go_at_call 15; refine (FF.out _ hHeld.1 qa P qc (toI (List.range P)) (RdI.below (B := 0) HQ10.out hHeld.1) hP2).mono ?_; rw [fits_no _ HM9.out]; rintro e w' ⟨rfl, hb'⟩; go_wp2_with fail)
  refine hK.out _ _ ?_ (fun hHeld => ?_)
  · exact hs_step hHeld hb'
  clear hK K
  try simp only [List.getElem_toArray, List.getElem_cons_succ, List.getElem_cons_zero, Act.put, List.setIfInBounds_toArray, List.set_cons_zero, List.set_cons_succ]
  refine wpAnyH_take (i := 6) (v := ?_) rfl (by kernel_rfl) (by kernel_rfl) (by kernel_rfl) (fun _ _ _ h => h) (Or.inl ⟨by rfl, ?_⟩) (by assumption) ?_
  rotate_left
  · intro w hSw
    (try dsimp only at hSw)
    first | (go_simp; done) | (go_simp; with_reducible rfl)
  try simp only [List.getElem_toArray, List.getElem_cons_succ, List.getElem_cons_zero, Act.put, List.setIfInBounds_toArray, List.set_cons_zero, List.set_cons_succ]
  refine wpAnyH_take (i := 7) (v := ?_) rfl (by kernel_rfl) (by kernel_rfl) (by kernel_rfl) (fun _ _ _ h => h) (Or.inl ⟨by rfl, ?_⟩) (by assumption) ?_
  rotate_left
  · intro w hSw
    (try dsimp only at hSw)
    first | (go_simp; done) | (go_simp; with_reducible rfl)
  try simp only [List.getElem_toArray, List.getElem_cons_succ, List.getElem_cons_zero, Act.put, List.setIfInBounds_toArray, List.set_cons_zero, List.set_cons_succ]
  refine wpAnyH_take (i := 8) (v := ?_) rfl (by kernel_rfl) (by kernel_rfl) (by kernel_rfl) (fun _ _ _ h => h) (Or.inl ⟨by rfl, ?_⟩) (by assumption) ?_
  rotate_left
  · intro w hSw
    (try dsimp only at hSw)
    first | (go_simp; done) | (go_simp; with_reducible rfl)
  try simp only [List.getElem_toArray, List.getElem_cons_succ, List.getElem_cons_zero, Act.put, List.setIfInBounds_toArray, List.set_cons_zero, List.set_cons_succ]
  refine wpAnyH_take (i := 9) (v := ?_) rfl (by kernel_rfl) (by kernel_rfl) (by kernel_rfl) (fun _ _ _ h => h) (Or.inl ⟨by rfl, ?_⟩) (by assumption) ?_
  rotate_left
  · intro w hSw
    (try dsimp only at hSw)
    first | (go_simp; done) | (go_simp; with_reducible rfl)
  try simp only [List.getElem_toArray, List.getElem_cons_succ, List.getElem_cons_zero, Act.put, List.setIfInBounds_toArray, List.set_cons_zero, List.set_cons_succ]
  refine wpAnyH_take (i := 10) (v := ?_) rfl (by kernel_rfl) (by kernel_rfl) (by kernel_rfl) (fun _ _ _ h => h) (Or.inl ⟨by rfl, ?_⟩) (by assumption) ?_
  rotate_left
  · intro w hSw
    (try dsimp only at hSw)
    first | (go_simp; done) | (go_simp; with_reducible rfl)
  try simp only [List.getElem_toArray, List.getElem_cons_succ, List.getElem_cons_zero, Act.put, List.setIfInBounds_toArray, List.set_cons_zero, List.set_cons_succ]
  refine wpAnyH_ready (rs := [11]) (by kernel_rfl) (by simp) ?_
  refine AllReadyH.cons rfl (fun K hK => ?_) AllReadyH.nil
  go_simp
  (go_at_call 13; refine (FR.out _ hHeld.1).mono ?_; rintro e w' ⟨v11, l11, rfl, hmap11, hown11, hb'⟩; obtain ⟨pa11, pc11, rfl⟩ := hown11.slice; have HP11 : Hid (l11.length ≤ 909) := Lib.hid (by have h1 := congrArg List.length hmap11; rw [List.length_map] at h1; rw [h1]; exact HPS.out); clear hmap11 hown11; go_wp2_with fail)
  refine hK.out _ _ ?_ (fun hHeld => ?_)
  · exact hs_step hHeld hb'
  clear hK K
  try simp only [List.getElem_toArray, List.getElem_cons_succ, List.getElem_cons_zero, Act.put, List.setIfInBounds_toArray, List.set_cons_zero, List.set_cons_succ]
  refine wpAnyH_take (i := 12) (v := ?_) rfl (by kernel_rfl) (by kernel_rfl) (by kernel_rfl) (fun _ _ _ h => h) (Or.inl ⟨by rfl, ?_⟩) (by assumption) ?_
  rotate_left
  · intro w hSw
    (try dsimp only at hSw)
    first | (go_simp; done) | (go_simp; with_reducible rfl)
  try simp only [List.getElem_toArray, List.getElem_cons_succ, List.getElem_cons_zero, Act.put, List.setIfInBounds_toArray, List.set_cons_zero, List.set_cons_succ]
  refine wpAnyH_ready (rs := [13]) (by kernel_rfl) (by simp) ?_
  refine AllReadyH.cons rfl (fun K hK => ?_) AllReadyH.nil
  go_simp
  (go_at_call 12; refine (ord15_any none 0 0 [] l11.length _ (nil_rdI15 _) (by have := HP11.out; omega)).mono ?_; rintro e w' ⟨qa2, qc2, q2, rfl, hown13, hos13, -, hol13, hb'⟩; have HQ13 := Lib.hid (owns_rdI hown13 hos13); have HQL13 : Hid (q2.length * 8 ≤ 140737488355328) := Lib.hid (by have := HP11.out; omega); clear hown13 hos13 hol13; go_wp2_with fail)
  refine hK.out _ _ ?_ (fun hHeld => ?_)
  · exact hs_step hHeld hb'
  clear hK K
  try simp only [List.getElem_toArray, List.getElem_cons_succ, List.getElem_cons_zero, Act.put, List.setIfInBounds_toArray, List.set_cons_zero, List.set_cons_succ]
  refine wpAnyH_ready (rs := [14]) (by kernel_rfl) (by simp) ?_
  refine AllReadyH.cons rfl (fun K hK => ?_) AllReadyH.nil
  go_simp
  (go_at_call 15; refine (FF.out _ hHeld.1 qa2 q2.length qc2 q2 HQ13.out HQL13.out).mono ?_; rw [fits_no _ HM9.out]; rintro e w' ⟨rfl, hb'⟩; go_wp2_with fail)
  refine hK.out _ _ ?_ (fun hHeld => ?_)
  · exact hs_step hHeld hb'
  clear hK K
  try simp only [List.getElem_toArray, List.getElem_cons_succ, List.getElem_cons_zero, Act.put, List.setIfInBounds_toArray, List.set_cons_zero, List.set_cons_succ]
  refine wpAnyH_take (i := 15) (v := ?_) rfl (by kernel_rfl) (by kernel_rfl) (by kernel_rfl) (fun _ _ _ h => h) (Or.inl ⟨by rfl, ?_⟩) (by assumption) ?_
  rotate_left
  · intro w hSw
    (try dsimp only at hSw)
    first | (go_simp; done) | (go_simp; with_reducible rfl)
  try simp only [List.getElem_toArray, List.getElem_cons_succ, List.getElem_cons_zero, Act.put, List.setIfInBounds_toArray, List.set_cons_zero, List.set_cons_succ]
  refine wpAnyH_done (by kernel_rfl) ?_ _
  have hS10 := hHeld.1
  clear hHeld FR FF HPS x0 x1 x2 x3 x4 xl
  generalize hw11 : w' = W11 at *
  clear hw11
  replace HI := Lib.hid (HI.out.below hS10)
  have HG11 := Lib.hid (HG10.out.below hS10)
  have HB11 := Lib.hid (below_step HB10.out hS10)
  clear hS10 HRD9 HG10 HB10 HQ10
  have hlk : k < l.length := by rw [HN.out]; exact hkN
  have hdk := HOW.out.2 (nthD l k) (by rw [nthD_eq hlk]; exact List.getElem_mem _)
  have HRNG : Hid (W11.rangeAt g0 (k * 12) (nthD l k).cells) := Lib.hid fun j v hv => by
    have hown := (owns_below (B := 0) HOW.out.1 HB11.out)
    rw [HN.out] at hown
    obtain ⟨g, e, -, -, hc⟩ := owns_at hown (recs_at doneS_cells l k (nthD l k) (nthD_some hlk) j v hv)
    cases e
    rw [Nat.zero_add] at hc
    exact hc
  have HTH : Hid (W11.there g8 (k * 12) 12) := Lib.hid (owns_there (by have := HG11.out.1; rw [HL9.out] at this; exact this) hkN)
  have g12 := ownDs_setR HG11.out HL9.out hkN (hdk.below HB11.out)
  rw [← HE9.out, List.set_set] at g12
  have b12 : Below wc.heap.size wc (W11.setCells g8 (k * 12) (nthD l k).cells) := below_setCells15 HB11.out HG8W.out _ _
  have hgw : w.heap.size < g8 := by have h1 := HG8W.out; have h2 := HGW.out; have h3 := HGE.out; omega
  have i12 : CfgIn w (W11.setCells g8 (k * 12) (nthD l k).cells) c' := ⟨below_setCells15 HI.out.bel (Nat.le_of_lt hgw) _ _, HI.out.box.of_eq (setCells_far15 (by omega) _ _)⟩
  have HG12 := Lib.hid g12
  have HB12 := Lib.hid b12
  replace HI := Lib.hid i12
  clear g12 b12 i12 HG11 HB11
  go_upto_region 19 with (first
    | (refine wpList_load_mid rfl _ _ rfl g0 (k * 12) rfl (nthD l k).cells _ HRNG.out Tryz.underlying42 rfl (by kernel_rfl) ?_)
    | (refine wpList_store_mid rfl _ _ _ rfl g8 (k * 12) (nthD l k).cells.toArray rfl rfl HTH.out (by kernel_rfl) (by simp [DoneS.cells, Value.oneCell']) ?_))
  generalize W11.setCells g8 (k * 12) (nthD l k).cells = W12 at *
  have HL12 : Hid ((l.set k (nthD l k)).length = N) := Lib.hid (by rw [List.length_set]; exact HN.out)
  have hoh := HOW.out.below HB12.out
  have p1 : W12.cell? ⟨g0, k * 12 + 1, none⟩ = some (.int .i64 (nthD l k).place) := (ownDs_at12 hoh (i := 1) HN.out hkN (by omega)).1
  obtain ⟨y1, z1⟩ := ownDs_at12 HG12.out (i := 1) HL12.out hkN (by omega)
  rw [nthD_set hlk] at y1
  have y1 : W12.cell? ⟨g8, k * 12 + 1, none⟩ = some (.int .i64 (nthD l k).place) := y1
  have gl0 := (owns_lt hoh.1 g0 rfl).2
  have gl8 := (owns_lt HG12.out.1 g8 rfl).2
  have okP : ({ nthD l k with place := wrap64 ((nthD l k).place + 1000) } : DoneS).Ok := by
    have h := hdk.2.1
    unfold DoneS.Ok at h ⊢
    exact ⟨h.1, i64_wrap _, h.2.2⟩
  have g13 := ownDs_set1 HG12.out (i := 1) (u := .int .i64 (wrap64 ((nthD l k).place + 1000))) (d' := { nthD l k with place := wrap64 ((nthD l k).place + 1000) }) HL12.out hkN (by omega) (by rw [nthD_set hlk]; rfl) ⟨(hdk.below HB12.out).1, okP, hdk.2.2⟩
  rw [List.set_set] at g13
  have HG13 := Lib.hid g13
  have HB13 := Lib.hid (HB12.out.setCell (p := ⟨g8, k * 12 + 1, none⟩) HG8W.out (.int .i64 (wrap64 ((nthD l k).place + 1000))))
  have i13 := HI.out.far (i := k * 12 + 1) hgw (.int .i64 (wrap64 ((nthD l k).place + 1000)))
  have HI13 := Lib.hid i13
  have HPW := Lib.hid (wrap_1000 hdk.2.1.2.1)
  have HDK := Lib.hid hdk
  clear okP hoh g13 i13 HI HG12 HB12 hdk HRNG HTH
  go_upto_region 20 with fail
  generalize W12.setCell ⟨g8, k * 12 + 1, none⟩ (.int .i64 (wrap64 ((nthD l k).place + 1000))) = W13 at *
  clear p1 y1 z1 gl0 gl8
  generalize wrap64 ((nthD l k).place + 1000) = pl at *
  have HRNG : Hid (W13.rangeAt g0 (k * 12) (nthD l k).cells) := Lib.hid fun j v hv => by
    have hown := (owns_below (B := 0) HOW.out.1 HB13.out)
    rw [HN.out] at hown
    obtain ⟨g, e, -, -, hc⟩ := owns_at hown (recs_at doneS_cells l k (nthD l k) (nthD_some hlk) j v hv)
    cases e
    rw [Nat.zero_add] at hc
    exact hc
  have HL13 : Hid ((l.set k { nthD l k with place := pl }).length = N) := Lib.hid (by rw [List.length_set]; exact HN.out)
  have HO13 : Hid (W13.ownsRow W2.heap.size 42 12 (.slice (some ⟨g8, 0, none⟩) N c8) N (doneC (l.set k { nthD l k with place := pl }))) := Lib.hid (by have := HG13.out.1; rw [HL13.out] at this; exact this)
  have HS13 : Hid (W2.heap.size ≤ W13.heap.size) := Lib.hid (Nat.le_trans HGW.out HB13.out.size)
  go_upto_region 21 with (first
    | (refine wpList_load_mid rfl _ _ rfl g0 (k * 12) rfl (nthD l k).cells _ HRNG.out Tryz.underlying42 rfl (by kernel_rfl) ?_; simp only [DoneS.cells])
    | (at_builtin; refine ap_new W13 #[.int .i64 (nthD l k).who, .int .i64 (nthD l k).place, .int .i64 (nthD l k).op, .int .i64 (nthD l k).fl, .int .i64 (nthD l k).a, .int .i64 (nthD l k).b, .int .i64 (nthD l k).e, .slice (nthD l k).ao (nthD l k).len (nthD l k).cap, .int .i64 (nthD l k).n, .int .u64 (nthD l k).v, .int .i64 (nthD l k).fr, .int .i64 (nthD l k).to] ED rfl _ _ rfl W2.heap.size _ N _ rfl HO13.out HS13.out 1 rfl rfl (by simp [Value.oneCell']) (by omega) ?_; intro v14 W14 hown14 hg14 hb14 hfr14))
  obtain ⟨a14, c14, rfl⟩ := owns_slice hown14
  have i14 : CfgIn w W14 c' := ⟨HI13.out.bel.trans (hb14.mono (Nat.le_of_lt HGE.out)), HI13.out.box.of_eq (hb14.block _ HGE.out)⟩
  have g14 : OwnDs W14 W2.heap.size (.slice a14 (N + 1) c14) (l.set k { nthD l k with place := pl } ++ [nthD l k]) := HG13.out.push (y := nthD l k) (HDK.out.below HB13.out) HL13.out hown14 hg14
  have HL14 : Hid ((l.set k { nthD l k with place := pl } ++ [nthD l k]).length = N + 1) := Lib.hid (by rw [List.length_append, HL13.out]; rfl)
  have hft : (nthD l k).fr ≤ (nthD l k).to := (HX.out.ok.1 (nthD l k).bare (by rw [← HBA.out]; exact List.mem_map_of_mem (by rw [nthD_eq hlk]; exact List.getElem_mem _))).2.2.2
  have HM14 : Hid (mayB c' (l.set k { nthD l k with place := pl } ++ [nthD l k]) = false) := Lib.hid (by
    rcases HPW.out with h | h
    · exact may_wrap (k := k) (by rw [List.length_set]; exact hlk) (by rw [nthD_set hlk]; exact h) _
    · exact may_twice (k := k) (by rw [List.length_set]; exact hlk) (nthD l k) ⟨by rw [nthD_set hlk], by rw [nthD_set hlk]; exact h, by rw [nthD_set hlk]; exact hft⟩)
  have HPAR14 : Hid (ParOk (N + 1) (l.set k { nthD l k with place := pl } ++ [nthD l k])) := Lib.hid ⟨by omega, fun d hd => by
    have hm := HPAR.out.2 (nthD l k) (by rw [nthD_eq hlk]; exact List.getElem_mem _)
    rcases List.mem_append.1 hd with hd | hd
    · rcases List.mem_or_eq_of_mem_set hd with hd | rfl
      · exact HPAR.out.2 d hd
      · exact hm
    · rw [List.mem_singleton] at hd
      subst hd
      exact hm⟩
  have HRD14 : Hid (RdD W14 a14 (N + 1) c14 (l.set k { nthD l k with place := pl } ++ [nthD l k])) := Lib.hid g14.rd
  have HI := Lib.hid i14
  clear i14 g14 hft hown14 hg14 hb14 hfr14 HO13 HS13 HRNG HG13 HB13 HI13 HL13 hlk HDK HPW
  generalize l.set k { nthD l k with place := pl } ++ [nthD l k] = l14 at *
  obtain ⟨N2, hN2'⟩ : ∃ N2, N + 1 = N2 := ⟨_, rfl⟩
  rw [hN2'] at HPAR14 HRD14 HL14 ⊢
  have hN29 : N2 ≤ 9 := by omega
  clear hN2'
  obtain ⟨x0, x1, x2, x3, x4, xl⟩ := HI.out.cells
  have hS := linSearch_any c' HU.out a14 N2 c14 l14 W14 HRD14.out HPAR14.out
  rw [found_no HM14.out] at hS
  have HS := Lib.hid hS
  clear hS
  go_wp2_with fail
  refine HS.out.mono ?_
  rintro e W10 ⟨hret, hb10⟩
  have hret : e = .returned (.tuple #[.slice none 0 0, .bool false]) := hret
  subst hret
  replace HI := Lib.hid (HI.out.below hb10)
  replace HRD14 := Lib.hid (HRD14.out.below hb10)
  clear hb10 x0 x1 x2 x3 x4 xl HS
  obtain ⟨x0, x1, x2, x3, x4, xl⟩ := HI.out.cells
  have HBEL := Lib.hid HI.out.bel
  have FR := Lib.hid (fun (W : World) (hb : Below W10.heap.size W10 W) => H.refParts_any _ _ _ l14 W ((HRD14.out).below hb) (HPAR14.out).1 (HPAR14.out).big)
  have FF := Lib.hid (fun (W : World) (hb : Below W10.heap.size W10 W) (oa : Option Addr) (on oc : Nat) (o : List Int) (ho : RdI W oa on oc o) (h8 : on * 8 ≤ 140737488355328) => linFits_any c' HU.out a14 N2 c14 l14 oa on oc o W ((HRD14.out).below hb) (HPAR14.out) ho h8)
  have HPS := Lib.hid (parts_small (HRD14.out) (HPAR14.out) (by omega))
  go_wp2_with fail
  refine wp_region_held_drew (S := (fun w' => Below W10.heap.size W10 w' ∧ (∀ b o, b < W10.heap.size → w'.cell? ⟨b, o, none⟩ = W10.cell? ⟨b, o, none⟩))) (by kernel_rfl) ?_ (fun hHeld => ?_)
  · exact hs_refl (Below.refl _ _).drew
  refine wpAnyH_take (i := 0) (v := ?_) rfl (by kernel_rfl) (by kernel_rfl) (by kernel_rfl) (fun _ _ _ h => h) (Or.inl ⟨by rfl, ?_⟩) (by assumption) ?_
  rotate_left
  · intro w hSw
    (try dsimp only at hSw)
    first | (go_simp; done) | (go_simp; with_reducible rfl)
  try simp only [List.getElem_toArray, List.getElem_cons_succ, List.getElem_cons_zero, Act.put, List.setIfInBounds_toArray, List.set_cons_zero, List.set_cons_succ]
  refine wpAnyH_take (i := 1) (v := ?_) rfl (by kernel_rfl) (by kernel_rfl) (by kernel_rfl) (fun _ _ _ h => h) (Or.inl ⟨by rfl, ?_⟩) (by assumption) ?_
  rotate_left
  · intro w hSw
    (try dsimp only at hSw)
    first | (go_simp; done) | (go_simp; with_reducible rfl)
  try simp only [List.getElem_toArray, List.getElem_cons_succ, List.getElem_cons_zero, Act.put, List.setIfInBounds_toArray, List.set_cons_zero, List.set_cons_succ]
  refine wpAnyH_take (i := 2) (v := ?_) rfl (by kernel_rfl) (by kernel_rfl) (by kernel_rfl) (fun _ _ _ h => h) (Or.inl ⟨by rfl, ?_⟩) (by assumption) ?_
  rotate_left
  · intro w hSw
    (try dsimp only at hSw)
    first | (go_simp; done) | (go_simp; with_reducible rfl)
  try simp only [List.getElem_toArray, List.getElem_cons_succ, List.getElem_cons_zero, Act.put, List.setIfInBounds_toArray, List.set_cons_zero, List.set_cons_succ]
  refine wpAnyH_take (i := 3) (v := ?_) rfl (by kernel_rfl) (by kernel_rfl) (by kernel_rfl) (fun _ _ _ h => h) (Or.inl ⟨by rfl, ?_⟩) (by assumption) ?_
  rotate_left
  · intro w hSw
    (try dsimp only at hSw)
    first | (go_simp; done) | (go_simp; with_reducible rfl)
  try simp only [List.getElem_toArray, List.getElem_cons_succ, List.getElem_cons_zero, Act.put, List.setIfInBounds_toArray, List.set_cons_zero, List.set_cons_succ]
  refine wpAnyH_take (i := 4) (v := ?_) rfl (by kernel_rfl) (by kernel_rfl) (by kernel_rfl) (fun _ _ _ h => h) (Or.inl ⟨by rfl, ?_⟩) (by assumption) ?_
  rotate_left
  · intro w hSw
    (try dsimp only at hSw)
    first | (go_simp; done) | (go_simp; with_reducible rfl)
  try simp only [List.getElem_toArray, List.getElem_cons_succ, List.getElem_cons_zero, Act.put, List.setIfInBounds_toArray, List.set_cons_zero, List.set_cons_succ]
  refine wpAnyH_take (i := 5) (v := ?_) rfl (by kernel_rfl) (by kernel_rfl) (by kernel_rfl) (fun _ _ _ h => h) (Or.inl ⟨by rfl, ?_⟩) (by assumption) ?_
  rotate_left
  · intro w hSw
    (try dsimp only at hSw)
    first | (go_simp; done) | (go_simp; with_reducible rfl)
  try simp only [List.getElem_toArray, List.getElem_cons_succ, List.getElem_cons_zero, Act.put, List.setIfInBounds_toArray, List.set_cons_zero, List.set_cons_succ]
  refine wpAnyH_ready (rs := [6]) (by kernel_rfl) (by simp) ?_
  refine AllReadyH.cons rfl (fun K hK => ?_) AllReadyH.nil
  go_simp
  (go_at_call 13; refine (FR.out _ hHeld.1).mono ?_; rintro e w' ⟨v11, l11, rfl, hmap11, hown11, hb'⟩; obtain ⟨pa11, pc11, rfl⟩ := hown11.slice; have HP11 : Hid (l11.length ≤ 909) := Lib.hid (by have h1 := congrArg List.length hmap11; rw [List.length_map] at h1; rw [h1]; exact HPS.out); clear hmap11 hown11; go_wp2_with fail)
  refine hK.out _ _ ?_ (fun hHeld => ?_)
  · exact hs_step hHeld hb'
  clear hK K
  try simp only [List.getElem_toArray, List.getElem_cons_succ, List.getElem_cons_zero, Act.put, List.setIfInBounds_toArray, List.set_cons_zero, List.set_cons_succ]
  refine wpAnyH_take (i := 7) (v := ?_) rfl (by kernel_rfl) (by kernel_rfl) (by kernel_rfl) (fun _ _ _ h => h) (Or.inl ⟨by rfl, ?_⟩) (by assumption) ?_
  rotate_left
  · intro w hSw
    (try dsimp only at hSw)
    first | (go_simp; done) | (go_simp; with_reducible rfl)
  try simp only [List.getElem_toArray, List.getElem_cons_succ, List.getElem_cons_zero, Act.put, List.setIfInBounds_toArray, List.set_cons_zero, List.set_cons_succ]
  refine wpAnyH_ready (rs := [8]) (by kernel_rfl) (by simp) ?_
  refine AllReadyH.cons rfl (fun K hK => ?_) AllReadyH.nil
  go_simp
  (go_at_call 12; refine (ord15_any none 0 0 [] l11.length _ (nil_rdI15 _) (by have := HP11.out; omega)).mono ?_; rintro e w' ⟨qa2, qc2, q2, rfl, hown13, hos13, -, hol13, hb'⟩; have HQ13 := Lib.hid (owns_rdI hown13 hos13); have HQL13 : Hid (q2.length * 8 ≤ 140737488355328) := Lib.hid (by have := HP11.out; omega); clear hown13 hos13 hol13; go_wp2_with fail)
  refine hK.out _ _ ?_ (fun hHeld => ?_)
  · exact hs_step hHeld hb'
  clear hK K
  try simp only [List.getElem_toArray, List.getElem_cons_succ, List.getElem_cons_zero, Act.put, List.setIfInBounds_toArray, List.set_cons_zero, List.set_cons_succ]
  refine wpAnyH_ready (rs := [9]) (by kernel_rfl) (by simp) ?_
  refine AllReadyH.cons rfl (fun K hK => ?_) AllReadyH.nil
  go_simp
  (go_at_call 15; refine (FF.out _ hHeld.1 qa2 q2.length qc2 q2 HQ13.out HQL13.out).mono ?_; rw [fits_no _ HM14.out]; rintro e w' ⟨rfl, hb'⟩; go_wp2_with fail)
  refine hK.out _ _ ?_ (fun hHeld => ?_)
  · exact hs_step hHeld hb'
  clear hK K
  try simp only [List.getElem_toArray, List.getElem_cons_succ, List.getElem_cons_zero, Act.put, List.setIfInBounds_toArray, List.set_cons_zero, List.set_cons_succ]
  refine wpAnyH_take (i := 10) (v := ?_) rfl (by kernel_rfl) (by kernel_rfl) (by kernel_rfl) (fun _ _ _ h => h) (Or.inl ⟨by rfl, ?_⟩) (by assumption) ?_
  rotate_left
  · intro w hSw
    (try dsimp only at hSw)
    first | (go_simp; done) | (go_simp; with_reducible rfl)
  try simp only [List.getElem_toArray, List.getElem_cons_succ, List.getElem_cons_zero, Act.put, List.setIfInBounds_toArray, List.set_cons_zero, List.set_cons_succ]
  refine wpAnyH_take (i := 11) (v := ?_) rfl (by kernel_rfl) (by kernel_rfl) (by kernel_rfl) (fun _ _ _ h => h) (Or.inl ⟨by rfl, ?_⟩) (by assumption) ?_
  rotate_left
  · intro w hSw
    (try dsimp only at hSw)
    first | (go_simp; done) | (go_simp; with_reducible rfl)
  try simp only [List.getElem_toArray, List.getElem_cons_succ, List.getElem_cons_zero, Act.put, List.setIfInBounds_toArray, List.set_cons_zero, List.set_cons_succ]
  refine wpAnyH_take (i := 12) (v := ?_) rfl (by kernel_rfl) (by kernel_rfl) (by kernel_rfl) (fun _ _ _ h => h) (Or.inl ⟨by rfl, ?_⟩) (by assumption) ?_
  rotate_left
  · intro w hSw
    (try dsimp only at hSw)
    first | (go_simp; done) | (go_simp; with_reducible rfl)
  try simp only [List.getElem_toArray, List.getElem_cons_succ, List.getElem_cons_zero, Act.put, List.setIfInBounds_toArray, List.set_cons_zero, List.set_cons_succ]
  refine wpAnyH_done (by kernel_rfl) ?_ _
  go_wp2
  go_ret
  exact ⟨rfl, HBEL.out.trans (hHeld.1.mono HBEL.out.size)⟩
theorem LinOpen_any (w : World) (c : List Value) (w0 : FlatOk [.int .i64, .int .i64, .int .i64, .int .i64, .int .u64] c) (ao : Option Addr) (n cap : Nat) (L : List (List Value)) (h1 : IsRows w [.int .i64, .int .i64, .int .i64, .int .i64] ao n cap L) (s1 : n ≤ 1048576)
    (a1 : Option Addr) (n1 c1 : Nat) (L1 : List (List Value)) (h2 : IsRows w [.int .i64] a1 n1 c1 L1) (s2 : n1 ≤ 1048576) (a2 : Option Addr) (n2 c2 : Nat) (L2 : List (List Value)) (h3 : IsRows w [.int .i64] a2 n2 c2 L2) (s3 : n2 ≤ 1048576) (x : Int) (wx : (Lit.int .i64 x).wf = true) :
    Calls Tryz.prog 8 #[.agg c.toArray, .slice ao n cap, .slice a1 n1 c1, .slice a2 n2 c2, .int .i64 x] w fun e w' => e = .returned (.bool true) ∧ Below w.heap.size w w' := by
  obtain ⟨d, rfl, hu⟩ := cfg_of w0
  obtain ⟨l, r1⟩ := isRows_rdC h1
  obtain ⟨p, r2⟩ := isRows_rdI h2
  obtain ⟨q, r3⟩ := isRows_rdI h3
  exact linOpen_in d hu ao a1 a2 n n1 n2 cap c1 c2 l p q x w r1 r2 r3 (i64_of_wf wx) s1
end Go.Proofs.YtdjooacjjnjfmaaGreat
