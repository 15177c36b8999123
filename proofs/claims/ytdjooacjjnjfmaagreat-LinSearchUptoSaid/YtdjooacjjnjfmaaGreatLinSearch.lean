/- LinSearch: of a history that has an order, some of whose answers may be changed: the first order that fits, or that there is none. -/
import Derived.Test.YtdjooacjjnjfmaaGreatHc
namespace Go.Proofs.YtdjooacjjnjfmaaGreat
set_option linter.unusedVariables false
set_option linter.unusedSimpArgs false
set_option maxRecDepth 20000
open Go.RowKit Go.Proofs.YtdjooacjjnjfmaaGreatMem Go.Proofs.YtdjooacjjnjfmaaGreatFlat Go.Proofs.YtdjooacjjnjfmaaGreatMapK Go.Proofs.YtdjooacjjnjfmaaGreatLin H

def errs5 : List Int := [0, 10, 9, 5, 8]
theorem errs5_ok (q : Nat) : I64 (nth errs5 q) := by
  by_cases h : q < 5
  · rcases (show q = 0 ∨ q = 1 ∨ q = 2 ∨ q = 3 ∨ q = 4 by omega) with rfl | rfl | rfl | rfl | rfl <;> decide
  · have : nth errs5 q = 0 := by unfold nth; rw [List.getD_eq_getElem?_getD, List.getElem?_eq_none (show errs5.length ≤ q by simp [errs5]; omega)]; rfl
    rw [this]; unfold I64; omega
/-- The history, some of whose answers may have been changed. -/
def LS15 (w : World) (base : Nat) (c : Cfg) (g N cap : Nat) (wx : World) : Prop := ∃ l, OwnDs wx base (.slice (some ⟨g, 0, none⟩) N cap) l ∧ l.length = N ∧ CfgIn w wx c ∧ ParOk N l
theorem errs5_at {q : Nat} (h : q < 5) : (errs5.map (Value.int .i64))[q]? = some (.int .i64 (nth errs5 q)) := by
  rcases (show q = 0 ∨ q = 1 ∨ q = 2 ∨ q = 3 ∨ q = 4 by omega) with rfl | rfl | rfl | rfl | rfl <;> rfl
set_option maxHeartbeats 4000000 in
theorem linSearch_in (c : Cfg) (hu : W64 c.unit) (ao a1 a2 : Option Addr) (n0 n1 n2 c0 c1 c2 : Nat) (cs : List CallS) (ws rs : List Int) (at_ ee : Int) (w : World) (h : RdC w ao n0 c0 cs) (hw : RdI w a1 n1 c1 ws) (hr : RdI w a2 n2 c2 rs) (hat : I64 at_) (hn : n0 ≤ 1048576) :
    Calls Tryz.prog 5 #[.agg #[.int .i64 c.shards, .int .i64 c.slots, .int .i64 c.workers, .int .i64 c.width, .int .u64 c.unit], .slice ao n0 c0, .slice a1 n1 c1, .slice a2 n2 c2, .int .i64 at_, .int .i64 ee] w fun e w' => e = .returned (.bool true) ∧ Below w.heap.size w w' := by
  have HC := Lib.hid h
  have HW := Lib.hid hw
  have HR := Lib.hid hr
  clear h hw hr
  have I := CfgIn.start w c
  have C0 := config_any c hu
  have hcR := confP_r15 c hu
  have hR := confP_right c hu
  have hu' := (confP_ok c hu).unit
  go_enter Tryz.func5, Tryz.ntmps5
  go_upto_region 1 with fail
  generalize (w.alloc (.cells #[.int .i64 c.shards, .int .i64 c.slots, .int .i64 c.workers, .int .i64 c.width, .int .u64 c.unit] 24)) = W at *
  obtain ⟨x0, x1, x2, x3, x4, xl⟩ := I.cells
  have HI := Lib.hid I
  clear I
  go_wp2_with fail
  refine (C0 _).mono ?_
  rintro e W1 ⟨rfl, hb1⟩
  replace HI : Hid (CfgIn w W1 c) := Lib.hid (HI.out.below hb1)
  clear hb1 x0 x1 x2 x3 x4 xl C0
  obtain ⟨x0, x1, x2, x3, x4, xl⟩ := HI.out.cells
  obtain ⟨f0, f1, f2, f3, f4⟩ := HI.out.frozen
  replace HI := Lib.hid (HI.out.set (confP c))
  obtain ⟨c', hcc⟩ : ∃ c', confP c = c' := ⟨_, rfl⟩
  rw [hcc] at HI hcR hR hu'
  rw [hcc]
  have HCR := Lib.hid hcR
  have HRT := Lib.hid hR
  have HU := Lib.hid hu'
  clear hcc hcR hR hu'
  go_upto_region 2 with fail
  generalize (((((W1.setCell ⟨w.heap.size, 0, none⟩ (.int .i64 c'.shards)).setCell ⟨w.heap.size, 1, none⟩ (.int .i64 c'.slots)).setCell ⟨w.heap.size, 2, none⟩ (.int .i64 c'.workers)).setCell ⟨w.heap.size, 3, none⟩ (.int .i64 c'.width)).setCell ⟨w.heap.size, 4, none⟩ (.int .u64 c'.unit)) = W2 at *
  clear x0 x1 x2 x3 x4 xl f0 f1 f2 f3 f4
  obtain ⟨x0, x1, x2, x3, x4, xl⟩ := HI.out.cells
  go_wp2_with fail
  refine (made15_any c' HCR.out ao a1 a2 n0 n1 n2 c0 c1 c2 cs ws rs 8 _ (HC.out.below HI.out.bel) (RdI.below (B := 0) HW.out HI.out.bel) (RdI.below (B := 0) HR.out HI.out.bel) hn (by omega)).mono ?_
  rintro e W3 ⟨ha, hcap, l, rfl, hown, hbare, hb3⟩
  have HX := Lib.hid (made_x c' cs ws rs 8)
  have HX2 := Lib.hid (made_two c' cs ws rs 8 (by omega))
  obtain ⟨X, hXX⟩ : ∃ X, (madeS c' cs ws rs 8).out = X := ⟨_, rfl⟩
  rw [hXX] at HX hbare HX2
  replace HI := Lib.hid (HI.out.below hb3)
  have HBA := Lib.hid hbare
  have HOW := Lib.hid hown
  have HRD := Lib.hid hown.rd
  have HPAR := Lib.hid (HX.out.par (by omega) hbare hown.rd)
  obtain ⟨N, hN⟩ : ∃ N, l.length = N := ⟨_, rfl⟩
  rw [hN] at HOW HRD HPAR
  rw [hN]
  have HN := Lib.hid hN
  have HGE : Hid (w.heap.size < W2.heap.size) := Lib.hid xl
  clear hXX hb3 hown hbare hN x0 x1 x2 x3 x4 xl
  have hNX : N = X.length := by rw [← HN.out, ← HBA.out, List.length_map]
  have hN2 : 2 ≤ N := by have := HX2.out; omega
  have hN8 : N ≤ 8 := by have := HX.out.len; omega
  have HPL : Hid (partsD l = partsD X) := Lib.hid (by rw [← HBA.out, partsD_bare])
  obtain ⟨g, rfl⟩ : ∃ g, ha = some ⟨g, 0, none⟩ := by
    have hr := HRD.out
    obtain ⟨b, o, e, -⟩ := hr.cells (k := 0) (by omega)
    have hv := HOW.out.1
    rcases hv.2 with ⟨hv, _⟩ | ⟨g, cap', cur, hv, _⟩
    · cases hv; cases e
    · cases hv; exact ⟨g, rfl⟩
  have hgw : w.heap.size < g := by
    have h1 := (owns_lt HOW.out.1 g rfl).1
    have h2 := HGE.out
    omega
  clear HX HX2 HBA hNX
  have hE0 := modZ_bd ee (n := 3) (by omega)
  have hNi : (0 : Int) < (N : Int) := by omega
  have hNg : ((N : Int) > 0) := hNi
  go_upto_region 3 with fail
  go_cut [36] from 22 to 103 (fun s36 wx => (∃ b : Bool, s36 = .bool b) ∧ wx = W3)
  case first =>
    go_wp2_with fail
    refine (mod_any ee 3 (by omega) (by omega) _).mono ?_
    rintro e w' ⟨rfl, rfl⟩
    by_cases h0 : modZ ee 3 = 0
    · have e0 : (modZ ee 3 == 0) = true := by simp [h0]
      go_wp2
      go_meet
      exact ⟨⟨_, rfl⟩, rfl⟩
    · have e0 : (modZ ee 3 == 0) = false := by simpa using h0
      go_wp2
      go_meet
      exact ⟨⟨_, rfl⟩, rfl⟩
  case rest =>
  obtain ⟨⟨b, rfl⟩, rfl⟩ := hcut
  have LS0 : LS15 w W2.heap.size c' g N hcap wc := ⟨l, HOW.out, HN.out, HI.out, HPAR.out⟩
  have HLS := Lib.hid LS0
  clear LS0
  go_upto_if 36 with fail
  go_cut [] from 22 to 103 (fun wx => LS15 w W2.heap.size c' g N hcap wx)
  case first =>
    cases b with
    | false =>
      go_wp2
      go_meet
      exact HLS.out
    | true =>
      have hk0 := modZ_bd at_ (n := (N : Int)) (by omega)
      obtain ⟨k, hk⟩ : ∃ k : Nat, modZ at_ (N : Int) = (k : Int) := ⟨(modZ at_ (N : Int)).toNat, by omega⟩
      have hkN : k < N := by omega
      have hkN2 : (k : Int) < (N : Int) := by omega
      have HK := Lib.hid hk
      clear hk hk0
      go_wp2_with fail
      refine (mod_any at_ N (by omega) (by omega) _).mono ?_
      rw [HK.out]
      rintro e w' ⟨rfl, rfl⟩
      go_wp2_with fail
      have hba := below1 wc (.cells #[.int .i64 0, .int .i64 10, .int .i64 9, .int .i64 5, .int .i64 8] 35)
      have bE : Blk (wc.alloc (.cells #[.int .i64 0, .int .i64 10, .int .i64 9, .int .i64 5, .int .i64 8] 35)) wc.heap.size (errs5.map (Value.int .i64)) 35 := Blk.new wc (errs5.map (Value.int .i64)) 35
      have HLA : Hid (OwnDs (wc.alloc (.cells #[.int .i64 0, .int .i64 10, .int .i64 9, .int .i64 5, .int .i64 8] 35)) W2.heap.size (.slice (some ⟨g, 0, none⟩) N hcap) l) := Lib.hid (HOW.out.below hba)
      have HIA : Hid (CfgIn w (wc.alloc (.cells #[.int .i64 0, .int .i64 10, .int .i64 9, .int .i64 5, .int .i64 8] 35)) c') := Lib.hid (HI.out.below hba)
      have HBE := Lib.hid bE
      generalize wc.alloc (.cells #[.int .i64 0, .int .i64 10, .int .i64 9, .int .i64 5, .int .i64 8] 35) = WA at *
      generalize wrap64 (at_.tdiv 7) = tq at *
      have hq0 := modZ_bd tq (n := 5) (by omega)
      obtain ⟨q, hq⟩ : ∃ q : Nat, modZ tq 5 = (q : Int) := ⟨(modZ tq 5).toNat, by omega⟩
      have hq5 : q < 5 := by omega
      have hq52 : (q : Int) < 5 := by omega
      have HQ := Lib.hid hq
      have cE : WA.cell? ⟨wc.heap.size, q, none⟩ = some (.int .i64 (nth errs5 q)) := (HBE.out.cell q).trans (errs5_at hq5)
      have lE := HBE.out.lt
      obtain ⟨y6, z6⟩ := ownDs_at12 HLA.out (i := 6) HN.out hkN (by omega)
      obtain ⟨y7, z7⟩ := ownDs_at12 HLA.out (i := 7) HN.out hkN (by omega)
      obtain ⟨y8, z8⟩ := ownDs_at12 HLA.out (i := 8) HN.out hkN (by omega)
      obtain ⟨y9, z9⟩ := ownDs_at12 HLA.out (i := 9) HN.out hkN (by omega)
      have y6 : WA.cell? ⟨g, k * 12 + 6, none⟩ = some (.int .i64 (nthD l k).e) := y6
      have y7 : WA.cell? ⟨g, k * 12 + 7, none⟩ = some (.slice (nthD l k).ao (nthD l k).len (nthD l k).cap) := y7
      have y8 : WA.cell? ⟨g, k * 12 + 8, none⟩ = some (.int .i64 (nthD l k).n) := y8
      have y9 : WA.cell? ⟨g, k * 12 + 9, none⟩ = some (.int .u64 (nthD l k).v) := y9
      have gl := (owns_lt HLA.out.1 g rfl).2
      have hlk : k < l.length := by rw [HN.out]; exact hkN
      have hd0 := HLA.out.2 (nthD l k) (by rw [nthD_eq hlk]; exact List.getElem_mem _)
      have okE : ({ nthD l k with e := nth errs5 q } : DoneS).Ok := by
        have h := hd0.2.1
        unfold DoneS.Ok at h ⊢
        exact ⟨h.1, h.2.1, h.2.2.1, h.2.2.2.1, h.2.2.2.2.1, h.2.2.2.2.2.1, errs5_ok q, h.2.2.2.2.2.2.2⟩
      have s1 := ownDs_set1 HLA.out (i := 6) (u := .int .i64 (nth errs5 q)) (d' := { nthD l k with e := nth errs5 q }) HN.out hkN (by omega) rfl ⟨hd0.1, okE, hd0.2.2⟩
      have ok2 : ∀ nn vv : Int, I64 nn → (0 ≤ vv ∧ vv ≤ 18446744073709551615) → ({ nthD l k with e := nth errs5 q, ao := none, len := 0, cap := 0, n := nn, v := vv, l := [] } : DoneS).Ok := fun nn vv h1 h2 => by
        have h := okE
        unfold DoneS.Ok at h ⊢
        exact ⟨h.1, h.2.1, h.2.2.1, h.2.2.2.1, h.2.2.2.2.1, h.2.2.2.2.2.1, h.2.2.2.2.2.2.1, h1, h2, h.2.2.2.2.2.2.2.2.2⟩
      have hl1 : ∀ d : DoneS, (l.set k d).length = N := fun d => by rw [List.length_set]; exact HN.out
      have e1 : ∀ d, nthD (l.set k d) k = d := fun d => nthD_set hlk d
      have nl : ∀ (W : World) (d : DoneS), d.Ok → OwnK W W2.heap.size { d with ao := none, len := 0, cap := 0, l := [] } := fun W d hd => ⟨owns_nil _ _ _ _, hd, fun p hp => by cases hp⟩
      have s2 := ownDs_set1 s1 (i := 7) (u := .slice none 0 0) (d' := { nthD l k with e := nth errs5 q, ao := none, len := 0, cap := 0, l := [] }) (hl1 _) hkN (by omega) (by rw [e1]; rfl) (nl _ { nthD l k with e := nth errs5 q } okE)
      rw [List.set_set] at s2
      have s3 := ownDs_set1 s2 (i := 8) (u := .int .i64 0) (d' := { nthD l k with e := nth errs5 q, ao := none, len := 0, cap := 0, n := 0, l := [] }) (hl1 _) hkN (by omega) (by rw [e1]; rfl) (nl _ { nthD l k with e := nth errs5 q, n := 0 } (by
        have h := okE
        unfold DoneS.Ok at h ⊢
        exact ⟨h.1, h.2.1, h.2.2.1, h.2.2.2.1, h.2.2.2.2.1, h.2.2.2.2.2.1, h.2.2.2.2.2.2.1, by unfold I64; simp, h.2.2.2.2.2.2.2.2⟩))
      rw [List.set_set] at s3
      have s4 := ownDs_set1 s3 (i := 9) (u := .int .u64 0) (d' := { nthD l k with e := nth errs5 q, ao := none, len := 0, cap := 0, n := 0, v := 0, l := [] }) (hl1 _) hkN (by omega) (by rw [e1]; rfl) ⟨owns_nil _ _ _ _, ok2 0 0 (by unfold I64; simp) (by simp), fun p hp => by cases hp⟩
      rw [List.set_set] at s4
      have y7' : (WA.setCell ⟨g, k * 12 + 6, none⟩ (.int .i64 (nth errs5 q))).cell? ⟨g, k * 12 + 6 + 1, none⟩ = some (.slice (nthD l k).ao (nthD l k).len (nthD l k).cap) := by
        have := (ownDs_at12 s1 (i := 7) (hl1 _) hkN (by omega)).1
        rw [e1] at this
        exact this
      have z7' : (WA.setCell ⟨g, k * 12 + 6, none⟩ (.int .i64 (nth errs5 q))).frozen? ⟨g, k * 12 + 6 + 1, none⟩ = false := (ownDs_at12 s1 (i := 7) (hl1 _) hkN (by omega)).2
      have y8' : ((WA.setCell ⟨g, k * 12 + 6, none⟩ (.int .i64 (nth errs5 q))).setCell ⟨g, k * 12 + 6 + 1, none⟩ (.slice none 0 0)).cell? ⟨g, k * 12 + 6 + 2, none⟩ = some (.int .i64 (nthD l k).n) := by
        have := (ownDs_at12 s2 (i := 8) (hl1 _) hkN (by omega)).1
        rw [e1] at this
        exact this
      have z8' : ((WA.setCell ⟨g, k * 12 + 6, none⟩ (.int .i64 (nth errs5 q))).setCell ⟨g, k * 12 + 6 + 1, none⟩ (.slice none 0 0)).frozen? ⟨g, k * 12 + 6 + 2, none⟩ = false := (ownDs_at12 s2 (i := 8) (hl1 _) hkN (by omega)).2
      have y9' : (((WA.setCell ⟨g, k * 12 + 6, none⟩ (.int .i64 (nth errs5 q))).setCell ⟨g, k * 12 + 6 + 1, none⟩ (.slice none 0 0)).setCell ⟨g, k * 12 + 6 + 2, none⟩ (.int .i64 0)).cell? ⟨g, k * 12 + 6 + 3, none⟩ = some (.int .u64 (nthD l k).v) := by
        have := (ownDs_at12 s3 (i := 9) (hl1 _) hkN (by omega)).1
        rw [e1] at this
        exact this
      have z9' : (((WA.setCell ⟨g, k * 12 + 6, none⟩ (.int .i64 (nth errs5 q))).setCell ⟨g, k * 12 + 6 + 1, none⟩ (.slice none 0 0)).setCell ⟨g, k * 12 + 6 + 2, none⟩ (.int .i64 0)).frozen? ⟨g, k * 12 + 6 + 3, none⟩ = false := (ownDs_at12 s3 (i := 9) (hl1 _) hkN (by omega)).2
      have HS4 := Lib.hid s4
      have HL1 := Lib.hid hl1
      clear s1 s2 s3 s4 e1 nl ok2 okE hd0 hlk hl1 y7 y8 y9 z7 z8 z9
      clear hba bE hq hq0
      refine (mod_any tq 5 (by omega) (by omega) _).mono ?_
      rw [HQ.out]
      rintro e w' ⟨rfl, rfl⟩
      go_wp2
      simp only [Result.andThen, y7', z7', y8', z8', y9', z9', Bool.false_eq_true, if_false]
      go_wp2
      go_meet
      refine ⟨l.set k { nthD l k with e := nth errs5 q, ao := none, len := 0, cap := 0, n := 0, v := 0, l := [] }, HS4.out, HL1.out _, (((HIA.out.far hgw _).far hgw _).far hgw _).far hgw _, by omega, fun d hd => ?_⟩
      rcases List.mem_or_eq_of_mem_set hd with hd | rfl
      · exact HPAR.out.2 d hd
      · exact Nat.zero_le _
  case rest =>
  have HL2 : Hid (LS15 w W2.heap.size c' g N hcap wc) := Lib.hid hcut
  clear hcut HLS HI HOW HRD HPAR HN HPL
  obtain ⟨l2, hown2, hlen2, hi2, hpar2⟩ := HL2.out
  have HI := Lib.hid hi2
  have HRD := Lib.hid (show RdD wc (some ⟨g, 0, none⟩) N hcap l2 by have := hown2; rw [← hlen2] at this ⊢; exact this.rd)
  have HPAR := Lib.hid hpar2
  clear hown2 hlen2 hi2 hpar2 HL2 hgw hE0 hNi hNg
  go_wp2_with fail
  refine (H.refParts_any _ _ _ l2 wc HRD.out HPAR.out.1 HPAR.out.big).mono ?_
  rintro e W4 ⟨v4, l4, rfl, hmap, hown4, hb4⟩
  obtain ⟨pa, pc, rfl⟩ := hown4.slice
  have hPN : (partsD l2).length = l4.length := by rw [← hmap, List.length_map]
  obtain ⟨P, hP⟩ : ∃ P, l4.length = P := ⟨_, rfl⟩
  rw [hP] at hPN
  rw [hP]
  replace HI := Lib.hid (HI.out.below hb4)
  replace HRD := Lib.hid (HRD.out.below hb4)
  have HPN := Lib.hid hPN
  clear hb4 hown4 hmap hPN hP
  obtain ⟨x0, x1, x2, x3, x4, xl⟩ := HI.out.cells
  by_cases h12 : P ≤ 12
  · have n12 : ¬ (P : Int) > 12 := by omega
    have n12' : ¬ (12 : Int) < (P : Int) := by omega
    go_wp2_with fail
    have hS := linSearch_any c' HU.out (some ⟨g, 0, none⟩) N hcap l2 W4 HRD.out HPAR.out
    have hG : ∀ W, Below W4.heap.size W4 W → Calls Tryz.prog 18 #[.agg #[.int .i64 c'.shards, .int .i64 c'.slots, .int .i64 c'.workers, .int .i64 c'.width, .int .u64 c'.unit], .slice (some ⟨g, 0, none⟩) N hcap, .int .i64 60000] W (SeaPost (foundB c' l2) W) := fun W hb => refSearch_any c' (some ⟨g, 0, none⟩) N hcap l2 60000 W (HRD.out.below hb) HPAR.out (by omega) (by omega)
    have HG := Lib.hid hG
    clear hG
    cases hf : foundB c' l2 with
    | none =>
      rw [hf] at hS HG
      refine hS.mono ?_
      rintro e W5 ⟨hret, hb5⟩
      have hret : e = .returned (.tuple #[.slice none 0 0, .bool false]) := hret
      subst hret
      replace HI := Lib.hid (HI.out.below hb5)
      have HB5 := Lib.hid hb5
      clear hS hb5 hf x0 x1 x2 x3 x4 xl
      obtain ⟨x0, x1, x2, x3, x4, xl⟩ := HI.out.cells
      go_wp2_with fail
      refine (HG.out W5 HB5.out).mono ?_
      rintro e W6 ⟨hsea, hb6⟩
      have HB6 := Lib.hid (HB5.out.trans (hb6.mono HB5.out.size))
      replace HI := Lib.hid (HI.out.below hb6)
      clear hb6 x0 x1 x2 x3 x4 xl
      rcases hsea with ⟨rest, oa, oc, h0, -, -⟩ | ⟨gave, rfl, -⟩
      · cases h0
      · obtain ⟨x0, x1, x2, x3, x4, xl⟩ := HI.out.cells
        go_wp2_with fail
        refine (awake15_any W6).mono ?_
        rintro e W7 ⟨rfl, hb7⟩
        replace HI := Lib.hid (HI.out.below hb7)
        clear hb7 x0 x1 x2 x3 x4 xl
        cases gave with
        | true =>
          go_wp2
          go_ret
          exact ⟨rfl, HI.out.bel⟩
        | false =>
          go_wp2_with fail
          refine (plainI_any none none 0 0 0 0 [] [] W7 (nil_rdI15 _) (nil_rdI15 _)).mono ?_
          rw [eqI_same]
          rintro e W8 ⟨rfl, hb8⟩
          replace HI := Lib.hid (HI.out.below hb8)
          clear hb8
          go_wp2
          go_ret
          exact ⟨rfl, HI.out.bel⟩
    | some q =>
      rw [hf] at hS HG
      have HFI := Lib.hid (found_fits hf).1
      have hql : q.length ≤ 12 := by have := found_fits hf; omega
      refine hS.mono ?_
      rintro e W5 ⟨hret, hb5⟩
      obtain ⟨qa, qc, rfl, hrow⟩ := hret
      replace HI := Lib.hid (HI.out.below hb5)
      have HB5 := Lib.hid hb5
      have HQ := Lib.hid (owns_rdI hrow (fun z hz => by
        unfold toI at hz
        obtain ⟨i, hi, rfl⟩ := List.mem_map.1 hz
        have := fnd_lt_found hf i hi
        unfold I64
        omega))
      obtain ⟨M, hM⟩ : ∃ M, q.length = M := ⟨_, rfl⟩
      rw [hM] at HQ hql
      rw [hM]
      have HM := Lib.hid hM
      clear hS hb5 hf x0 x1 x2 x3 x4 xl hrow hM
      obtain ⟨x0, x1, x2, x3, x4, xl⟩ := HI.out.cells
      go_wp2_with fail
      refine (HG.out W5 HB5.out).mono ?_
      rintro e W6 ⟨hsea, hb6⟩
      have HB6 := Lib.hid (HB5.out.trans (hb6.mono HB5.out.size))
      replace HI := Lib.hid (HI.out.below hb6)
      replace HQ := Lib.hid (RdI.below (B := 0) HQ.out hb6)
      clear hb6 x0 x1 x2 x3 x4 xl
      rcases hsea with ⟨rest, oa, oc, h0, rfl, hrest⟩ | ⟨gave, rfl, hgv⟩
      · cases h0
        rw [HM.out] at hrest
        rw [HM.out]
        have HRE := Lib.hid hrest
        clear hrest
        obtain ⟨x0, x1, x2, x3, x4, xl⟩ := HI.out.cells
        go_wp2_with fail
        refine (awake15_any W6).mono ?_
        rintro e W7 ⟨rfl, hb7⟩
        have HB7 := Lib.hid (HB6.out.trans (hb7.mono HB6.out.size))
        replace HI := Lib.hid (HI.out.below hb7)
        replace HQ := Lib.hid (RdI.below (B := 0) HQ.out hb7)
        replace HRE := Lib.hid (RdI.below (B := 0) HRE.out hb7)
        clear hb7 x0 x1 x2 x3 x4 xl
        go_wp2_with fail
        refine (plainI_any _ _ _ _ _ _ (toI q) (toI q) W7 HQ.out HRE.out).mono ?_
        rw [eqI_same]
        rintro e W8 ⟨rfl, hb8⟩
        have HB8 := Lib.hid (HB7.out.trans (hb8.mono HB7.out.size))
        replace HI := Lib.hid (HI.out.below hb8)
        replace HQ := Lib.hid (RdI.below (B := 0) HQ.out hb8)
        clear hb8
        obtain ⟨x0, x1, x2, x3, x4, xl⟩ := HI.out.cells
        go_wp2_with fail
        refine (linFits_any c' HU.out (some ⟨g, 0, none⟩) N hcap l2 qa M qc (toI q) W8 (HRD.out.below HB8.out) HPAR.out HQ.out (by omega)).mono ?_
        rw [HFI.out]
        rintro e W9 ⟨rfl, hb9⟩
        replace HI := Lib.hid (HI.out.below hb9)
        clear hb9 x0 x1 x2 x3 x4 xl
        go_wp2
        go_ret
        exact ⟨rfl, HI.out.bel⟩
      · obtain rfl : gave = true := by
          cases gave with
          | true => rfl
          | false => exact absurd (hgv rfl) (by simp)
        clear hgv
        obtain ⟨x0, x1, x2, x3, x4, xl⟩ := HI.out.cells
        go_wp2_with fail
        refine (awake15_any W6).mono ?_
        rintro e W7 ⟨rfl, hb7⟩
        have HB7 := Lib.hid (HB6.out.trans (hb7.mono HB6.out.size))
        replace HI := Lib.hid (HI.out.below hb7)
        replace HQ := Lib.hid (RdI.below (B := 0) HQ.out hb7)
        clear hb7 x0 x1 x2 x3 x4 xl
        obtain ⟨x0, x1, x2, x3, x4, xl⟩ := HI.out.cells
        go_wp2_with fail
        refine (linFits_any c' HU.out (some ⟨g, 0, none⟩) N hcap l2 qa M qc (toI q) W7 (HRD.out.below HB7.out) HPAR.out HQ.out (by omega)).mono ?_
        rw [HFI.out]
        rintro e W9 ⟨rfl, hb9⟩
        replace HI := Lib.hid (HI.out.below hb9)
        clear hb9 x0 x1 x2 x3 x4 xl
        go_wp2
        go_ret
        exact ⟨rfl, HI.out.bel⟩
  · have n12 : (P : Int) > 12 := by omega
    have n12' : (12 : Int) < (P : Int) := by omega
    have hf : foundB c' l2 = none := by unfold foundB; rw [if_neg (by rw [HPN.out]; omega)]
    have hS := linSearch_any c' HU.out (some ⟨g, 0, none⟩) N hcap l2 W4 HRD.out HPAR.out
    rw [hf] at hS
    have HS := Lib.hid hS
    clear hS hf
    go_wp2_with fail
    refine HS.out.mono ?_
    rintro e W5 ⟨hret, hb5⟩
    have hret : e = .returned (.tuple #[.slice none 0 0, .bool false]) := hret
    subst hret
    replace HI := Lib.hid (HI.out.below hb5)
    clear hb5 x0 x1 x2 x3 x4 xl HS
    go_wp2_with fail
    refine (awake15_any W5).mono ?_
    rintro e W7 ⟨rfl, hb7⟩
    replace HI := Lib.hid (HI.out.below hb7)
    clear hb7
    go_wp2
    go_ret
    exact ⟨rfl, HI.out.bel⟩
theorem LinSearch_any (w : World) (c : List Value) (w0 : FlatOk [.int .i64, .int .i64, .int .i64, .int .i64, .int .u64] c) (ao : Option Addr) (n cap : Nat) (L : List (List Value)) (h1 : IsRows w [.int .i64, .int .i64, .int .i64, .int .i64] ao n cap L) (s1 : n ≤ 1048576)
    (a1 : Option Addr) (n1 c1 : Nat) (L1 : List (List Value)) (h2 : IsRows w [.int .i64] a1 n1 c1 L1) (s2 : n1 ≤ 1048576) (a2 : Option Addr) (n2 c2 : Nat) (L2 : List (List Value)) (h3 : IsRows w [.int .i64] a2 n2 c2 L2) (s3 : n2 ≤ 1048576) (x : Int) (wx : (Lit.int .i64 x).wf = true) (y : Int) (wy : (Lit.int .i64 y).wf = true) :
    Calls Tryz.prog 5 #[.agg c.toArray, .slice ao n cap, .slice a1 n1 c1, .slice a2 n2 c2, .int .i64 x, .int .i64 y] w fun e w' => e = .returned (.bool true) ∧ Below w.heap.size w w' := by
  obtain ⟨d, rfl, hu⟩ := cfg_of w0
  obtain ⟨l, r1⟩ := isRows_rdC h1
  obtain ⟨p, r2⟩ := isRows_rdI h2
  obtain ⟨q, r3⟩ := isRows_rdI h3
  exact linSearch_in d hu ao a1 a2 n n1 n2 cap c1 c2 l p q x y w r1 r2 r3 (i64_of_wf wx) s1
end Go.Proofs.YtdjooacjjnjfmaaGreat
