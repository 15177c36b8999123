/- ModelBatch. -/
import Derived.Test.YtfgfjnlkgadkhaaGreatBatchL
import Derived.Deep.CutRange
import Derived.Deep.CutBlock
import Derived.Deep.RegionHeld3
namespace Go.Proofs.YtfgfjnlkgadkhaaGreat
set_option linter.unusedVariables false
set_option linter.unusedSimpArgs false
set_option maxRecDepth 20000
open Go.RowKit Go.Proofs.YtfgfjnlkgadkhaaGreatMem Go.Proofs.YtfgfjnlkgadkhaaGreatFlat Go.Proofs.YtfgfjnlkgadkhaaGreatMapK

set_option maxHeartbeats 8000000 in
theorem batch11_in (c : Cfg) (hu : W64 c.unit) (ao : Option Addr) (n cap : Nat) (l : List CallS) (N : Int) (hN : I64 N) (w : World) (h : RdC w ao n cap l) :
    Calls Tryz.prog 3 #[.agg #[.int .i64 c.shards, .int .i64 c.slots, .int .i64 c.workers, .int .i64 c.width, .int .u64 c.unit], .slice ao n cap, .int .i64 N] w fun e w' => e = .returned (.bool true) ∧ Below w.heap.size w w' := by
  have I := CfgIn.start w c
  have hcR := confP_r c hu
  have hle := h.rd.le
  have hsm := h.rd.small
  have HRD := Lib.hid h
  clear h
  go_enter Tryz.func3, Tryz.ntmps3
  go_upto_region 1 with fail
  generalize (w.alloc (.cells #[.int .i64 c.shards, .int .i64 c.slots, .int .i64 c.workers, .int .i64 c.width, .int .u64 c.unit] 24)) = W at *
  obtain ⟨x0, x1, x2, x3, x4, xl⟩ := I.cells
  have hb0 := I.bel
  clear I
  go_wp2_with fail
  refine (made_any c hu true _).mono ?_
  rintro e W1 ⟨bm, x, rfl, T1⟩
  replace T1 := T1.base hb0
  generalize confP c = c' at *
  have S1 : Run11 w W1 bm x c' 4 := ⟨_, _, T1, made_sim c' true, made_good c' hcR true⟩
  have HS1 := Lib.hid S1
  clear T1 S1 x0 x1 x2 x3 x4 xl hb0
  go_wp2_with fail
  refine (awake11_any _).mono ?_
  rintro e W2 ⟨rfl, hb2⟩
  have HS2 := Lib.hid (HS1.out.below hb2)
  clear hb2 HS1
  go_upto_block 0 with fail
  go_cut [] from 9 to 45 (fun wx => Run11 w wx bm x c' 64)
  case first =>
    go_wp2_with fail
    go_loopw [9] (fun v9 wr => ∃ k : Nat, k ≤ n ∧ k ≤ 60 ∧ v9 = .int .i64 k ∧ Run11 w wr bm x c' (4 + k)) (fun v9 _ => 60 - (intOf v9).toNat)
    case atStart => exact ⟨0, Nat.zero_le _, Nat.zero_le _, rfl, HS2.out⟩
    case round =>
      obtain ⟨k, hk, hk8, rfl, rn⟩ := hrel
      by_cases hlx : k < n ∧ k < 60
      · obtain ⟨hl, h8⟩ := hlx
        have i1 : (k : Int) < (n : Int) := by omega
        have i2 : (k : Int) < 60 := by omega
        obtain ⟨m, y, t, hs, hg⟩ := rn.ex
        obtain ⟨bl, o, rfl, hbl, q0, q1, q2, q3⟩ := HRD.out.at hl t.bel
        have hdo := callP_ok (HRD.out.nth_ok hl)
        have HT := Lib.hid t
        have HSM := Lib.hid hs
        have HG := Lib.hid hg
        clear t hs hg rn
        generalize hd : nthC l k = d at *
        replace hd := Lib.hid hd
        go_wp2_with fail
        refine (callP_any d _).mono ?_
        rintro e w3 ⟨rfl, hb3⟩
        have HT3 := Lib.hid (HT.out.below hb3)
        clear hb3 q0 q1 q2 q3
        generalize callP d = d' at *
        go_wp2_with fail
        refine (step11_any HT3.out.toK HSM.out HG.out (by omega) hcR d' hdo).mono ?_
        rintro e w4 ⟨rfl, t4⟩
        have S4 : Run11 w w4 bm x c' (4 + (k + 1)) := ⟨_, _, t4.toM, (HSM.out.doo c' d').1, HG.out.doo hcR.ok.unit hdo⟩
        have HS4 := Lib.hid S4
        clear t4 S4
        go_wp2
        go_roundw
        case rel => exact ⟨k + 1, by omega, by omega, by go_num, HS4.out⟩
        case measure => simp [intOf]; omega
      · obtain ⟨m, y, t, hs, hg⟩ := rn.ex
        have S5 : Run11 w wr bm x c' 64 := ⟨m, y, t, hs, hg.mono (by omega)⟩
        have HS5 := Lib.hid S5
        clear t hs hg rn S5
        have i3 : (n : Int) ≤ (k : Int) ∨ (k : Int) < (n : Int) ∧ 60 ≤ (k : Int) := by omega
        rcases i3 with i1 | ⟨i1, i2⟩
        all_goals
          go_wp2
          go_meet
          exact HS5.out
  case rest =>
  have HS5 := Lib.hid hcut
  clear hcut HS2
  have m18 := modZ_bd N (n := 18) (by omega)
  go_upto_if 48 with (go_at_call 13; refine (mod_any N 6 (by omega) (by omega) _).mono ?_; rintro e w' ⟨rfl, rfl⟩)
  go_cut [2] from 48 to 50 (fun v wx => ∃ N' : Int, v = .int .i64 N' ∧ I64 N' ∧ wx = wc)
  case first =>
    by_cases h6 : modZ N 6 > 0
    · go_wp2_with fail
      refine (mod_any N 18 (by omega) (by omega) _).mono ?_
      rintro e w' ⟨rfl, rfl⟩
      go_wp2
      go_meet
      exact ⟨_, rfl, small_i64 (by omega), rfl⟩
    · go_wp2
      go_meet
      exact ⟨_, rfl, hN, rfl⟩
  case rest =>
  obtain ⟨N', rfl, hN', rfl⟩ := hcut
  obtain ⟨m, y, t, hs, hg⟩ := HS5.out.ex
  have HT := Lib.hid t
  have HSM := Lib.hid hs
  have HG := Lib.hid hg
  obtain ⟨F0, -, f1, -, -, -, -, -⟩ := t
  have HF1 := Lib.hid f1
  clear hs hg f1 HS5 m18
  go_wp2_with fail
  refine (copyM_any bm c' m.s m.served F0 _ HF1.out).mono ?_
  rintro e w1 ⟨ba, sa, rfl, ha, eva, ema, hpa, hb1⟩
  have HA := Lib.hid ha
  have HB1 := Lib.hid hb1
  have HPA := Lib.hid hpa
  have HSA := Lib.hid (HSM.out.permS eva ema hpa)
  have HGA := Lib.hid (HG.out.permS eva ema hpa)
  have HVA := Lib.hid eva
  clear ha hb1 eva ema hpa
  go_wp2_with fail
  refine (copyM_any bm c' m.s m.served F0 _ (HF1.out.below HB1.out)).mono ?_
  rintro e w2 ⟨bb, sb, rfl, hbb, evb, emb, hpb, hb2⟩
  have HBB := Lib.hid hbb
  have HB2 := Lib.hid hb2
  have HSB := Lib.hid (HSM.out.permS evb emb hpb)
  have HGB := Lib.hid (HG.out.permS evb emb hpb)
  clear hbb hb2 evb emb hpb
  go_wp2_with fail
  refine (do_any ba c' ⟨sa, m.served⟩ _ (batD N') _ (HA.out.below HB2.out) (HGA.out.bat (by omega)) (batD_ok hN') hcR.ok.unit hcR.ok.shards).mono ?_
  rintro e w3 ⟨ao2, cap2, G, rfl, row, -, md, hG, f⟩
  have HBA := Lib.hid (batA_of HT.out HB1.out HBB.out HB2.out row md hG f)
  clear row md hG f
  go_upto_region 15 with fail
  generalize (fun k => w1.heap.size ≤ k ∧ k < w2.heap.size) = Fb at HBA
  obtain ⟨r, hr⟩ : ∃ r, ((⟨sa, m.served⟩ : MdS).doo c' (batD N')).2 = r := ⟨_, rfl⟩
  obtain ⟨ma, hma⟩ : ∃ ma, ((⟨sa, m.served⟩ : MdS).doo c' (batD N')).1 = ma := ⟨_, rfl⟩
  rw [hr] at HBA ⊢
  rw [hma] at HBA
  generalize w3.alloc (.cells #[.int .i64 r.e, .slice ao2 r.ps.length cap2, .int .i64 r.n, .int .u64 r.v] 40) = w4 at *
  have r0 : w4.cell? ⟨w3.heap.size, 0, none⟩ = some (.int .i64 r.e) := HBA.out.rb.cell 0
  have r1 : w4.cell? ⟨w3.heap.size, 1, none⟩ = some (.slice ao2 r.ps.length cap2) := HBA.out.rb.cell 1
  have r2 : w4.cell? ⟨w3.heap.size, 2, none⟩ = some (.int .i64 r.n) := HBA.out.rb.cell 2
  have r3 : w4.cell? ⟨w3.heap.size, 3, none⟩ = some (.int .u64 r.v) := HBA.out.rb.cell 3
  have rl := HBA.out.rb.lt
  have HGM : Hid (ma.Good 65) := Lib.hid (by rw [← hma]; exact HGA.out.doo hcR.ok.unit (batD_ok hN'))
  by_cases hin : 1 ≤ N' ∧ N' ≤ 16
  · obtain ⟨j1, j2⟩ := hin
    obtain ⟨p1, p2, p3, p4, p5⟩ := bat_in (c := c') HSA.out HSB.out ⟨j1, j2⟩
    rw [hr] at p1
    rw [hma] at p2 p3 p4 p5
    obtain ⟨q, rfl⟩ : ∃ q : Nat, N' = (q : Int) := ⟨N'.toNat, by omega⟩
    rw [Int.toNat_natCast] at p1 p2 p3 p4 p5
    have hq : q ≤ 16 := by omega
    obtain ⟨RB, hRB⟩ : ∃ RB, (⟨sb, m.served⟩ : MdS).bat q [] = RB := ⟨_, rfl⟩
    rw [hRB] at p1 p2 p3 p4 p5
    have HP := Lib.hid (And.intro p1 (And.intro p2 (And.intro p3 (And.intro p4 p5))))
    have HRB := Lib.hid hRB
    have HL0 := Lib.hid HBA.out.loop
    clear r0 r1 r2 r3 rl p1 p2 p3 p4 p5 hr hma hRB
    go_upto_block 2 with fail
    go_cut [] from 14 to 103 (fun wx => ∃ (mk : MdS) (e : Int) (acc : List Pk) (ao' : Option Addr) (cap' : Nat), BatL w4 wx w4.heap.size bb c' mk Fb e acc ao' cap' ∧ RB = (mk, ⟨e, acc, 0, 0⟩) ∧ acc.length ≤ 16 ∧ mk.s.fs.length ≤ 1000000)
    case first =>
      generalize w4.alloc (.cells #[.int .i64 0, .slice none 0 0, .int .i64 0, .int .u64 0] 40) = W1 at *
      generalize w4.heap.size = X at *
      go_wp2_with fail
      go_loopw [14] (fun v14 wr => ∃ (k : Nat) (mk : MdS) (e : Int) (acc : List Pk) (ao' : Option Addr) (cap' : Nat), k ≤ q ∧ v14 = .int .i64 k ∧ BatAt q k ⟨sb, m.served⟩ mk e acc ∧ mk.Good (64 + k) ∧ acc.length ≤ k ∧ BatL w4 wr X bb c' mk Fb e acc ao' cap') (fun v14 _ => q - (intOf v14).toNat)
      case atStart => exact ⟨0, _, 0, [], none, 0, Nat.zero_le _, rfl, BatAt.start _ _, HGB.out, Nat.le_refl _, HL0.out⟩
      case round =>
        obtain ⟨k, mk, e, acc, ao', cap', hk, rfl, hbat, hgd, hal, bs⟩ := hrel
        have x0 : wr.cell? ⟨X, 0, none⟩ = some (.int .i64 e) := bs.out.cell 0
        have xl := bs.out.lt
        by_cases hl : k < q
        · have i1 : (k : Int) < (q : Int) := by omega
          by_cases he : e = 0
          · subst he
            obtain ⟨G, g1, g2, g3⟩ := bs.md
            have HQ := Lib.hid (fun w' hw => do_any bb c' mk G deqD w' (g1.below hw) (hgd.bat (by omega)) deqD_ok hcR.ok.unit hcR.ok.shards)
            have HBAT := Lib.hid (hbat.next hl)
            have HGD := Lib.hid hgd
            have BS := Lib.hid bs
            clear hbat bs g1 hgd
            go_wp2_with fail
            refine (HQ.out _ (Below.refl _ _)).mono ?_
            rintro e w5 ⟨ao1, cap1, G1, rfl, row1, n1, p1, s1, fr1⟩
            rw [doo_deq] at row1 p1 ⊢
            have B1 := BS.out.served (m' := mk.one) g2 g3 p1 s1 fr1
            have hrow1 := row1
            clear row1 n1 p1 s1 fr1 x0 xl
            obtain ⟨rr, hrr⟩ : ∃ rr, mk.oneRet = rr := ⟨_, rfl⟩
            have hlen : rr.ps.length ≤ 1 := by rw [← hrr]; exact oneRet_len _
            replace HBAT : Hid (BatAt q (k + 1) ⟨sb, m.served⟩ mk.one rr.e (acc ++ rr.ps)) := by rw [← hrr]; exact HBAT
            have hnv : rr.n = 0 ∧ rr.v = 0 := by rw [← hrr]; unfold MdS.oneRet; split <;> exact ⟨rfl, rfl⟩
            rw [hrr] at hrow1 ⊢
            have HG2 : Hid (mk.one.Good (64 + (k + 1))) := Lib.hid (by have := HGD.out.doo hcR.ok.unit deqD_ok (c := c'); rw [doo_deq] at this; exact this)
            have hb2 := below1 w5 (.cells #[.int .i64 rr.e, .slice ao1 rr.ps.length cap1, .int .i64 rr.n, .int .u64 rr.v] 40)
            have B2 := B1.below hb2
            have R2 := Blk.new w5 [.int .i64 rr.e, .slice ao1 rr.ps.length cap1, .int .i64 rr.n, .int .u64 rr.v] 40
            have D2 := owns_below (B := 0) hrow1 hb2
            have hXl := B1.out.lt
            have hXw := BS.out.out.lt
            clear hrr hb2 hrow1 B1 HQ hnv
            go_upto_region 22 with fail
            generalize w5.alloc (.cells #[.int .i64 rr.e, .slice ao1 rr.ps.length cap1, .int .i64 rr.n, .int .u64 rr.v] 40) = w6 at *
            have c0 : w6.cell? ⟨w5.heap.size, 0, none⟩ = some (.int .i64 rr.e) := R2.cell 0
            have c1 := R2.lt
            have x0 : w6.cell? ⟨X, 0, none⟩ = some (.int .i64 0) := B2.out.cell 0
            have xf := B2.out.frozen 0
            have xl := B2.out.lt
            have B3 := B2.setE rr.e
            have R3 := R2.set_far (a := ⟨X, 0, none⟩) (by simp only; omega) (.int .i64 rr.e)
            have HB3 := Lib.hid B3
            have HR3 := Lib.hid R3
            have D3 := owns_fr D2 (Fr.setCell (S := fun k => k = X) (Fr.refl _ w6) (a := ⟨X, 0, none⟩) (.inl rfl) (.int .i64 rr.e)) fun k hk e => by have := (D2.lt k hk).1; omega
            have HD3 := Lib.hid D3
            clear B2 R2 B3 R3 D2 D3
            go_upto_region 23 with fail
            generalize w6.setCell ⟨X, 0, none⟩ (.int .i64 rr.e) = w7 at *
            clear c0 c1 x0 xf xl
            have x1 : w7.cell? ⟨X, 1, none⟩ = some (.slice ao' acc.length cap') := HB3.out.out.cell 1
            have xf := HB3.out.out.frozen 1
            have xl := HB3.out.out.lt
            have y1 : w7.cell? ⟨w5.heap.size, 1, none⟩ = some (.slice ao1 rr.ps.length cap1) := HR3.out.cell 1
            have yl := HR3.out.lt
            have hLen := Lib.hid hlen
            have hal2 := Lib.hid hal
            clear hlen hal
            go_wp2_with ((at_builtin; refine ap_src w7 EP rfl _ _ rfl (X + 1) _ acc.length (pks acc) rfl HB3.out.row (by omega) ao1 rr.ps.length cap1 (pks rr.ps) rfl (fun h => (owns_cap HD3.out).2.2.2 h) (pks_length _) (fun j u hu => by obtain ⟨g, h1, -, -, h2⟩ := owns_at HD3.out hu; exact ⟨g, 0, h1, h2⟩) (pks_one _) (by have := hal2.out; have := hLen.out; omega) ?_; intro v' w8 hown8 hg8 hb8 hfr8; rw [← List.length_append, ← pks_append] at hown8; obtain ⟨acc5, hacc⟩ : ∃ l, Hid (l = acc ++ rr.ps) := ⟨_, Lib.hid rfl⟩; rw [← hacc.out] at hown8; obtain ⟨ao8, cap8, rfl⟩ := owns_slice hown8; have O8 := HB3.out.out.grown hg8 (by intro e; have := (HB3.out.row.lt X e).1; omega); have x4 := O8.cell 1; have xf4 := O8.frozen 1; have xl4 := O8.lt; simp only [List.getElem?_cons_succ, List.getElem?_cons_zero] at x4))
            have B5 := HB3.out.grow hown8 hg8 hfr8
            go_roundw
            case rel => exact ⟨k + 1, mk.one, rr.e, acc5, ao8, cap8, by omega, by go_num, by rw [hacc.out]; exact HBAT.out, HG2.out, by rw [hacc.out, List.length_append]; have := hal2.out; have := hLen.out; omega, B5⟩
            case measure => simp [intOf]; omega
          · have e2 : (e == 0) = false := by simpa using he
            have BS := Lib.hid bs
            have HF := Lib.hid (hbat.fin hk (fun h => he h.2))
            clear he bs hbat
            go_wp2
            go_meet
            exact ⟨mk, e, acc, ao', cap', BS.out, by rw [← HRB.out]; exact HF.out, by omega, Nat.le_trans hgd.ok.len (by omega)⟩
        · have i1 : ¬ (k : Int) < (q : Int) := by omega
          have BS := Lib.hid bs
          have HF := Lib.hid (hbat.fin hk (fun h => hl h.1))
          clear bs hbat
          go_wp2
          go_meet
          exact ⟨mk, e, acc, ao', cap', BS.out, by rw [← HRB.out]; exact HF.out, by omega, Nat.le_trans hgd.ok.len (by omega)⟩
    case rest =>
      obtain ⟨mk, e, acc, ao', cap', bs, hRB2, ha16, hmk⟩ := hcut
      obtain ⟨p1, p2, p3, p4, p5⟩ := HP.out
      rw [hRB2] at p1 p2 p3 p4 p5
      simp only at p1 p2 p3 p4 p5
      subst p1
      obtain ⟨OM, OA, RBK, ROW, BEL⟩ := HBA.out.after bs.fr
      have OB := bs.own HBA.out
      have hms := HG.out.ok.served
      have hmn : ma.s.fs.length ≤ 1000000 := Nat.le_trans HGM.out.ok.len (by omega)
      have CVA : Hid (∀ w', Below wc.heap.size wc w' → Calls Tryz.prog 17 #[.pointer (some ⟨ba, 0, none⟩)] w' fun e w2 => e = .returned (.int .u64 mk.s.v) ∧ w' = w2) := Lib.hid fun w' hb => by rw [← p2]; exact vM (OA.below hb)
      have CVB : Hid (∀ w', Below wc.heap.size wc w' → Calls Tryz.prog 17 #[.pointer (some ⟨bb, 0, none⟩)] w' fun e w2 => e = .returned (.int .u64 mk.s.v) ∧ w' = w2) := Lib.hid fun w' hb => vM (OB.below hb)
      have CDA : Hid (∀ w', Below wc.heap.size wc w' → Calls Tryz.prog 18 #[.pointer (some ⟨ba, 0, none⟩)] w' fun e w2 => e = .returned (.int .i64 (m.served + acc.length)) ∧ w' = w2) := Lib.hid fun w' hb => by rw [← p5]; exact servedM (OA.below hb)
      have CDB : Hid (∀ w', Below wc.heap.size wc w' → Calls Tryz.prog 18 #[.pointer (some ⟨bb, 0, none⟩)] w' fun e w2 => e = .returned (.int .i64 (m.served + acc.length)) ∧ w' = w2) := Lib.hid fun w' hb => by rw [← p5, p3]; exact servedM (OB.below hb)
      have CDM : Hid (∀ w', Below wc.heap.size wc w' → Calls Tryz.prog 18 #[.pointer (some ⟨bm, 0, none⟩)] w' fun e w2 => e = .returned (.int .i64 m.served) ∧ w' = w2) := Lib.hid fun w' hb => servedM (OM.below hb)
      obtain ⟨L, hL⟩ : ∃ L, mk.s.starts = L := ⟨_, rfl⟩
      have CSA : Hid (∀ w', Below wc.heap.size wc w' → Calls Tryz.prog 20 #[.pointer (some ⟨ba, 0, none⟩)] w' (GotE L L.length w')) := Lib.hid fun w' hb => gotE rfl (by obtain ⟨Fq, q1, -⟩ := OA; rw [← hL, ← p4]; exact mdStarts_any ba c' ma.s ma.served Fq w' (q1.below hb) hmn)
      have CSB : Hid (∀ w', Below wc.heap.size wc w' → Calls Tryz.prog 20 #[.pointer (some ⟨bb, 0, none⟩)] w' (GotE L L.length w')) := Lib.hid fun w' hb => gotE rfl (by obtain ⟨Fq, q1, -⟩ := OB; rw [← hL]; exact mdStarts_any bb c' mk.s mk.served Fq w' (q1.below hb) hmk)
      have CC : Hid (∀ w', Below wc.heap.size wc w' → w'.cell? ⟨w3.heap.size, 0, none⟩ = some (.int .i64 e) ∧ w'.cell? ⟨w3.heap.size, 1, none⟩ = some (.slice ao2 acc.length cap2) ∧ w'.cell? ⟨w3.heap.size, 2, none⟩ = some (.int .i64 0) ∧ w'.cell? ⟨w3.heap.size, 3, none⟩ = some (.int .u64 0) ∧ w'.cell? ⟨w4.heap.size, 0, none⟩ = some (.int .i64 e) ∧ w'.cell? ⟨w4.heap.size, 1, none⟩ = some (.slice ao' acc.length cap') ∧ w'.cell? ⟨w4.heap.size, 2, none⟩ = some (.int .i64 0) ∧ w'.cell? ⟨w4.heap.size, 3, none⟩ = some (.int .u64 0)) := Lib.hid fun w' hb =>
        ⟨(RBK.below hb).cell 0, (RBK.below hb).cell 1, (RBK.below hb).cell 2, (RBK.below hb).cell 3, (bs.out.below hb).cell 0, (bs.out.below hb).cell 1, (bs.out.below hb).cell 2, (bs.out.below hb).cell 3⟩
      have HR1 : Hid (∀ w', Below wc.heap.size wc w' → RdS w' ao2 acc.length cap2 3 (pks acc)) := Lib.hid fun w' hb => owns_rdS (owns_below (B := 0) ROW hb) (pks_one _)
      have HR2 : Hid (∀ w', Below wc.heap.size wc w' → RdS w' ao' acc.length cap' 3 (pks acc)) := Lib.hid fun w' hb => owns_rdS (owns_below (B := 0) bs.row hb) (pks_one _)
      have Td : Below wc.heap.size wc wc.drew := (Below.refl _ _).drew
      have HBEL := Lib.hid BEL
      have e1 : IntKind.i64.wrap (m.served + (acc.length : Int)) = m.served + (acc.length : Int) := by rw [IntWalk.i64_left, IntWalk.wrap64_in _ (by omega)]
      obtain ⟨ts, hts⟩ : ∃ ts, m.served + (acc.length : Int) = ts := ⟨_, rfl⟩
      rw [hts] at CDA CDB e1
      have E1 := Lib.hid e1
      have HTS := Lib.hid hts
      clear e1 hts
      clear OM OA RBK ROW BEL OB bs p2 p3 p4 p5 hRB2 hL
      generalize mk.s.v = tv at *
      have q1 : (tv == tv) = true := by simp
      have q2 : (ts == ts) = true := by simp
      go_upto_region 24 with fail
      go_region_held3 (fun w' => w'.cell? ⟨w3.heap.size, 0, none⟩ = some (.int .i64 e) ∧ w'.cell? ⟨w3.heap.size, 1, none⟩ = some (.slice ao2 acc.length cap2) ∧ w'.cell? ⟨w3.heap.size, 2, none⟩ = some (.int .i64 0) ∧ w'.cell? ⟨w3.heap.size, 3, none⟩ = some (.int .u64 0) ∧ w'.cell? ⟨w4.heap.size, 0, none⟩ = some (.int .i64 e) ∧ w'.cell? ⟨w4.heap.size, 1, none⟩ = some (.slice ao' acc.length cap') ∧ w'.cell? ⟨w4.heap.size, 2, none⟩ = some (.int .i64 0) ∧ w'.cell? ⟨w4.heap.size, 3, none⟩ = some (.int .u64 0)) (exact CC.out _ Td)
        (first
          | (go_at_call 16; refine (helpRet_any ⟨e, acc, 0, 0⟩ _ _ _ _ _ (HR1.out _ Td) (HR2.out _ Td)).mono ?_; rintro e' w8 ⟨rfl, hb8⟩; replace Td := Td.trans (hb8.mono Td.size))
          | (go_at_call 17; refine (CVA.out _ Td).mono ?_; rintro e' w9 ⟨rfl, rfl⟩)
          | (go_at_call 17; refine (CVB.out _ Td).mono ?_; rintro e' w9 ⟨rfl, rfl⟩)
          | (go_at_call 18; refine (CDA.out _ Td).mono ?_; rintro e' w9 ⟨rfl, rfl⟩)
          | (go_at_call 18; refine (CDB.out _ Td).mono ?_; rintro e' w9 ⟨rfl, rfl⟩)
          | (go_at_call 18; refine (CDM.out _ Td).mono ?_; rintro e' w9 ⟨rfl, rfl⟩)
          | (go_at_call 20; refine (CSA.out _ Td).mono ?_; rintro e' w10 ⟨a1, k1, rfl, rd1, hb1⟩; replace Td := Td.trans (hb1.mono Td.size))
          | (go_at_call 20; refine (CSB.out _ Td).mono ?_; rintro e' w11 ⟨a2, k2, rfl, rd2, hb2⟩; replace rd1 := rd1.below hb2; replace Td := Td.trans (hb2.mono Td.size))
          | (go_at_call 19; refine (plainE_any _ _ _ _ _ L _ rd1 rd2 rfl).mono ?_; rintro e' w12 ⟨rfl, hb3⟩; replace Td := Td.trans (hb3.mono Td.size)))
      go_wp2
      go_ret
      exact ⟨by simp [Act.eval, HTS.out, E1.out], HBEL.out.trans (Td.mono HBEL.out.size)⟩
  · have e1 : ((⟨sa, m.served⟩ : MdS).doo c' (batD N')) = (⟨sa, m.served⟩, ⟨1, [], 0, 0⟩) := bat_out hin
    rw [e1] at hr hma
    subst hr hma
    obtain ⟨OM, OA, -, ROW, BEL⟩ := HBA.out.after (Fr.refl _ _)
    have HOM := Lib.hid OM
    have HOA := Lib.hid OA
    have HROW := Lib.hid ROW
    have HBEL := Lib.hid BEL
    have HN := Lib.hid (owns_rdS (owns_nil w4 w4.heap.size 60 3) (pks_one []))
    clear OM OA ROW BEL
    have i3 : N' < 1 ∨ 1 ≤ N' ∧ 16 < N' := by omega
    rcases i3 with i1 | ⟨i1, i2⟩
    all_goals
      go_wp2_with fail
      refine (helpRet_any ⟨1, [], 0, 0⟩ _ _ _ _ _ (owns_rdS HROW.out (pks_one _)) HN.out).mono ?_
      rintro e w5 ⟨rfl, hb5⟩
      have OA5 := Lib.hid (HOA.out.below hb5)
      have OM5 := Lib.hid (HOM.out.below hb5)
      clear hb5
      go_wp2_with fail
      refine (vM OA5.out).mono ?_
      rintro e w' ⟨rfl, rfl⟩
      go_wp2_with fail
      refine (vM OM5.out).mono ?_
      rintro e w' ⟨rfl, rfl⟩
      have ev : sa.v = m.s.v := HVA.out
      rw [ev]
      go_wp2
      go_ret
      exact ⟨by simp, OM5.out.bel⟩
theorem ModelBatch_any (w : World) (c : List Value) (w0 : FlatOk [.int .i64, .int .i64, .int .i64, .int .i64, .int .u64] c) (ao : Option Addr) (n cap : Nat) (L : List (List Value)) (w1 : IsRows w [.int .i64, .int .i64, .int .i64, .int .i64] ao n cap L) (N : Int) (w2 : (Lit.int .i64 N).wf = true) :
    Calls Tryz.prog 3 #[.agg c.toArray, .slice ao n cap, .int .i64 N] w fun e w' => e = .returned (.bool true) ∧ Below w.heap.size w w' := by
  obtain ⟨d, rfl, hu⟩ := cfg_of w0
  obtain ⟨l, h⟩ := isRows_rdC w1
  exact batch11_in d hu ao n cap l N (wf_I64 w2) w h
end Go.Proofs.YtfgfjnlkgadkhaaGreat
