/- ModelCopies. -/
import Derived.Test.YtfgfjnlkgadkhaaGreatFour11
import Derived.Deep.CutRange
import Derived.Deep.CutBlock
import Derived.Deep.RegionHeld3
namespace Go.Proofs.YtfgfjnlkgadkhaaGreat
set_option linter.unusedVariables false
set_option linter.unusedSimpArgs false
set_option maxRecDepth 20000
open Go.RowKit Go.Proofs.YtfgfjnlkgadkhaaGreatMem Go.Proofs.YtfgfjnlkgadkhaaGreatFlat Go.Proofs.YtfgfjnlkgadkhaaGreatMapK

section
variable {w w0 wx wy : World} {K : Nat → Prop} {b x : Nat} {c : Cfg} {m y : MdS}
/-- What was made since is kept too. -/
theorem TwoK.also (h : TwoK w w0 wx K b x c m y) (hb : Below wx.heap.size wx wy) : TwoK w wy wy (fun k => K k ∨ (wx.heap.size ≤ k ∧ k < wy.heap.size)) b x c m y := by
  obtain ⟨F, G, h1, h2, h3, h4, h5, h6⟩ := h.two
  have z := h.fr.size
  refine ⟨⟨F, G, h1.below hb, h2.below hb, h3, h4, h5, ?_⟩, Fr.refl _ _, ?_, h.bel.trans (hb.mono h.bel.size)⟩
  · rintro k (hk | hk)
    · exact h6 k hk
    · exact ⟨fun hF => by have := h1.lt k hF; omega, fun hG => by have := h2.lt k hG; omega⟩
  · rintro k (hk | hk)
    · have := h.kl k hk; have := hb.size; omega
    · exact hk.2
theorem TwoK.row (h : TwoK w w0 wx K b x c m y) {base : Nat} {e : TypeId} {size : Nat} {v : Value} {n : Nat} {xs : List Value} (hr : w0.ownsRow base e size v n xs) (hK : ∀ k, v.ownBlock = some k → K k) : wx.ownsRow base e size v n xs :=
  owns_fr hr h.fr fun k hk hn => hn (hK k hk)
theorem TwoK.blk (h : TwoK w w0 wx K b x c m y) {a : Nat} {cs : List Value} {t : TypeId} (hb : Blk w0 a cs t) (hK : K a) : Blk wx a cs t := hb.of_eq (h.eq hK)
theorem TwoK.md (h : TwoK w w0 wx K b x c m y) : ∃ F : Nat → Prop, MdAt wx b c m.s m.served F := let ⟨F, G, h1, _⟩ := h.two; ⟨F, h1⟩
theorem startsTK (h : TwoM w wx b x c m y) (hn : m.s.fs.length ≤ 1000000) : Calls Tryz.prog 20 #[.pointer (some ⟨b, 0, none⟩)] wx fun e w' => ∃ ao cap, e = .returned (.slice ao m.s.starts.length cap) ∧ w'.ownsRow wx.heap.size 47 2 (.slice ao m.s.starts.length cap) m.s.starts.length (entC m.s.starts) ∧ Below wx.heap.size wx w' := by
  obtain ⟨F, h1, -⟩ := h.own
  refine (mdStarts_any b c m.s m.served F wx h1 hn).mono ?_
  rintro e w' ⟨v, rfl, hr, hb⟩
  obtain ⟨ao, cap, rfl⟩ := owns_slice hr
  exact ⟨ao, cap, rfl, hr, hb⟩
def SfS.idsS (s : SfS) : List Int := s.ids.mergeSort fun x y => decide (x ≤ y)
theorem flowsTK (h : TwoM w wx b x c m y) (hi : ∀ e ∈ m.s.fs, I64 e.1) (hn : m.s.fs.length ≤ 1000000) : Calls Tryz.prog 22 #[.pointer (some ⟨b, 0, none⟩)] wx fun e w' => ∃ ao cap, e = .returned (.slice ao m.s.fs.length cap) ∧ w'.ownsRow wx.heap.size 3 1 (.slice ao m.s.fs.length cap) m.s.fs.length (m.s.idsS.map (Value.int .i64)) ∧ Below wx.heap.size wx w' := by
  obtain ⟨F, h1, -⟩ := h.own
  refine (mdFlows_any b c m.s m.served F wx h1 hi hn).mono ?_
  rintro e w' ⟨v, rfl, hr, hb⟩
  obtain ⟨ao, cap, rfl⟩ := owns_slice hr
  exact ⟨ao, cap, rfl, hr, hb⟩
end
structure Run22 (w wr : World) (c : Cfg) (b x b2 x2 : Nat) (k : Nat) : Prop where
  ex : ∃ m y m2 y2, Q11 w wr c b x m y b2 x2 m2 y2 ∧ MSim m y ∧ m.Good k ∧ MSim m2 y2 ∧ m2.Good k
set_option maxHeartbeats 8000000 in
theorem copies11_in (c : Cfg) (hu : W64 c.unit) (ao : Option Addr) (n cap : Nat) (l : List CallS) (a2 : Option Addr) (n2 cap2 : Nat) (l2 : List CallS) (a3 : Option Addr) (n3 cap3 : Nat) (l3 : List CallS) (w : World) (h : RdC w ao n cap l) (h2 : RdC w a2 n2 cap2 l2) (h3 : RdC w a3 n3 cap3 l3) :
    Calls Tryz.prog 8 #[.agg #[.int .i64 c.shards, .int .i64 c.slots, .int .i64 c.workers, .int .i64 c.width, .int .u64 c.unit], .slice ao n cap, .slice a2 n2 cap2, .slice a3 n3 cap3] w fun e w' => e = .returned (.bool true) ∧ Below w.heap.size w w' := by
  have I := CfgIn.start w c
  have hcR := confP_r c hu
  have hle := h.rd.le
  have hsm := h.rd.small
  have HRD := Lib.hid h
  have HRD2 := Lib.hid h2
  have HRD3 := Lib.hid h3
  clear h h2 h3
  go_enter Tryz.func8, Tryz.ntmps8
  go_upto_region 1 with fail
  generalize (w.alloc (.cells #[.int .i64 c.shards, .int .i64 c.slots, .int .i64 c.workers, .int .i64 c.width, .int .u64 c.unit] 24)) = W at *
  obtain ⟨x0, x1, x2, x3, x4, xl⟩ := I.cells
  have hb0 := I.bel
  clear I
  go_wp2_with fail
  refine (made_any c hu true _).mono ?_
  rintro e W1 ⟨b, x, rfl, T1⟩
  replace T1 := T1.base hb0
  generalize confP c = c' at *
  have S1 : Run11 w W1 b x c' 4 := ⟨_, _, T1, made_sim c' true, made_good c' hcR true⟩
  have HS1 := Lib.hid S1
  clear T1 S1 x0 x1 x2 x3 x4 xl hb0
  go_wp2_with fail
  refine (awake11_any _).mono ?_
  rintro e W2 ⟨rfl, hb2⟩
  have HS2 := Lib.hid (HS1.out.below hb2)
  clear hb2 HS1
  go_upto_block 0 with fail
  go_cut [] from 11 to 60 (fun wx => Run11 w wx b x c' 44)
  case first =>
    go_wp2_with fail
    go_loopw [11] (fun v7 wr => ∃ k : Nat, k ≤ n ∧ k ≤ 40 ∧ v7 = .int .i64 k ∧ Run11 w wr b x c' (4 + k)) (fun v7 _ => 40 - (intOf v7).toNat)
    case atStart => exact ⟨0, Nat.zero_le _, Nat.zero_le _, rfl, HS2.out⟩
    case round =>
      obtain ⟨k, hk, hk8, rfl, rn⟩ := hrel
      by_cases hlx : k < n ∧ k < 40
      · obtain ⟨hl, h8⟩ := hlx
        have i1 : (k : Int) < (n : Int) := by omega
        have i2 : (k : Int) < 40 := by omega
        obtain ⟨m, y, t, hs, hg⟩ := rn.ex
        obtain ⟨bl, o, rfl, hbl, q0, q1, q2, q3⟩ := HRD.out.at hl t.bel
        have hdo := callP_ok (HRD.out.nth_ok hl)
        have HT := Lib.hid t
        have HSM := Lib.hid hs
        have HG := Lib.hid hg
        clear t hs hg rn
        generalize hd : nthC l k = d at *
        replace hd := Lib.hid hd
        go_wp2_with fail
        refine (callP_any d _).mono ?_
        rintro e w3 ⟨rfl, hb3⟩
        clear q0 q1 q2 q3
        generalize callP d = d' at *
        have X0 : Blk (w3.alloc (.cells #[.int .i64 d'.op, .int .i64 d'.flow, .int .i64 d'.a, .int .i64 d'.b] 33)) w3.heap.size d'.cells 33 := Blk.new w3 d'.cells 33
        have hbx : Below wr.heap.size wr (w3.alloc (.cells #[.int .i64 d'.op, .int .i64 d'.flow, .int .i64 d'.a, .int .i64 d'.b] 33)) := hb3.trans ((below1 w3 _).mono hb3.size)
        have hz3 := hb3.size
        have HX0 := Lib.hid X0
        have HBX := Lib.hid hbx
        clear X0 hbx hb3
        go_upto_region 8 with fail
        generalize (w3.alloc (.cells #[.int .i64 d'.op, .int .i64 d'.flow, .int .i64 d'.a, .int .i64 d'.b] 33)) = w4 at *
        generalize w3.heap.size = X at *
        have ql := HX0.out.lt
        have HTK := Lib.hid (HT.out.kept HBX.out (fun k => k = X) fun k hk => by subst hk; exact ⟨hz3, ql⟩)
        have q0 : w4.cell? ⟨X, 0, none⟩ = some (.int .i64 d'.op) := HX0.out.cell 0
        have q1 : w4.cell? ⟨X, 1, none⟩ = some (.int .i64 d'.flow) := HX0.out.cell 1
        have q2 : w4.cell? ⟨X, 2, none⟩ = some (.int .i64 d'.a) := HX0.out.cell 2
        have q3 : w4.cell? ⟨X, 3, none⟩ = some (.int .i64 d'.b) := HX0.out.cell 3
        go_wp2_with fail
        refine (doK HTK.out (HG.out.bat (by omega)) hcR d' hdo).mono ?_
        rintro e w7 ⟨a7, c7, rfl, row7, tk7, tr7, hz7⟩
        have HRET := Lib.hid (HSM.out.doo c' d').2
        have HS8 := Lib.hid (HSM.out.doo c' d').1
        have HG8 := Lib.hid (HG.out.doo hcR.ok.unit hdo)
        have HY := Lib.hid ((HSM.out.good HG.out).bat (show 4 + k ≤ 1000000 by omega))
        have bx7 := tk7.blk HX0.out rfl
        obtain ⟨r, hr⟩ : ∃ r, (m.doo c' d').2 = r := ⟨_, rfl⟩
        obtain ⟨m', hm'⟩ : ∃ m', (m.doo c' d').1 = m' := ⟨_, rfl⟩
        rw [hr] at HRET row7 ⊢
        rw [hm'] at tk7 tr7 HS8 HG8
        have hb8 := below1 w7 (.cells #[.int .i64 r.e, .slice a7 r.ps.length c7, .int .i64 r.n, .int .u64 r.v] 40)
        have B14 := Blk.new w7 [.int .i64 r.e, .slice a7 r.ps.length c7, .int .i64 r.n, .int .u64 r.v] 40
        have bx8 := bx7.below hb8
        have HT8 := Lib.hid (tr7.also hb8)
        have HROW8 := Lib.hid (owns_below (B := 0) row7 hb8)
        have HB14 := Lib.hid B14
        have HBX8 := Lib.hid bx8
        have HK7 : Hid (∀ k, (Value.slice a7 r.ps.length c7).ownBlock = some k → KRow (fun k => k = X) a7 k) := Lib.hid (fun k hk => .inr (by cases a7 with | none => cases hk | some a => cases hk; exact ⟨a, rfl, rfl⟩))
        have HKX : Hid (KRow (fun k => k = X) a7 X) := Lib.hid (.inl rfl)
        have hzw : w.heap.size ≤ w4.heap.size := Nat.le_trans HT.out.bel.size HBX.out.size
        clear row7 B14 bx8 bx7 tk7 tr7 q0 q1 q2 q3 hr hm' HTK
        go_upto_region 9 with fail
        generalize w7.alloc (.cells #[.int .i64 r.e, .slice a7 r.ps.length c7, .int .i64 r.n, .int .u64 r.v] 40) = w8 at *
        have hl7 := HB14.out.lt
        have hS : w8.drew.cell? ⟨w7.heap.size, 0, none⟩ = some (.int .i64 r.e) ∧ w8.drew.cell? ⟨w7.heap.size, 1, none⟩ = some (.slice a7 r.ps.length c7) ∧ w8.drew.cell? ⟨w7.heap.size, 2, none⟩ = some (.int .i64 r.n) ∧ w8.drew.cell? ⟨w7.heap.size, 3, none⟩ = some (.int .u64 r.v) ∧ w8.drew.cell? ⟨X, 0, none⟩ = some (.int .i64 d'.op) ∧ w8.drew.cell? ⟨X, 1, none⟩ = some (.int .i64 d'.flow) ∧ w8.drew.cell? ⟨X, 2, none⟩ = some (.int .i64 d'.a) ∧ w8.drew.cell? ⟨X, 3, none⟩ = some (.int .i64 d'.b) := ⟨HB14.out.cell 0, HB14.out.cell 1, HB14.out.cell 2, HB14.out.cell 3, HBX8.out.cell 0, HBX8.out.cell 1, HBX8.out.cell 2, HBX8.out.cell 3⟩
        go_region_held3 (fun w' => w'.cell? ⟨w7.heap.size, 0, none⟩ = some (.int .i64 r.e) ∧ w'.cell? ⟨w7.heap.size, 1, none⟩ = some (.slice a7 r.ps.length c7) ∧ w'.cell? ⟨w7.heap.size, 2, none⟩ = some (.int .i64 r.n) ∧ w'.cell? ⟨w7.heap.size, 3, none⟩ = some (.int .u64 r.v) ∧ w'.cell? ⟨X, 0, none⟩ = some (.int .i64 d'.op) ∧ w'.cell? ⟨X, 1, none⟩ = some (.int .i64 d'.flow) ∧ w'.cell? ⟨X, 2, none⟩ = some (.int .i64 d'.a) ∧ w'.cell? ⟨X, 3, none⟩ = some (.int .i64 d'.b)) (first | with_reducible exact hS | with_reducible exact hS9 | with_reducible exact hS10)
          (first
            | (go_at_call 24; refine (doRK (HT8.out.below (Below.refl _ _).drew) HY.out hcR d' hdo).mono ?_; rw [← HRET.out]; rintro e w9 ⟨a9, c9, rfl, row9, t9, t9r, hz9⟩; have B9 := t9.blk HB14.out (.inr ⟨Nat.le_refl _, hl7⟩); have X9 := t9.blk HBX8.out (.inl HKX.out); have hS9 : w9.cell? ⟨w7.heap.size, 0, none⟩ = some (.int .i64 r.e) ∧ w9.cell? ⟨w7.heap.size, 1, none⟩ = some (.slice a7 r.ps.length c7) ∧ w9.cell? ⟨w7.heap.size, 2, none⟩ = some (.int .i64 r.n) ∧ w9.cell? ⟨w7.heap.size, 3, none⟩ = some (.int .u64 r.v) ∧ w9.cell? ⟨X, 0, none⟩ = some (.int .i64 d'.op) ∧ w9.cell? ⟨X, 1, none⟩ = some (.int .i64 d'.flow) ∧ w9.cell? ⟨X, 2, none⟩ = some (.int .i64 d'.a) ∧ w9.cell? ⟨X, 3, none⟩ = some (.int .i64 d'.b) := ⟨B9.cell 0, B9.cell 1, B9.cell 2, B9.cell 3, X9.cell 0, X9.cell 1, X9.cell 2, X9.cell 3⟩; have HB9 := Lib.hid B9; have HX9 := Lib.hid X9; have HR7 := Lib.hid (t9.row HROW8.out (fun k hk => .inl (HK7.out k hk))); have HR9 := Lib.hid row9; have HT9 := Lib.hid t9; clear B9 X9 row9 t9 t9r)
            | (go_at_call 16; refine (helpRet_any _ _ _ _ _ _ (owns_rdS HR7.out (pks_one _)) (owns_rdS HR9.out (pks_one _))).mono ?_; rintro e w10 ⟨rfl, hb10⟩; have B10 := HB9.out.below hb10; have X10 := HX9.out.below hb10; have hS10 : w10.cell? ⟨w7.heap.size, 0, none⟩ = some (.int .i64 r.e) ∧ w10.cell? ⟨w7.heap.size, 1, none⟩ = some (.slice a7 r.ps.length c7) ∧ w10.cell? ⟨w7.heap.size, 2, none⟩ = some (.int .i64 r.n) ∧ w10.cell? ⟨w7.heap.size, 3, none⟩ = some (.int .u64 r.v) ∧ w10.cell? ⟨X, 0, none⟩ = some (.int .i64 d'.op) ∧ w10.cell? ⟨X, 1, none⟩ = some (.int .i64 d'.flow) ∧ w10.cell? ⟨X, 2, none⟩ = some (.int .i64 d'.a) ∧ w10.cell? ⟨X, 3, none⟩ = some (.int .i64 d'.b) := ⟨B10.cell 0, B10.cell 1, B10.cell 2, B10.cell 3, X10.cell 0, X10.cell 1, X10.cell 2, X10.cell 3⟩; have HB10 := Lib.hid hb10; have HB14' := Lib.hid B10; clear hb10 X10 B10))
        have HT10 := Lib.hid (HT9.out.below HB10.out)
        have HR10 := Lib.hid (owns_below (B := 0) HR7.out HB10.out)
        have u1 : w10.cell? ⟨w7.heap.size, 1, none⟩ = some (.slice a7 r.ps.length c7) := HB14'.out.cell 1
        have ul := HB14'.out.lt
        clear hS
        go_wp2_with fail
        refine (spoilP_any _ _ _ _ _ HR10.out).mono ?_
        rintro e w11 ⟨rfl, hf11⟩
        have T11 : TwoM w w11 b x c' m' _ := HT10.out.spoil hf11 (fun k hk => ⟨.inl (HK7.out k hk), by have := (HROW8.out.lt k hk).1; omega⟩)
        have HT11 := Lib.hid T11
        have hmn : m'.s.fs.length ≤ 1000000 := Nat.le_trans HG8.out.ok.len (by omega)
        have hmi := HG8.out.ok.s.ids
        clear T11 hf11 u1 ul
        go_wp2_with fail
        refine (startsTK HT11.out hmn).mono ?_
        rintro e w12 ⟨a12, c12, rfl, row12, hb12⟩
        go_wp2_with fail
        refine (spoilE_any _ _ _ _ _ row12 hb12.size).mono ?_
        rintro e w13 ⟨rfl, hb13⟩
        have HT13 := Lib.hid (HT11.out.below (hb12.trans hb13))
        clear hb12 hb13 row12
        go_wp2_with fail
        refine (flowsTK HT13.out hmi hmn).mono ?_
        rintro e w14 ⟨a14, c14, rfl, row14, hb14⟩
        go_wp2_with fail
        refine (spoilZ_any _ _ _ _ _ row14 hb14.size).mono ?_
        rintro e w15 ⟨rfl, hb15⟩
        have S6 : Run11 w w15 b x c' (4 + (k + 1)) := ⟨_, _, HT13.out.below (hb14.trans hb15), HS8.out, HG8.out⟩
        have HS6 := Lib.hid S6
        clear S6 hb14 hb15 row14
        go_wp2
        go_roundw
        case rel => exact ⟨k + 1, by omega, by omega, by go_num, HS6.out⟩
        case measure => simp [intOf]; omega
      · obtain ⟨m, y, t, hs, hg⟩ := rn.ex
        have S5 : Run11 w wr b x c' 44 := ⟨m, y, t, hs, hg.mono (by omega)⟩
        have HS5 := Lib.hid S5
        clear t hs hg rn S5
        have i3 : (n : Int) ≤ (k : Int) ∨ (k : Int) < (n : Int) ∧ 40 ≤ (k : Int) := by omega
        rcases i3 with i1 | ⟨i1, i2⟩
        all_goals
          go_wp2
          go_meet
          exact HS5.out
  case rest =>
  have HS5 := Lib.hid hcut
  clear hcut HS2
  obtain ⟨m, y, t, hs, hg⟩ := HS5.out.ex
  have HT := Lib.hid t
  have HSM := Lib.hid hs
  have HG := Lib.hid hg
  have hyn : y.s.fs.length ≤ 1000000 := Nat.le_trans (hs.good hg).ok.len (by omega)
  obtain ⟨F0, G0, f1, g1, -, -, -, -⟩ := t
  clear hs hg HS5
  go_wp2_with fail
  refine (copyM_any b c' m.s m.served F0 _ f1).mono ?_
  rintro e w1 ⟨b2, sa, rfl, ha, eva, ema, hpa, hb1⟩
  go_wp2_with fail
  refine (copyRM_any x c' y.s y.served G0 _ (g1.below hb1) hyn).mono ?_
  rintro e w2 ⟨x2, rfl, hr, hb2⟩
  have HQ1 := Lib.hid (q11_of (m2 := ⟨sa, m.served⟩) (y2 := y) HT.out ha hb1 hr hb2)
  have HSA := Lib.hid (HSM.out.permS eva ema hpa)
  have HGA := Lib.hid (HG.out.permS eva ema hpa)
  clear ha hb1 hr hb2 eva ema hpa f1 g1
  go_wp2_with fail
  refine (looks11_any HQ1.out.symm.two HSA.out HGA.out (by omega) 0).mono ?_
  rintro e w3 ⟨rfl, hb3⟩
  have S3 : Run22 w w3 c' b x b2 x2 44 := ⟨_, _, _, _, HQ1.out.below hb3, HSM.out, HG.out, HSA.out, HGA.out⟩
  have HS3 := Lib.hid S3
  clear hb3 S3 HQ1 HSA HGA HT HSM HG
  go_upto_block 2 with fail
  go_cut [] from 16 to 108 (fun wx => Run22 w wx c' b x b2 x2 84)
  case first =>
    go_wp2_with fail
    go_loopw [16] (fun v7 wr => ∃ k : Nat, k ≤ 40 ∧ v7 = .int .i64 k ∧ Run22 w wr c' b x b2 x2 (44 + k)) (fun v7 _ => 40 - (intOf v7).toNat)
    case atStart => exact ⟨0, Nat.zero_le _, rfl, HS3.out⟩
    case round =>
      obtain ⟨k, hk, rfl, rn⟩ := hrel
      by_cases hl : k < 40
      · have i0 : (k : Int) < 40 := by omega
        obtain ⟨m, y, m2, y2, q, hs, hg, hs2, hg2⟩ := rn.ex
        have HQ := Lib.hid q
        have HSM := Lib.hid hs
        have HG := Lib.hid hg
        have HSM2 := Lib.hid hs2
        have HG2 := Lib.hid hg2
        clear q hs hg hs2 hg2 rn
        by_cases hA : k < n2
        · have iA : (k : Int) < (n2 : Int) := by omega
          by_cases hB : k < n3
          · have iB : (k : Int) < (n3 : Int) := by omega
            obtain ⟨bl, o, rfl, hbl, p0, p1, p2, p3⟩ := HRD2.out.at hA HQ.out.two.bel
            obtain ⟨bl3, o3, rfl, -, -, -, -, -⟩ := HRD3.out.at hB HQ.out.two.bel
            have hdo2 := callP_ok (HRD2.out.nth_ok hA)
            go_wp2_with fail
            refine (callP_any (nthC l2 k) _).mono ?_
            rintro e w4 ⟨rfl, hb4⟩
            obtain ⟨K, tk, kk⟩ := (HQ.out.below hb4).toK
            have HKK := Lib.hid kk
            have HTK := Lib.hid tk
            clear hb4 p0 p1 p2 p3 tk kk
            generalize callP (nthC l2 k) = d' at *
            go_wp2_with fail
            refine (step11_any HTK.out HSM.out HG.out (by omega) hcR d' hdo2).mono ?_
            rintro e w5 ⟨rfl, t5⟩
            have HQ5 := Lib.hid (HKK.out _ _ _ t5)
            have HSM5 := Lib.hid (HSM.out.doo c' d').1
            have HG5 := Lib.hid (HG.out.doo hcR.ok.unit hdo2 (c := c'))
            clear t5
            obtain ⟨bl', o', e', hbl', r0, r1, r2, r3⟩ := HRD3.out.at hB HQ5.out.two.bel
            cases e'
            have hdo3 := callP_ok (HRD3.out.nth_ok hB)
            go_wp2_with fail
            refine (callP_any (nthC l3 k) _).mono ?_
            rintro e w6 ⟨rfl, hb6⟩
            obtain ⟨K3, tk3, kk3⟩ := (HQ5.out.below hb6).symm.toK
            have HKK3 := Lib.hid kk3
            have HTK3 := Lib.hid tk3
            clear hb6 r0 r1 r2 r3 tk3 kk3
            generalize callP (nthC l3 k) = d3 at *
            go_wp2_with fail
            refine (step11_any HTK3.out HSM2.out HG2.out (by omega) hcR d3 hdo3).mono ?_
            rintro e w7 ⟨rfl, t7⟩
            have S7 : Run22 w w7 c' b x b2 x2 (44 + (k + 1)) := ⟨_, _, _, _, (HKK3.out _ _ _ t7).symm, HSM5.out, HG5.out, (HSM2.out.doo c' d3).1, HG2.out.doo hcR.ok.unit hdo3⟩
            have HS7 := Lib.hid S7
            clear t7 S7
            go_wp2
            go_roundw
            case rel => exact ⟨k + 1, by omega, by go_num, HS7.out⟩
            case measure => simp [intOf]; omega
          · have iB : ¬ (k : Int) < (n3 : Int) := by omega
            obtain ⟨bl, o, rfl, hbl, p0, p1, p2, p3⟩ := HRD2.out.at hA HQ.out.two.bel
            have hdo2 := callP_ok (HRD2.out.nth_ok hA)
            go_wp2_with fail
            refine (callP_any (nthC l2 k) _).mono ?_
            rintro e w4 ⟨rfl, hb4⟩
            obtain ⟨K, tk, kk⟩ := (HQ.out.below hb4).toK
            have HKK := Lib.hid kk
            have HTK := Lib.hid tk
            clear hb4 p0 p1 p2 p3 tk kk
            generalize callP (nthC l2 k) = d' at *
            go_wp2_with fail
            refine (step11_any HTK.out HSM.out HG.out (by omega) hcR d' hdo2).mono ?_
            rintro e w5 ⟨rfl, t5⟩
            have HQ5 := Lib.hid (HKK.out _ _ _ t5)
            have HSM5 := Lib.hid (HSM.out.doo c' d').1
            have HG5 := Lib.hid (HG.out.doo hcR.ok.unit hdo2 (c := c'))
            clear t5
            have S7 : Run22 w w5 c' b x b2 x2 (44 + (k + 1)) := ⟨_, _, _, _, HQ5.out, HSM5.out, HG5.out, HSM2.out, HG2.out.mono (by omega)⟩
            have HS7 := Lib.hid S7
            clear S7
            go_wp2
            go_roundw
            case rel => exact ⟨k + 1, by omega, by go_num, HS7.out⟩
            case measure => simp [intOf]; omega
        · have iA : ¬ (k : Int) < (n2 : Int) := by omega
          by_cases hB : k < n3
          · have iB : (k : Int) < (n3 : Int) := by omega
            obtain ⟨bl3, o3, rfl, -, -, -, -, -⟩ := HRD3.out.at hB HQ.out.two.bel
            have HQ5 := HQ
            have HSM5 := HSM
            have HG5 : Hid (m.Good (44 + k + 1)) := Lib.hid (HG.out.mono (by omega))
            obtain ⟨bl', o', e', hbl', r0, r1, r2, r3⟩ := HRD3.out.at hB HQ5.out.two.bel
            cases e'
            have hdo3 := callP_ok (HRD3.out.nth_ok hB)
            go_wp2_with fail
            refine (callP_any (nthC l3 k) _).mono ?_
            rintro e w6 ⟨rfl, hb6⟩
            obtain ⟨K3, tk3, kk3⟩ := (HQ5.out.below hb6).symm.toK
            have HKK3 := Lib.hid kk3
            have HTK3 := Lib.hid tk3
            clear hb6 r0 r1 r2 r3 tk3 kk3
            generalize callP (nthC l3 k) = d3 at *
            go_wp2_with fail
            refine (step11_any HTK3.out HSM2.out HG2.out (by omega) hcR d3 hdo3).mono ?_
            rintro e w7 ⟨rfl, t7⟩
            have S7 : Run22 w w7 c' b x b2 x2 (44 + (k + 1)) := ⟨_, _, _, _, (HKK3.out _ _ _ t7).symm, HSM5.out, HG5.out, (HSM2.out.doo c' d3).1, HG2.out.doo hcR.ok.unit hdo3⟩
            have HS7 := Lib.hid S7
            clear t7 S7
            go_wp2
            go_roundw
            case rel => exact ⟨k + 1, by omega, by go_num, HS7.out⟩
            case measure => simp [intOf]; omega
          · have iB : ¬ (k : Int) < (n3 : Int) := by omega
            have HQ5 := HQ
            have HSM5 := HSM
            have HG5 : Hid (m.Good (44 + k + 1)) := Lib.hid (HG.out.mono (by omega))
            have S7 : Run22 w wr c' b x b2 x2 (44 + (k + 1)) := ⟨_, _, _, _, HQ5.out, HSM5.out, HG5.out, HSM2.out, HG2.out.mono (by omega)⟩
            have HS7 := Lib.hid S7
            clear S7
            go_wp2
            go_roundw
            case rel => exact ⟨k + 1, by omega, by go_num, HS7.out⟩
            case measure => simp [intOf]; omega
      · have i0 : ¬ (k : Int) < 40 := by omega
        obtain rfl : k = 40 := by omega
        have HS4 := Lib.hid rn
        clear rn
        go_wp2
        go_meet
        exact HS4.out
  case rest =>
  obtain ⟨m, y, m2, y2, q, hs, hg, hs2, hg2⟩ := hcut.ex
  have HQ := Lib.hid q
  have HSM := Lib.hid hs
  have HG := Lib.hid hg
  have HSM2 := Lib.hid hs2
  have HG2 := Lib.hid hg2
  clear q hs hg hs2 hg2 hcut
  go_wp2_with fail
  refine (looks11_any HQ.out.two HSM.out HG.out (by omega) 1).mono ?_
  rintro e w8 ⟨rfl, hb8⟩
  have HQ8 := Lib.hid (HQ.out.below hb8)
  clear hb8
  go_wp2_with fail
  refine (looks11_any HQ8.out.symm.two HSM2.out HG2.out (by omega) 1).mono ?_
  rintro e w9 ⟨rfl, hb9⟩
  have HQ9 := Lib.hid (HQ8.out.below hb9)
  clear hb9
  go_wp2
  go_ret
  exact ⟨rfl, HQ9.out.two.bel⟩
theorem ModelCopies_any (w : World) (c : List Value) (w0 : FlatOk [.int .i64, .int .i64, .int .i64, .int .i64, .int .u64] c) (ao : Option Addr) (n cap : Nat) (L : List (List Value)) (w1 : IsRows w [.int .i64, .int .i64, .int .i64, .int .i64] ao n cap L) (ao2 : Option Addr) (n2 cap2 : Nat) (L2 : List (List Value)) (w2 : IsRows w [.int .i64, .int .i64, .int .i64, .int .i64] ao2 n2 cap2 L2) (ao3 : Option Addr) (n3 cap3 : Nat) (L3 : List (List Value)) (w3 : IsRows w [.int .i64, .int .i64, .int .i64, .int .i64] ao3 n3 cap3 L3) :
    Calls Tryz.prog 8 #[.agg c.toArray, .slice ao n cap, .slice ao2 n2 cap2, .slice ao3 n3 cap3] w fun e w' => e = .returned (.bool true) ∧ Below w.heap.size w w' := by
  obtain ⟨d, rfl, hu⟩ := cfg_of w0
  obtain ⟨l, h⟩ := isRows_rdC w1
  obtain ⟨l2, h2⟩ := isRows_rdC w2
  obtain ⟨l3, h3⟩ := isRows_rdC w3
  exact copies11_in d hu ao n cap l ao2 n2 cap2 l2 ao3 n3 cap3 l3 w h h2 h3
end Go.Proofs.YtfgfjnlkgadkhaaGreat
