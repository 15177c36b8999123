/- ModelRefused. -/
import Derived.Test.YtfgfjnlkgadkhaaGreatRefL
import Derived.Deep.CutRange
import Derived.Deep.RegionHeld3
namespace Go.Proofs.YtfgfjnlkgadkhaaGreat
set_option linter.unusedVariables false
set_option linter.unusedSimpArgs false
set_option maxRecDepth 20000
open Go.RowKit Go.Proofs.YtfgfjnlkgadkhaaGreatMem Go.Proofs.YtfgfjnlkgadkhaaGreatFlat Go.Proofs.YtfgfjnlkgadkhaaGreatMapK

section
variable {w w0 wx wy : World} {K : Nat → Prop} {b x : Nat} {c : Cfg} {m y : MdS}
/-- What was made since is kept too. -/
theorem TwoK.also (h : TwoK w w0 wx K b x c m y) (hb : Below wx.heap.size wx wy) : TwoK w wy wy (fun k => K k ∨ (wx.heap.size ≤ k ∧ k < wy.heap.size)) b x c m y := by
  obtain ⟨F, G, h1, h2, h3, h4, h5, h6⟩ := h.two
  have z := h.fr.size
  refine ⟨⟨F, G, h1.below hb, h2.below hb, h3, h4, h5, ?_⟩, Fr.refl _ _, ?_, h.bel.trans (hb.mono h.bel.size)⟩
  · rintro k (hk | hk)
    · exact h6 k hk
    · exact ⟨fun hF => by have := h1.lt k hF; omega, fun hG => by have := h2.lt k hG; omega⟩
  · rintro k (hk | hk)
    · have := h.kl k hk; have := hb.size; omega
    · exact hk.2
theorem TwoK.row (h : TwoK w w0 wx K b x c m y) {base : Nat} {e : TypeId} {size : Nat} {v : Value} {n : Nat} {xs : List Value} (hr : w0.ownsRow base e size v n xs) (hK : ∀ k, v.ownBlock = some k → K k) : wx.ownsRow base e size v n xs :=
  owns_fr hr h.fr fun k hk hn => hn (hK k hk)
theorem TwoK.blk (h : TwoK w w0 wx K b x c m y) {a : Nat} {cs : List Value} {t : TypeId} (hb : Blk w0 a cs t) (hK : K a) : Blk wx a cs t := hb.of_eq (h.eq hK)
theorem TwoK.md (h : TwoK w w0 wx K b x c m y) : ∃ F : Nat → Prop, MdAt wx b c m.s m.served F := let ⟨F, G, h1, _⟩ := h.two; ⟨F, h1⟩
theorem vTK (h : TwoM w wx b x c m y) : Calls Tryz.prog 17 #[.pointer (some ⟨b, 0, none⟩)] wx fun e w' => e = .returned (.int .u64 m.s.v) ∧ wx = w' := vM h.own
theorem servedTK (h : TwoM w wx b x c m y) : Calls Tryz.prog 18 #[.pointer (some ⟨b, 0, none⟩)] wx fun e w' => e = .returned (.int .i64 m.served) ∧ wx = w' := servedM h.own
theorem lenTK (h : TwoM w wx b x c m y) (id : Int) : Calls Tryz.prog 23 #[.pointer (some ⟨b, 0, none⟩), .int .i64 id] wx fun e w' => e = .returned (.int .i64 (m.s.len id)) ∧ wx = w' := by
  obtain ⟨F, h1, -⟩ := h.own
  exact mdLen_any b c m.s m.served F id wx h1
theorem startsTK (h : TwoM w wx b x c m y) (hn : m.s.fs.length ≤ 1000000) : Calls Tryz.prog 20 #[.pointer (some ⟨b, 0, none⟩)] wx fun e w' => ∃ ao cap, e = .returned (.slice ao m.s.starts.length cap) ∧ w'.ownsRow wx.heap.size 47 2 (.slice ao m.s.starts.length cap) m.s.starts.length (entC m.s.starts) ∧ Below wx.heap.size wx w' := by
  obtain ⟨F, h1, -⟩ := h.own
  refine (mdStarts_any b c m.s m.served F wx h1 hn).mono ?_
  rintro e w' ⟨v, rfl, hr, hb⟩
  obtain ⟨ao, cap, rfl⟩ := owns_slice hr
  exact ⟨ao, cap, rfl, hr, hb⟩
def SfS.idsS (s : SfS) : List Int := s.ids.mergeSort fun x y => decide (x ≤ y)
theorem flowsTK (h : TwoM w wx b x c m y) (hi : ∀ e ∈ m.s.fs, I64 e.1) (hn : m.s.fs.length ≤ 1000000) : Calls Tryz.prog 22 #[.pointer (some ⟨b, 0, none⟩)] wx fun e w' => ∃ ao cap, e = .returned (.slice ao m.s.fs.length cap) ∧ w'.ownsRow wx.heap.size 3 1 (.slice ao m.s.fs.length cap) m.s.fs.length (m.s.idsS.map (Value.int .i64)) ∧ Below wx.heap.size wx w' := by
  obtain ⟨F, h1, -⟩ := h.own
  refine (mdFlows_any b c m.s m.served F wx h1 hi hn).mono ?_
  rintro e w' ⟨v, rfl, hr, hb⟩
  obtain ⟨ao, cap, rfl⟩ := owns_slice hr
  exact ⟨ao, cap, rfl, hr, hb⟩
end
theorem idsS_len (s : SfS) : s.idsS.length = s.fs.length := by unfold SfS.idsS; rw [List.length_mergeSort]; unfold SfS.ids; simp
set_option maxHeartbeats 4000000 in
theorem refused11_in (c : Cfg) (hu : W64 c.unit) (ao : Option Addr) (n cap : Nat) (l : List CallS) (w : World) (h : RdC w ao n cap l) :
    Calls Tryz.prog 7 #[.agg #[.int .i64 c.shards, .int .i64 c.slots, .int .i64 c.workers, .int .i64 c.width, .int .u64 c.unit], .slice ao n cap] w fun e w' => e = .returned (.bool true) ∧ Below w.heap.size w w' := by
  have I := CfgIn.start w c
  have hcR := confP_r c hu
  have hle := h.rd.le
  have hsm := h.rd.small
  have HRD := Lib.hid h
  clear h
  go_enter Tryz.func7, Tryz.ntmps7
  go_upto_region 1 with fail
  generalize (w.alloc (.cells #[.int .i64 c.shards, .int .i64 c.slots, .int .i64 c.workers, .int .i64 c.width, .int .u64 c.unit] 24)) = W at *
  obtain ⟨x0, x1, x2, x3, x4, xl⟩ := I.cells
  have hb0 := I.bel
  clear I
  go_wp2_with fail
  refine (made_any c hu true _).mono ?_
  rintro e W1 ⟨b, x, rfl, T1⟩
  replace T1 := T1.base hb0
  generalize confP c = c' at *
  have S1 : Run11 w W1 b x c' 4 := ⟨_, _, T1, made_sim c' true, made_good c' hcR true⟩
  have HS1 := Lib.hid S1
  clear T1 S1 x0 x1 x2 x3 x4 xl hb0
  go_wp2_with fail
  refine (awake11_any _).mono ?_
  rintro e W2 ⟨rfl, hb2⟩
  have HS2 := Lib.hid (HS1.out.below hb2)
  clear hb2 HS1
  go_wp2_with fail
  go_loopw [7] (fun v7 wr => ∃ k : Nat, k ≤ n ∧ k ≤ 60 ∧ v7 = .int .i64 k ∧ Run11 w wr b x c' (4 + k)) (fun v7 _ => 60 - (intOf v7).toNat)
  case atStart => exact ⟨0, Nat.zero_le _, Nat.zero_le _, rfl, HS2.out⟩
  case round =>
    obtain ⟨k, hk, hk8, rfl, rn⟩ := hrel
    by_cases hlx : k < n ∧ k < 60
    · obtain ⟨hl, h8⟩ := hlx
      have i1 : (k : Int) < (n : Int) := by omega
      have i2 : (k : Int) < 60 := by omega
      obtain ⟨m, y, t, hs, hg⟩ := rn.ex
      obtain ⟨bl, o, rfl, hbl, q0, q1, q2, q3⟩ := HRD.out.at hl t.bel
      have hdo := callP_ok (HRD.out.nth_ok hl)
      have hmn : m.s.fs.length ≤ 1000000 := Nat.le_trans hg.ok.len (by omega)
      have hmi := hg.ok.s.ids
      have hg0 := hg.ok.nodup
      have HT := Lib.hid t
      have HSM := Lib.hid hs
      have HG := Lib.hid hg
      clear t hs hg rn
      generalize hd : nthC l k = d at *
      replace hd := Lib.hid hd
      go_wp2_with fail
      refine (callP_any d _).mono ?_
      rintro e w3 ⟨rfl, hb3⟩
      clear q0 q1 q2 q3
      generalize callP d = d' at *
      have X0 : Blk (w3.alloc (.cells #[.int .i64 d'.op, .int .i64 d'.flow, .int .i64 d'.a, .int .i64 d'.b] 33)) w3.heap.size d'.cells 33 := Blk.new w3 d'.cells 33
      have hbx : Below wr.heap.size wr (w3.alloc (.cells #[.int .i64 d'.op, .int .i64 d'.flow, .int .i64 d'.a, .int .i64 d'.b] 33)) := hb3.trans ((below1 w3 _).mono hb3.size)
      have hz3 := hb3.size
      have HX0 := Lib.hid X0
      have HBX := Lib.hid hbx
      clear X0 hbx hb3
      go_upto_region 8 with fail
      generalize (w3.alloc (.cells #[.int .i64 d'.op, .int .i64 d'.flow, .int .i64 d'.a, .int .i64 d'.b] 33)) = w4 at *
      generalize w3.heap.size = X at *
      have HT4 := Lib.hid (HT.out.below HBX.out)
      go_wp2_with fail
      refine (vTK HT4.out).mono ?_
      rintro e w' ⟨rfl, rfl⟩
      go_wp2_with fail
      refine (servedTK HT4.out).mono ?_
      rintro e w' ⟨rfl, rfl⟩
      go_wp2_with fail
      refine (startsTK HT4.out hmn).mono ?_
      rintro e w5 ⟨a5, c5, rfl, row5, hb5⟩
      have HT5 := Lib.hid (HT4.out.below hb5)
      have HX5 := Lib.hid (HX0.out.below hb5)
      have HROW5 := Lib.hid row5
      have HB5 := Lib.hid hb5
      clear row5 hb5
      go_wp2_with fail
      refine (flowsTK HT5.out hmi hmn).mono ?_
      rintro e w6 ⟨a6, c6, rfl, row6, hb6⟩
      have HX6 := Lib.hid (HX5.out.below hb6)
      have HROW6 := Lib.hid row6
      have HROW56 := Lib.hid (owns_below (B := 0) HROW5.out hb6)
      have hb16 : Below wr.heap.size wr w6 := (HBX.out.trans (HB5.out.mono HBX.out.size)).trans (hb6.mono (Nat.le_trans HBX.out.size HB5.out.size))
      have hzz4 := HBX.out.size
      have hzz5 := HB5.out.size
      have HTK := Lib.hid (HT.out.kept hb16 (fun k => wr.heap.size ≤ k ∧ k < w6.heap.size) fun k hk => hk)
      have q1 : w6.cell? ⟨X, 1, none⟩ = some (.int .i64 d'.flow) := HX6.out.cell 1
      have ql := HX6.out.lt
      clear row6 hb6 hb16
      go_wp2_with fail
      refine (lenTK HTK.out.toM _).mono ?_
      rintro e w' ⟨rfl, rfl⟩
      have q0 : w6.cell? ⟨X, 0, none⟩ = some (.int .i64 d'.op) := HX6.out.cell 0
      have q2 : w6.cell? ⟨X, 2, none⟩ = some (.int .i64 d'.a) := HX6.out.cell 2
      have q3 : w6.cell? ⟨X, 3, none⟩ = some (.int .i64 d'.b) := HX6.out.cell 3
      go_wp2_with fail
      refine (doK HTK.out (HG.out.bat (by omega)) hcR d' hdo).mono ?_
      rintro e w7 ⟨a7, c7, rfl, row7, tk7, tr7, hz7⟩
      have HLEFT := Lib.hid (fun he hp => refused_left (c := c') (m := m) (d := d') hg0 he hp)
      have HRET := Lib.hid (HSM.out.doo c' d').2
      have HS8 := Lib.hid (HSM.out.doo c' d').1
      have HG8 := Lib.hid (HG.out.doo hcR.ok.unit hdo)
      have HY := Lib.hid ((HSM.out.good HG.out).bat (show 4 + k ≤ 1000000 by omega))
      have hKX : wr.heap.size ≤ X ∧ X < w6.heap.size := ⟨hz3, ql⟩
      have bx7 := tk7.blk HX6.out hKX
      obtain ⟨r, hr⟩ : ∃ r, (m.doo c' d').2 = r := ⟨_, rfl⟩
      obtain ⟨m', hm'⟩ : ∃ m', (m.doo c' d').1 = m' := ⟨_, rfl⟩
      rw [hr, hm'] at HLEFT
      rw [hr] at HRET row7 ⊢
      rw [hm'] at tk7 tr7 HS8 HG8
      have hb8 := below1 w7 (.cells #[.int .i64 r.e, .slice a7 r.ps.length c7, .int .i64 r.n, .int .u64 r.v] 40)
      have B14 := Blk.new w7 [.int .i64 r.e, .slice a7 r.ps.length c7, .int .i64 r.n, .int .u64 r.v] 40
      have bx8 := bx7.below hb8
      have T8 := tr7.also hb8
      have row8 := owns_below (B := 0) row7 hb8
      have s8 := owns_below (B := 0) (tk7.row HROW56.out (fun k hk => by have := HROW56.out.lt k hk; exact ⟨Nat.le_trans hzz4 this.1, this.2⟩)) hb8
      have f8 := owns_below (B := 0) (tk7.row HROW6.out (fun k hk => by have := HROW6.out.lt k hk; exact ⟨Nat.le_trans hzz4 (Nat.le_trans hzz5 this.1), this.2⟩)) hb8
      have hz76 := tk7.fr.size
      have HT8 := Lib.hid T8
      have HROW8 := Lib.hid row8
      have HB14 := Lib.hid B14
      have HBX8 := Lib.hid bx8
      have HS5 := Lib.hid s8
      have HF6 := Lib.hid f8
      have HK5 : Hid (∀ k, (Value.slice a5 m.s.starts.length c5).ownBlock = some k → KRow (fun k => wr.heap.size ≤ k ∧ k < w6.heap.size) a7 k) := Lib.hid (fun k hk => .inl (by have := HROW56.out.lt k hk; exact ⟨Nat.le_trans hzz4 this.1, this.2⟩))
      have HK6 : Hid (∀ k, (Value.slice a6 m.s.fs.length c6).ownBlock = some k → KRow (fun k => wr.heap.size ≤ k ∧ k < w6.heap.size) a7 k) := Lib.hid (fun k hk => .inl (by have := HROW6.out.lt k hk; exact ⟨Nat.le_trans hzz4 (Nat.le_trans hzz5 this.1), this.2⟩))
      have HK7 : Hid (∀ k, (Value.slice a7 r.ps.length c7).ownBlock = some k → KRow (fun k => wr.heap.size ≤ k ∧ k < w6.heap.size) a7 k) := Lib.hid (fun k hk => .inr (by cases a7 with | none => cases hk | some a => cases hk; exact ⟨a, rfl, rfl⟩))
      have HKX : Hid (KRow (fun k => wr.heap.size ≤ k ∧ k < w6.heap.size) a7 X) := Lib.hid (.inl hKX)
      clear T8 row8 B14 bx8 s8 f8 bx7 row7 tk7 tr7 q0 q1 q2 q3 hr hm' hKX HROW5 HROW6 HROW56 HX5 HX6 HTK HT4 HT5
      go_upto_region 11 with fail
      generalize w7.alloc (.cells #[.int .i64 r.e, .slice a7 r.ps.length c7, .int .i64 r.n, .int .u64 r.v] 40) = w8 at *
      have hl7 := HB14.out.lt
      have hS : w8.drew.cell? ⟨w7.heap.size, 0, none⟩ = some (.int .i64 r.e) ∧ w8.drew.cell? ⟨w7.heap.size, 1, none⟩ = some (.slice a7 r.ps.length c7) ∧ w8.drew.cell? ⟨w7.heap.size, 2, none⟩ = some (.int .i64 r.n) ∧ w8.drew.cell? ⟨w7.heap.size, 3, none⟩ = some (.int .u64 r.v) ∧ w8.drew.cell? ⟨X, 0, none⟩ = some (.int .i64 d'.op) ∧ w8.drew.cell? ⟨X, 1, none⟩ = some (.int .i64 d'.flow) ∧ w8.drew.cell? ⟨X, 2, none⟩ = some (.int .i64 d'.a) ∧ w8.drew.cell? ⟨X, 3, none⟩ = some (.int .i64 d'.b) := ⟨HB14.out.cell 0, HB14.out.cell 1, HB14.out.cell 2, HB14.out.cell 3, HBX8.out.cell 0, HBX8.out.cell 1, HBX8.out.cell 2, HBX8.out.cell 3⟩
      go_region_held3 (fun w' => w'.cell? ⟨w7.heap.size, 0, none⟩ = some (.int .i64 r.e) ∧ w'.cell? ⟨w7.heap.size, 1, none⟩ = some (.slice a7 r.ps.length c7) ∧ w'.cell? ⟨w7.heap.size, 2, none⟩ = some (.int .i64 r.n) ∧ w'.cell? ⟨w7.heap.size, 3, none⟩ = some (.int .u64 r.v) ∧ w'.cell? ⟨X, 0, none⟩ = some (.int .i64 d'.op) ∧ w'.cell? ⟨X, 1, none⟩ = some (.int .i64 d'.flow) ∧ w'.cell? ⟨X, 2, none⟩ = some (.int .i64 d'.a) ∧ w'.cell? ⟨X, 3, none⟩ = some (.int .i64 d'.b)) (first | with_reducible exact hS | with_reducible exact hS9 | with_reducible exact hS10)
        (first
          | (go_at_call 24; refine (doRK (HT8.out.below (Below.refl _ _).drew) HY.out hcR d' hdo).mono ?_; rw [← HRET.out]; rintro e w9 ⟨a9, c9, rfl, row9, t9, t9r, hz9⟩; have B9 := t9.blk HB14.out (.inr ⟨Nat.le_refl _, hl7⟩); have X9 := t9.blk HBX8.out (.inl HKX.out); have hS9 : w9.cell? ⟨w7.heap.size, 0, none⟩ = some (.int .i64 r.e) ∧ w9.cell? ⟨w7.heap.size, 1, none⟩ = some (.slice a7 r.ps.length c7) ∧ w9.cell? ⟨w7.heap.size, 2, none⟩ = some (.int .i64 r.n) ∧ w9.cell? ⟨w7.heap.size, 3, none⟩ = some (.int .u64 r.v) ∧ w9.cell? ⟨X, 0, none⟩ = some (.int .i64 d'.op) ∧ w9.cell? ⟨X, 1, none⟩ = some (.int .i64 d'.flow) ∧ w9.cell? ⟨X, 2, none⟩ = some (.int .i64 d'.a) ∧ w9.cell? ⟨X, 3, none⟩ = some (.int .i64 d'.b) := ⟨B9.cell 0, B9.cell 1, B9.cell 2, B9.cell 3, X9.cell 0, X9.cell 1, X9.cell 2, X9.cell 3⟩; have HB9 := Lib.hid B9; have HX9 := Lib.hid X9; have HR7 := Lib.hid (t9.row HROW8.out (fun k hk => .inl (HK7.out k hk))); have HR9 := Lib.hid row9; have HT9 := Lib.hid t9.toM; have HS59 := Lib.hid (t9.row HS5.out (fun k hk => .inl (HK5.out k hk))); have HF69 := Lib.hid (t9.row HF6.out (fun k hk => .inl (HK6.out k hk))); clear B9 X9 row9 t9 t9r)
          | (go_at_call 16; refine (helpRet_any _ _ _ _ _ _ (owns_rdS HR7.out (pks_one _)) (owns_rdS HR9.out (pks_one _))).mono ?_; rintro e w10 ⟨rfl, hb10⟩; have B10 := HB9.out.below hb10; have X10 := HX9.out.below hb10; have hS10 : w10.cell? ⟨w7.heap.size, 0, none⟩ = some (.int .i64 r.e) ∧ w10.cell? ⟨w7.heap.size, 1, none⟩ = some (.slice a7 r.ps.length c7) ∧ w10.cell? ⟨w7.heap.size, 2, none⟩ = some (.int .i64 r.n) ∧ w10.cell? ⟨w7.heap.size, 3, none⟩ = some (.int .u64 r.v) ∧ w10.cell? ⟨X, 0, none⟩ = some (.int .i64 d'.op) ∧ w10.cell? ⟨X, 1, none⟩ = some (.int .i64 d'.flow) ∧ w10.cell? ⟨X, 2, none⟩ = some (.int .i64 d'.a) ∧ w10.cell? ⟨X, 3, none⟩ = some (.int .i64 d'.b) := ⟨B10.cell 0, B10.cell 1, B10.cell 2, B10.cell 3, X10.cell 0, X10.cell 1, X10.cell 2, X10.cell 3⟩; have HB10 := Lib.hid hb10; have HX10 := Lib.hid X10; have HB14' := Lib.hid B10; clear hb10 X10 B10))
      have HT10 := Lib.hid (HT9.out.below HB10.out)
      have HS510 := Lib.hid (owns_rdS (owns_below (B := 0) HS59.out HB10.out) (entC_one _))
      have HF610 := Lib.hid (owns_rdS (owns_below (B := 0) HF69.out HB10.out) (one_ints _))
      have S6 : Run11 w w10 b x c' (4 + (k + 1)) := ⟨_, _, HT10.out, HS8.out, HG8.out⟩
      have HS6 := Lib.hid S6
      have u0 : w10.cell? ⟨w7.heap.size, 0, none⟩ = some (.int .i64 r.e) := HB14'.out.cell 0
      have u1 : w10.cell? ⟨w7.heap.size, 1, none⟩ = some (.slice a7 r.ps.length c7) := HB14'.out.cell 1
      have ul := HB14'.out.lt
      clear S6 hS
      by_cases he : r.e = 0
      · have e1 : (r.e == 0) = true := by simpa using he
        clear he
        go_wp2
        go_roundw
        case rel => exact ⟨k + 1, by omega, by omega, by go_num, HS6.out⟩
        case measure => simp [intOf]; omega
      have e1 : (r.e == 0) = false := by simpa using he
      by_cases hp : r.ps.length = 0
      · have hleft := HLEFT.out he hp
        have p1 : ¬ (r.ps.length : Int) > 0 := by omega
        clear he hp
        have hfs := hleft.fs
        have hmi' : ∀ e ∈ m'.s.fs, I64 e.1 := by rw [hfs]; exact hmi
        have hmn' : m'.s.fs.length ≤ 1000000 := by rw [hfs]; exact hmn
        have hst : m'.s.starts = m.s.starts := by unfold SfS.starts; rw [hfs]
        have hid' : m'.s.idsS = m.s.idsS := by unfold SfS.idsS SfS.ids; rw [hfs]
        have hln : m'.s.len d'.flow = m.s.len d'.flow := by unfold SfS.len; rw [hfs]
        have hsv := hleft.served
        go_wp2_with fail
        refine (servedTK HT10.out).mono ?_
        rintro e w' ⟨rfl, rfl⟩
        rw [hsv]
        go_wp2_with fail
        refine (startsTK HT10.out hmn').mono ?_
        rintro e w11 ⟨a11, c11, rfl, row11, hb11⟩
        rw [hst] at row11 ⊢
        have HT11 := Lib.hid (HT10.out.below hb11)
        have BB11 := Lib.hid (HB14'.out.below hb11)
        have X11 := Lib.hid (HX10.out.below hb11)
        have S11 := Lib.hid (owns_rdS row11 (entC_one _))
        have S5b := Lib.hid (HS510.out.below hb11)
        have F6b := Lib.hid (HF610.out.below hb11)
        clear row11 hb11
        go_wp2_with fail
        refine (plainE_any _ _ _ _ _ _ _ S11.out S5b.out rfl).mono ?_
        rintro e w12 ⟨rfl, hb12⟩
        have HT12 := Lib.hid (HT11.out.below hb12)
        have BB12 := Lib.hid (BB11.out.below hb12)
        have X12 := Lib.hid (X11.out.below hb12)
        have F6c := Lib.hid (F6b.out.below hb12)
        clear hb12
        go_wp2_with fail
        refine (flowsTK HT12.out hmi' hmn').mono ?_
        rintro e w13 ⟨a13, c13, rfl, row13, hb13⟩
        rw [hid', hfs] at row13
        rw [hfs]
        have HT13 := Lib.hid (HT12.out.below hb13)
        have BB13 := Lib.hid (BB12.out.below hb13)
        have X13 := Lib.hid (X12.out.below hb13)
        have F13 := Lib.hid (owns_rdS row13 (one_ints _))
        have F6d := Lib.hid (F6c.out.below hb13)
        clear row13 hb13
        go_wp2_with fail
        refine (plainZ_any _ _ _ _ _ _ _ F13.out F6d.out (idsS_len _)).mono ?_
        rintro e w14 ⟨rfl, hb14⟩
        have HT14 := Lib.hid (HT13.out.below hb14)
        have BB14 := Lib.hid (BB13.out.below hb14)
        have X14 := Lib.hid (X13.out.below hb14)
        clear hb14
        have v1 : w14.cell? ⟨X, 1, none⟩ = some (.int .i64 d'.flow) := X14.out.cell 1
        have v0 : w14.cell? ⟨w7.heap.size, 0, none⟩ = some (.int .i64 r.e) := BB14.out.cell 0
        have S14 : Run11 w w14 b x c' (4 + (k + 1)) := ⟨_, _, HT14.out, HS8.out, HG8.out⟩
        have HS14 := Lib.hid S14
        clear S14
        go_wp2_with fail
        refine (lenTK HT14.out _).mono ?_
        rintro e w' ⟨rfl, rfl⟩
        rw [hln]
        go_wp2_with fail
        refine (vTK HT14.out).mono ?_
        rintro e w' ⟨rfl, rfl⟩
        have hv1 : ¬ m'.s.v < m.s.v := by rcases hleft.v with hv | ⟨-, hv⟩ <;> omega
        rcases hleft.v with hv | ⟨hv, -⟩
        · rw [hv] at hv1 ⊢
          go_wp2_with fail
          refine (vTK HT14.out).mono ?_
          rintro e w' ⟨rfl, rfl⟩
          rw [hv]
          go_wp2
          go_roundw
          case rel => exact ⟨k + 1, by omega, by omega, by go_num, HS14.out⟩
          case measure => simp [intOf]; omega
        · rw [hv] at v0
          go_wp2_with fail
          refine (vTK HT14.out).mono ?_
          rintro e w' ⟨rfl, rfl⟩
          go_wp2
          all_goals
            go_roundw
            case rel => exact ⟨k + 1, by omega, by omega, by go_num, HS14.out⟩
            case measure => simp [intOf]; omega
      · have p1 : (r.ps.length : Int) > 0 := by omega
        clear he hp
        go_wp2
        go_roundw
        case rel => exact ⟨k + 1, by omega, by omega, by go_num, HS6.out⟩
        case measure => simp [intOf]; omega
    · obtain ⟨m, y, t, hs, hg⟩ := rn.ex
      have HT := Lib.hid t
      clear t hs hg rn
      have i3 : (n : Int) ≤ (k : Int) ∨ (k : Int) < (n : Int) ∧ 60 ≤ (k : Int) := by omega
      rcases i3 with i1 | ⟨i1, i2⟩
      all_goals
        go_wp2
        go_ret
        exact ⟨rfl, HT.out.bel⟩
theorem ModelRefused_any (w : World) (c : List Value) (w0 : FlatOk [.int .i64, .int .i64, .int .i64, .int .i64, .int .u64] c) (ao : Option Addr) (n cap : Nat) (L : List (List Value)) (w1 : IsRows w [.int .i64, .int .i64, .int .i64, .int .i64] ao n cap L) :
    Calls Tryz.prog 7 #[.agg c.toArray, .slice ao n cap] w fun e w' => e = .returned (.bool true) ∧ Below w.heap.size w w' := by
  obtain ⟨d, rfl, hu⟩ := cfg_of w0
  obtain ⟨l, h⟩ := isRows_rdC w1
  exact refused11_in d hu ao n cap l w h
end Go.Proofs.YtfgfjnlkgadkhaaGreat
