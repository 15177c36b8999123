/- The model: a batch goes, the walk. -/
import Derived.Test.YtfgfjnlkgadkhaaMod13
import Derived.Deep.CutRange
import Derived.Deep.CutBlock
namespace Go.Proofs.Ytfgfjnlkgadkhaa
set_option linter.unusedVariables false
set_option linter.unusedSimpArgs false
set_option maxRecDepth 20000
open Go.RowKit Go.Proofs.YtfgfjnlkgadkhaaMem Go.Proofs.YtfgfjnlkgadkhaaMapK

def MdS.batch (m : MdS) (n : Int) : MdS × RetS := if inB n 1 16 then m.bat n.toNat [] else (m, .code 1)
theorem bat_succ (j : Nat) (m : MdS) (ps : List Pk) : m.bat (j + 1) ps = if m.s.has then m.one.bat j (ps ++ [m.s.head]) else (m.one, ⟨10, ps, 0, 0⟩) := rfl
/-- So far right. -/
structure BatOk (m : MdS) (k : Nat) : Prop where
  s : m.s.Ok
  tag : m.s.Tagged
  len : m.s.fs.length ≤ 1000000
  served : 0 ≤ m.served ∧ m.served ≤ 900000000 + k
theorem BatOk.one {m : MdS} {k : Nat} (h : BatOk m k) : BatOk m.one (k + 1) := by
  have hs := h.served
  refine ⟨SfS.serve_ok h.s, h.tag.serve, ?_, ?_⟩
  · show m.s.serve.fs.length ≤ _
    rw [SfS.serve_len]; exact h.len
  · show 0 ≤ (if m.s.has then m.served + 1 else m.served) ∧ (if m.s.has then m.served + 1 else m.served) ≤ _
    split <;> omega
set_option maxHeartbeats 4000000 in
theorem batch_any (b : Nat) (c : Cfg) (m : MdS) (F : Nat → Prop) (d : CallS) (w : World) (h : MdAt w b c m.s m.served F) (ok : BatOk m 0) (hd : d.Ok) :
    Calls Try.prog 25 #[.pointer (some ⟨b, 0, none⟩), .agg #[.int .i64 d.op, .int .i64 d.flow, .int .i64 d.a, .int .i64 d.b]] w (RetPost b c (m.batch d.a).1 (m.batch d.a).2 F w) := by
  obtain ⟨sb, lm, Fs, h⟩ := h
  have I := InC.start (d := d) h
  have C0 := within_any d.a 1 16
  have hE : m.batch d.a = if inB d.a 1 16 then m.bat d.a.toNat [] else (m, .code 1) := rfl
  have HE := Lib.hid hE
  clear hE h
  generalize m.batch d.a = R at *
  go_enter Try.func25, Try.ntmps25
  go_upto_region 1 with fail
  generalize ((w.alloc (.cells #[.int .i64 d.op, .int .i64 d.flow, .int .i64 d.a, .int .i64 d.b] 33)).alloc (.cells #[.int .i64 0, .slice none 0 0, .int .i64 0, .int .u64 0] 37)) = W at *
  obtain ⟨q0, q1, q4, q5, q6, q7, hlt, z0, z1, z2, z3, hzl⟩ := I.cells
  have HI := Lib.hid I
  clear I
  go_wp2_with fail
  refine (C0 _).mono ?_
  rintro e w' ⟨rfl, rfl⟩
  generalize h0 : inB d.a 1 16 = x0
  cases x0 with
  | false =>
    obtain rfl : R = (m, .code 1) := by rw [HE.out, h0]; rfl
    clear h0
    go_wp2_with fail
    refine (refused_any 1 _).mono ?_
    rintro e w4 ⟨rfl, hb4⟩
    obtain ⟨r0, r1, r2, r3, f0, f1, f2, f3, hrl⟩ := (HI.out.below hb4).out
    have HB4 := Lib.hid hb4
    clear hb4
    go_wp2
    refine bodyPost_ret (v := retE 1) (by simp [retE, results, Try.results25, go_sem, r0, r1, r2, r3, hrl]) rfl ?_
    exact RetPost.code (HI.out.refused HB4.out _ _ _ _) 1
  | true =>
  obtain ⟨n, hn⟩ : ∃ n : Nat, d.a = n ∧ 1 ≤ n ∧ n ≤ 16 := by
    unfold inB at h0
    simp only [Bool.and_eq_true, decide_eq_true_eq] at h0
    exact ⟨d.a.toNat, by omega, by omega, by omega⟩
  obtain ⟨hdn, hn1, hn16⟩ := hn
  have hR : R = m.bat n [] := by rw [HE.out, h0]; simp [hdn]
  have hb1 := below1 W (.cells #[.int .i64 0, .slice none 0 0, .int .i64 0, .int .u64 0] 37)
  have HI1 := HI.out.below hb1
  have hres := HI.out.res.lt
  have S0 : BatSt w (W.alloc (.cells #[.int .i64 0, .slice none 0 0, .int .i64 0, .int .u64 0] 37)) W.heap.size b c m F d 0 [] none 0 :=
    ⟨⟨F, ⟨sb, lm, Fs, HI1.md⟩, fun k hk => .inl hk, fun a ha => by cases ha⟩, Fr.of_below HI1.bel, HI1.box, HI1.res, Blk.new W [.int .i64 0, .slice none 0 0, .int .i64 0, .int .u64 0] 37, owns_nil _ _ _ _, HI.out.old, hres⟩
  have HR := Lib.hid hR
  have HS0 := Lib.hid S0
  have HDN := Lib.hid hdn
  clear HE h0 HI1 hR S0 q0 q1 q4 q5 q6 q7 z0 z1 z3 C0 hdn
  go_upto_block 0 with fail
  go_cut [] from 6 to 31 (fun wx => ∃ e acc ao cap, BatSt w wx W.heap.size b c R.1 F d e acc ao cap ∧ R.2 = ⟨e, acc, 0, 0⟩)
  case first =>
    generalize W.alloc (.cells #[.int .i64 0, .slice none 0 0, .int .i64 0, .int .u64 0] 37) = W1 at *
    generalize W.heap.size = X at *
    go_wp2_with fail
    go_loopw [14] (fun v14 wr => ∃ (k : Nat) (mk : MdS) (acc : List Pk) (ao : Option Addr) (cap : Nat), k ≤ n ∧ v14 = .int .i64 k ∧ mk.bat (n - k) acc = R ∧ BatOk mk k ∧ acc.length = k ∧ BatSt w wr X b c mk F d 0 acc ao cap) (fun v14 _ => n - (intOf v14).toNat)
    case atStart => exact ⟨0, m, [], none, 0, Nat.zero_le _, rfl, HR.out.symm, ok, rfl, HS0.out⟩
    case round =>
      obtain ⟨k, mk, acc, ao, cap, hk, rfl, hbat, bok, hal, bs⟩ := hrel
      by_cases hl : k < n
      · have i1 : (k : Int) < d.a := by have := HDN.out; omega
        have z0 : wr.cell? ⟨w.heap.size, 0, none⟩ = some (.int .i64 d.op) := bs.box.cell 0
        have z1 : wr.cell? ⟨w.heap.size, 1, none⟩ = some (.int .i64 d.flow) := bs.box.cell 1
        have z2 : wr.cell? ⟨w.heap.size, 2, none⟩ = some (.int .i64 d.a) := bs.box.cell 2
        have z3 : wr.cell? ⟨w.heap.size, 3, none⟩ = some (.int .i64 d.b) := bs.box.cell 3
        have hbl := bs.box.lt
        obtain ⟨G, g1, g2, g3⟩ := bs.md
        have hse := bok.served
        have HQ := Lib.hid (dequeue_any b c mk.s mk.served G d wr g1 bok.s bok.tag bok.len ⟨hse.1, by omega⟩)
        have HBAT := Lib.hid hbat
        have BS := Lib.hid bs
        have BOK := Lib.hid bok
        clear hbat bs bok g1 hlt hzl
        go_wp2_with fail
        refine HQ.out.mono ?_
        rintro e w1 ⟨ao1, cap1, G1, rfl, row1, n1, p1, s1, fr1⟩
        have B1 := BS.out.served g2 g3 p1 s1 fr1
        have hrow1 := row1
        have hXwr := BS.out.out.lt
        have hone : (MdS.mk mk.s mk.served).oneRet = mk.oneRet := rfl
        rw [hone] at hrow1 ⊢
        have hone2 : (MdS.mk mk.s mk.served).one = mk.one := rfl
        rw [hone2] at B1
        clear hone hone2 row1 n1 p1 s1 fr1
        obtain ⟨rr, hrr⟩ : ∃ rr, mk.oneRet = rr := ⟨_, rfl⟩
        have hRR := Lib.hid hrr
        rw [hrr] at hrow1 ⊢
        have hb2 := below1 w1 (.cells #[.int .i64 rr.e, .slice ao1 rr.ps.length cap1, .int .i64 rr.n, .int .u64 rr.v] 37)
        have B2 := B1.below hb2
        have R2 := Blk.new w1 [.int .i64 rr.e, .slice ao1 rr.ps.length cap1, .int .i64 rr.n, .int .u64 rr.v] 37
        have D2 := owns_below (B := 0) hrow1 hb2
        have hXl := B1.out.lt
        clear hrr hb2 hrow1 B1 z0 z1 z2 z3 hbl
        go_upto_region 7 with fail
        generalize w1.alloc (.cells #[.int .i64 rr.e, .slice ao1 rr.ps.length cap1, .int .i64 rr.n, .int .u64 rr.v] 37) = w2 at *
        have c0 : w2.cell? ⟨w1.heap.size, 0, none⟩ = some (.int .i64 rr.e) := R2.cell 0
        have c1 := R2.lt
        have x0 : w2.cell? ⟨X, 0, none⟩ = some (.int .i64 0) := B2.out.cell 0
        have xf := B2.out.frozen 0
        have xl := B2.out.lt
        have B3 := B2.setE rr.e
        have R3 := R2.set_far (a := ⟨X, 0, none⟩) (by simp only; omega) (.int .i64 rr.e)
        have HB3 := Lib.hid B3
        have HR3 := Lib.hid R3
        have D3 := owns_fr D2 (Fr.setCell (S := fun k => k = X) (Fr.refl _ w2) (a := ⟨X, 0, none⟩) (.inl rfl) (.int .i64 rr.e)) fun k hk e => by have := (D2.lt k hk).1; omega
        have HD3 := Lib.hid D3
        clear B2 R2 B3 R3 D2 D3
        go_upto_region 8 with fail
        generalize w2.setCell ⟨X, 0, none⟩ (.int .i64 rr.e) = w3 at *
        clear c0 c1 x0 xf xl
        have x0 : w3.cell? ⟨X, 0, none⟩ = some (.int .i64 rr.e) := HB3.out.out.cell 0
        have x1 : w3.cell? ⟨X, 1, none⟩ = some (.slice ao acc.length cap) := HB3.out.out.cell 1
        have xf := HB3.out.out.frozen 1
        have xl := HB3.out.out.lt
        have y1 : w3.cell? ⟨w1.heap.size, 1, none⟩ = some (.slice ao1 rr.ps.length cap1) := HR3.out.cell 1
        have yl := HR3.out.lt
        have hnk : n - k = (n - (k + 1)) + 1 := by omega
        cases hh : mk.s.has with
        | false =>
          have hrr : rr = .code 10 := by rw [← hRR.out]; unfold MdS.oneRet; rw [hh]; rfl
          have e2 : (rr.e != 0) = true := by rw [hrr]; rfl
          have hRR2 := Lib.hid hrr
          have hH := Lib.hid hh
          clear hrr hh
          go_wp2
          go_meet
          refine ⟨rr.e, acc, ao, cap, ?_, ?_⟩
          · rw [← HBAT.out, hnk]
            unfold MdS.bat
            rw [hH.out]
            exact HB3.out
          · rw [← HBAT.out, hnk, hRR2.out]
            unfold MdS.bat
            rw [hH.out]
            rfl
        | true =>
          have hrr : rr = ⟨0, [mk.s.head], 0, 0⟩ := by rw [← hRR.out]; unfold MdS.oneRet; rw [hh]; rfl
          have e2 : (rr.e != 0) = false := by rw [hrr]; rfl
          have hlen : rr.ps.length = 1 := by rw [hrr]; rfl
          have hLen := Lib.hid hlen
          have hRR2 := Lib.hid hrr
          have hH := Lib.hid hh
          have hal2 := Lib.hid hal
          clear hrr hh hlen hal
          go_upto_region 9 with fail
          go_wp2_with ((at_builtin; refine ap_src w3 EP rfl _ _ rfl (X + 1) _ acc.length (pks acc) rfl HB3.out.row (by omega) ao1 rr.ps.length cap1 (pks rr.ps) rfl (fun h => (owns_cap HD3.out).2.2.2 h) (pks_length _) (fun j u hu => by obtain ⟨g, h1, -, -, h2⟩ := owns_at HD3.out hu; exact ⟨g, 0, h1, h2⟩) (pks_one _) (by rw [hal2.out, hLen.out]; omega) ?_; intro v' w4 hown4 hg4 hb4 hfr4; rw [← List.length_append, ← pks_append] at hown4; obtain ⟨acc5, hacc⟩ : ∃ l, Hid (l = acc ++ rr.ps) := ⟨_, Lib.hid rfl⟩; rw [← hacc.out] at hown4; obtain ⟨ao4, cap4, rfl⟩ := owns_slice hown4; have O4 := HB3.out.out.grown hg4 (by intro e; have := (HB3.out.row.lt X e).1; omega); have x4 := O4.cell 1; have xf4 := O4.frozen 1; have xl4 := O4.lt; simp only [List.getElem?_cons_succ, List.getElem?_cons_zero] at x4))
          have B5 := HB3.out.grow hown4 hg4 hfr4
          have hz : rr.e = 0 := by rw [hRR2.out]
          rw [hz] at B5
          go_roundw
          case rel => exact ⟨k + 1, mk.one, acc5, ao4, cap4, by omega, by go_num, by rw [← HBAT.out, hnk, bat_succ, hH.out, hacc.out, hRR2.out]; rfl, BOK.out.one, by rw [hacc.out, List.length_append, hal2.out, hLen.out], B5⟩
          case measure => simp [intOf]; omega
      · have i1 : ¬ (k : Int) < d.a := by have := HDN.out; omega
        obtain rfl : k = n := by omega
        go_wp2
        go_meet
        refine ⟨0, acc, ao, cap, ?_, ?_⟩
        · rw [← hbat, Nat.sub_self]; exact bs
        · rw [← hbat, Nat.sub_self]; rfl
  case rest =>
    obtain ⟨e, acc, ao, cap, bs, h2⟩ := hcut
    have o0 : wc.cell? ⟨W.heap.size, 0, none⟩ = some (.int .i64 e) := bs.out.cell 0
    have o1 : wc.cell? ⟨W.heap.size, 1, none⟩ = some (.slice ao acc.length cap) := bs.out.cell 1
    have o2 : wc.cell? ⟨W.heap.size, 2, none⟩ = some (.int .i64 0) := bs.out.cell 2
    have o3 : wc.cell? ⟨W.heap.size, 3, none⟩ = some (.int .u64 0) := bs.out.cell 3
    have hxl := bs.out.lt
    have r0 : wc.cell? ⟨w.heap.size + 1, 0, none⟩ = some (.int .i64 0) := bs.res.cell 0
    have r1 : wc.cell? ⟨w.heap.size + 1, 1, none⟩ = some (.slice none 0 0) := bs.res.cell 1
    have r2 : wc.cell? ⟨w.heap.size + 1, 2, none⟩ = some (.int .i64 0) := bs.res.cell 2
    have r3 : wc.cell? ⟨w.heap.size + 1, 3, none⟩ = some (.int .u64 0) := bs.res.cell 3
    have f0 := bs.res.frozen 0
    have f1 := bs.res.frozen 1
    have f2 := bs.res.frozen 2
    have f3 := bs.res.frozen 3
    have hrl := bs.res.lt
    have BS := Lib.hid bs
    have H2 := Lib.hid h2
    clear bs h2
    go_wp2
    refine bodyPost_ret (v := .agg #[.int .i64 e, .slice ao acc.length cap, .int .i64 0, .int .u64 0]) (by simp [results, Try.results25, go_sem, r0, r1, r2, r3, hrl]) rfl ?_
    rw [H2.out]
    exact BS.out.done
end Go.Proofs.Ytfgfjnlkgadkhaa
