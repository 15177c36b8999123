/- ModelRaw. -/
import Derived.Test.YtfgfjnlkgadkhaaGreatGp
import Derived.Deep.CutRange
namespace Go.Proofs.YtfgfjnlkgadkhaaGreat
set_option linter.unusedVariables false
set_option linter.unusedSimpArgs false
set_option maxRecDepth 20000
open Go.RowKit Go.Proofs.YtfgfjnlkgadkhaaGreatMem Go.Proofs.YtfgfjnlkgadkhaaGreatFlat Go.Proofs.YtfgfjnlkgadkhaaGreatMapK

set_option maxHeartbeats 4000000 in
theorem raw11_in (c : Cfg) (hu : W64 c.unit) (ao : Option Addr) (n cap : Nat) (l : List CallS) (f : Int) (w : World) (h : RdC w ao n cap l) :
    Calls Tryz.prog 5 #[.agg #[.int .i64 c.shards, .int .i64 c.slots, .int .i64 c.workers, .int .i64 c.width, .int .u64 c.unit], .slice ao n cap, .int .i64 f] w fun e w' => e = .returned (.bool true) ∧ Below w.heap.size w w' := by
  have I := CfgIn.start w c
  have hcR := confP_r c hu
  have hle := h.rd.le
  have hsm := h.rd.small
  have HRD := Lib.hid h
  clear h
  go_enter Tryz.func5, Tryz.ntmps5
  go_upto_region 1 with fail
  generalize (w.alloc (.cells #[.int .i64 c.shards, .int .i64 c.slots, .int .i64 c.workers, .int .i64 c.width, .int .u64 c.unit] 24)) = W at *
  obtain ⟨x0, x1, x2, x3, x4, xl⟩ := I.cells
  have hb0 := I.bel
  clear I
  go_wp2_with fail
  refine (made_any c hu true _).mono ?_
  rintro e W1 ⟨b, x, rfl, T1⟩
  replace T1 := T1.base hb0
  generalize confP c = c' at *
  have S1 : Run11 w W1 b x c' 4 := ⟨_, _, T1, made_sim c' true, made_good c' hcR true⟩
  have HS1 := Lib.hid S1
  clear T1 S1 x0 x1 x2 x3 x4 xl hb0
  go_wp2_with fail
  refine (awake11_any _).mono ?_
  rintro e W2 ⟨rfl, hb2⟩
  have HS2 := Lib.hid (HS1.out.below hb2)
  clear hb2 HS1
  go_wp2_with fail
  go_loopw [9] (fun v9 wr => ∃ k : Nat, k ≤ n ∧ k ≤ 60 ∧ v9 = .int .i64 k ∧ Run11 w wr b x c' (4 + k)) (fun v9 _ => 60 - (intOf v9).toNat)
  case atStart => exact ⟨0, Nat.zero_le _, Nat.zero_le _, rfl, HS2.out⟩
  case round =>
    obtain ⟨k, hk, hk8, rfl, rn⟩ := hrel
    by_cases hlx : k < n ∧ k < 60
    · obtain ⟨hl, h8⟩ := hlx
      have i1 : (k : Int) < (n : Int) := by omega
      have i2 : (k : Int) < 60 := by omega
      obtain ⟨m, y, t, hs, hg⟩ := rn.ex
      obtain ⟨bl, o, rfl, hbl, q0, q1, q2, q3⟩ := HRD.out.at hl t.bel
      have hdo := HRD.out.nth_ok hl
      have HT := Lib.hid t
      have HSM := Lib.hid hs
      have HG := Lib.hid hg
      clear t hs hg rn
      generalize hd : nthC l k = d at *
      replace hd := Lib.hid hd
      have X0 : Blk (wr.alloc (.cells #[.int .i64 d.op, .int .i64 d.flow, .int .i64 d.a, .int .i64 d.b] 33)) wr.heap.size d.cells 33 := Blk.new wr d.cells 33
      have hbx := below1 wr (.cells #[.int .i64 d.op, .int .i64 d.flow, .int .i64 d.a, .int .i64 d.b] 33)
      have HX0 := Lib.hid X0
      have HBX := Lib.hid hbx
      clear X0 hbx
      go_upto_region 8 with fail
      generalize (wr.alloc (.cells #[.int .i64 d.op, .int .i64 d.flow, .int .i64 d.a, .int .i64 d.b] 33)) = W3 at *
      clear q0 q1 q2 q3
      have y0 : W3.cell? ⟨wr.heap.size, 0, none⟩ = some (.int .i64 d.op) := HX0.out.cell 0
      have yf := HX0.out.frozen 0
      have yl := HX0.out.lt
      go_upto_if 38 with fail
      go_cut [] from 38 to 43 (fun wx => ∃ d' : CallS, d'.Ok ∧ Blk wx wr.heap.size d'.cells 33 ∧ Below wr.heap.size wr wx)
      case first =>
        cases hm : ((k : Int) % 2 == 0) with
        | false =>
          go_wp2
          go_meet
          exact ⟨d, hdo, HX0.out, HBX.out⟩
        | true =>
          have m6 := modZ_bd d.op (n := 6) (by omega)
          have e1 : Value.int .i64 (IntKind.i64.wrap (1 + modZ d.op 6)) = .int .i64 (1 + modZ d.op 6) := wr1 (by omega)
          go_wp2_with fail
          refine (mod_any d.op 6 (by omega) (by omega) _).mono ?_
          rintro e w' ⟨rfl, rfl⟩
          go_wp2
          go_meet
          exact ⟨⟨1 + modZ d.op 6, d.flow, d.a, d.b⟩, ⟨small_i64 (by simp only; omega), hdo.flow, hdo.a, hdo.b⟩, HX0.out.set 0 _, HBX.out.setCell (p := ⟨wr.heap.size, 0, none⟩) (Nat.le_refl _) _⟩
      case rest =>
        obtain ⟨d', hdo', bx, hbw⟩ := hcut
        have TK := HT.out.kept hbw (fun k => k = wr.heap.size) fun k hk => by subst hk; exact ⟨Nat.le_refl _, bx.lt⟩
        have q0 : wc.cell? ⟨wr.heap.size, 0, none⟩ = some (.int .i64 d'.op) := bx.cell 0
        have q1 : wc.cell? ⟨wr.heap.size, 1, none⟩ = some (.int .i64 d'.flow) := bx.cell 1
        have q2 : wc.cell? ⟨wr.heap.size, 2, none⟩ = some (.int .i64 d'.a) := bx.cell 2
        have q3 : wc.cell? ⟨wr.heap.size, 3, none⟩ = some (.int .i64 d'.b) := bx.cell 3
        have ql := bx.lt
        have HBXc := Lib.hid bx
        have HTK := Lib.hid TK
        clear TK bx hbw hdo y0 yf yl
        go_wp2_with fail
        refine (step11_any HTK.out HSM.out HG.out (by omega) hcR d' hdo').mono ?_
        rintro e w4 ⟨rfl, t4⟩
        have hs4 := (HSM.out.doo c' d').1
        have hg4 := HG.out.doo hcR.ok.unit hdo'
        have HT4 := Lib.hid t4.toM
        have bx4 : Blk w4 wr.heap.size d'.cells 33 := HBXc.out.of_eq (t4.eq rfl)
        have HBX4 := Lib.hid bx4
        have HS4 := Lib.hid hs4
        have HG4 := Lib.hid hg4
        clear t4 hs4 hg4 bx4 q0 q1 q2 q3 ql
        go_wp2_with fail
        refine (looks11_any HT4.out HS4.out HG4.out (by omega) f).mono ?_
        rintro e w5 ⟨rfl, hb5⟩
        have HT5 := Lib.hid (HT4.out.below hb5)
        have bx5 := HBX4.out.below hb5
        have q1 : w5.cell? ⟨wr.heap.size, 1, none⟩ = some (.int .i64 d'.flow) := bx5.cell 1
        have ql := bx5.lt
        clear hb5 bx5
        go_wp2_with fail
        refine (looks11_any HT5.out HS4.out HG4.out (by omega) d'.flow).mono ?_
        rintro e w6 ⟨rfl, hb6⟩
        have S6 : Run11 w w6 b x c' (4 + (k + 1)) := ⟨_, _, HT5.out.below hb6, HS4.out, HG4.out⟩
        have HS6 := Lib.hid S6
        clear S6 hb6 q1 ql
        go_wp2
        go_roundw
        case rel => exact ⟨k + 1, by omega, by omega, by go_num, HS6.out⟩
        case measure => simp [intOf]; omega
    · obtain ⟨m, y, t, hs, hg⟩ := rn.ex
      have HT := Lib.hid t
      clear t hs hg rn
      have i3 : (n : Int) ≤ (k : Int) ∨ (k : Int) < (n : Int) ∧ 60 ≤ (k : Int) := by omega
      rcases i3 with i1 | ⟨i1, i2⟩
      all_goals
        go_wp2
        go_ret
        exact ⟨rfl, HT.out.bel⟩
theorem ModelRaw_any (w : World) (c : List Value) (w0 : FlatOk [.int .i64, .int .i64, .int .i64, .int .i64, .int .u64] c) (ao : Option Addr) (n cap : Nat) (L : List (List Value)) (w1 : IsRows w [.int .i64, .int .i64, .int .i64, .int .i64] ao n cap L) (f : Int) (w2 : (Lit.int .i64 f).wf = true) :
    Calls Tryz.prog 5 #[.agg c.toArray, .slice ao n cap, .int .i64 f] w fun e w' => e = .returned (.bool true) ∧ Below w.heap.size w w' := by
  obtain ⟨d, rfl, hu⟩ := cfg_of w0
  obtain ⟨l, h⟩ := isRows_rdC w1
  exact raw11_in d hu ao n cap l f w h
end Go.Proofs.YtfgfjnlkgadkhaaGreat
