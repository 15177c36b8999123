/- Several texts in one: CallP CallP2 HelpP Ret11 Ready DoK Made1. -/
import Derived.Test.YtfgfjnlkgadkhaaGreatGi
import Derived.Test.YtfgfjnlkgadkhaaGreatGb
import Derived.Deep.CutRange
import Derived.Deep.RegionHeld3
import Derived.Deep.CutBlock
import Derived.WalkLawsBesides
import Derived.Test.YtfgfjnlkgadkhaaGreatGn
import Derived.Test.YtfgfjnlkgadkhaaGreatGk
import Derived.Test.YtfgfjnlkgadkhaaGreatGf
-- weighbridgeplay.Call: a call of a few flows, of any one.
section
namespace Go.Proofs.YtfgfjnlkgadkhaaGreat
set_option linter.unusedVariables false
set_option linter.unusedSimpArgs false
set_option maxRecDepth 20000
open Go.RowKit Go.Proofs.YtfgfjnlkgadkhaaGreatMem Go.Proofs.YtfgfjnlkgadkhaaGreatMapK

def callP (d : CallS) : CallS :=
  if modZ d.flow 23 = 22 then d
  else if modZ d.op 10 = 0 then ⟨1, modZ d.flow 5, 1 + modZ d.a 5, 1 + modZ d.b 3⟩
  else if modZ d.op 10 = 1 then ⟨2, modZ d.flow 5, 0, 0⟩
  else if modZ d.op 10 = 6 ∨ modZ d.op 10 = 7 then ⟨4, 0, 0, 0⟩
  else if modZ d.op 10 = 8 then ⟨5, 0, modZ d.a 6, 0⟩
  else if modZ d.op 10 = 9 then ⟨6, 0, 0, 0⟩
  else ⟨3, modZ d.flow 5, if modZ d.a 13 = 12 then 1 + modZ d.a 65536 else 1 + modZ d.a 9, modZ d.b 1000⟩
theorem small_i64 {x : Int} (h : 0 ≤ x ∧ x ≤ 1000000) : I64 x := by unfold I64; omega
theorem callP_ok {d : CallS} (h : d.Ok) : (callP d).Ok := by
  have m5 := modZ_bd d.flow (n := 5) (by omega)
  have a5 := modZ_bd d.a (n := 5) (by omega)
  have b3 := modZ_bd d.b (n := 3) (by omega)
  have a6 := modZ_bd d.a (n := 6) (by omega)
  have a9 := modZ_bd d.a (n := 9) (by omega)
  have aL := modZ_bd d.a (n := 65536) (by omega)
  have bM := modZ_bd d.b (n := 1000) (by omega)
  unfold callP
  split
  · exact h
  split
  · exact ⟨small_i64 (by simp), small_i64 (by simp only; omega), small_i64 (by simp only; omega), small_i64 (by simp only; omega)⟩
  split
  · exact ⟨small_i64 (by simp), small_i64 (by simp only; omega), small_i64 (by simp), small_i64 (by simp)⟩
  split
  · exact ⟨small_i64 (by simp), small_i64 (by simp), small_i64 (by simp), small_i64 (by simp)⟩
  split
  · exact ⟨small_i64 (by simp), small_i64 (by simp), small_i64 (by simp only; omega), small_i64 (by simp)⟩
  split
  · exact ⟨small_i64 (by simp), small_i64 (by simp), small_i64 (by simp), small_i64 (by simp)⟩
  · refine ⟨small_i64 (by simp), small_i64 (by simp only; omega), ?_, small_i64 (by simp only; omega)⟩
    show I64 (if modZ d.a 13 = 12 then 1 + modZ d.a 65536 else 1 + modZ d.a 9)
    split
    · exact small_i64 (by omega)
    · exact small_i64 (by omega)
/-- Under way: the argument, the result's block, the new call at X. -/
structure PcSt (w W : World) (X : Nat) (d x : CallS) : Prop where
  bel : Below w.heap.size w W
  box : Blk W w.heap.size d.cells 33
  res : Blk W (w.heap.size + 1) [.int .i64 0, .int .i64 0, .int .i64 0, .int .i64 0] 33
  var : Blk W X x.cells 33
  hX : w.heap.size + 1 < X
section
variable {w W W' : World} {X : Nat} {d x : CallS}
theorem PcSt.below (h : PcSt w W X d x) (hb : Below W.heap.size W W') : PcSt w W' X d x := ⟨h.bel.trans (hb.mono h.bel.size), h.box.below hb, h.res.below hb, h.var.below hb, h.hX⟩
theorem PcSt.set0 (h : PcSt w W X d x) (v : Int) : PcSt w (W.setCell ⟨X, 0, none⟩ (.int .i64 v)) X d ⟨v, x.flow, x.a, x.b⟩ :=
  have hX := h.hX
  ⟨h.bel.setCell (p := ⟨X, 0, none⟩) (by show w.heap.size ≤ X; omega) _, h.box.set_far (by show w.heap.size ≠ X; omega) _, h.res.set_far (by show w.heap.size + 1 ≠ X; omega) _, h.var.set 0 _, hX⟩
theorem PcSt.set2 (h : PcSt w W X d x) (v : Int) : PcSt w (W.setCell ⟨X, 2, none⟩ (.int .i64 v)) X d ⟨x.op, x.flow, v, x.b⟩ :=
  have hX := h.hX
  ⟨h.bel.setCell (p := ⟨X, 2, none⟩) (by show w.heap.size ≤ X; omega) _, h.box.set_far (by show w.heap.size ≠ X; omega) _, h.res.set_far (by show w.heap.size + 1 ≠ X; omega) _, h.var.set 2 _, hX⟩
theorem PcSt.set3 (h : PcSt w W X d x) (v : Int) : PcSt w (W.setCell ⟨X, 3, none⟩ (.int .i64 v)) X d ⟨x.op, x.flow, x.a, v⟩ :=
  have hX := h.hX
  ⟨h.bel.setCell (p := ⟨X, 3, none⟩) (by show w.heap.size ≤ X; omega) _, h.box.set_far (by show w.heap.size ≠ X; omega) _, h.res.set_far (by show w.heap.size + 1 ≠ X; omega) _, h.var.set 3 _, hX⟩
theorem PcSt.set1 (h : PcSt w W X d x) (v : Int) : PcSt w (W.setCell ⟨X, 1, none⟩ (.int .i64 v)) X d ⟨x.op, v, x.a, x.b⟩ :=
  have hX := h.hX
  ⟨h.bel.setCell (p := ⟨X, 1, none⟩) (by show w.heap.size ≤ X; omega) _, h.box.set_far (by show w.heap.size ≠ X; omega) _, h.res.set_far (by show w.heap.size + 1 ≠ X; omega) _, h.var.set 1 _, hX⟩
theorem PcSt.cells (h : PcSt w W X d x) : W.cell? ⟨w.heap.size, 0, none⟩ = some (.int .i64 d.op) ∧ W.cell? ⟨w.heap.size, 1, none⟩ = some (.int .i64 d.flow) ∧ W.cell? ⟨w.heap.size, 2, none⟩ = some (.int .i64 d.a) ∧ W.cell? ⟨w.heap.size, 3, none⟩ = some (.int .i64 d.b) ∧ w.heap.size < W.heap.size ∧
    W.cell? ⟨X, 0, none⟩ = some (.int .i64 x.op) ∧ W.cell? ⟨X, 1, none⟩ = some (.int .i64 x.flow) ∧ W.cell? ⟨X, 2, none⟩ = some (.int .i64 x.a) ∧ W.cell? ⟨X, 3, none⟩ = some (.int .i64 x.b) ∧ X < W.heap.size ∧
    W.frozen? ⟨X, 0, none⟩ = false ∧ W.frozen? ⟨X, 1, none⟩ = false ∧ W.frozen? ⟨X, 2, none⟩ = false ∧ W.frozen? ⟨X, 3, none⟩ = false :=
  ⟨h.box.cell 0, h.box.cell 1, h.box.cell 2, h.box.cell 3, h.box.lt, h.var.cell 0, h.var.cell 1, h.var.cell 2, h.var.cell 3, h.var.lt, h.var.frozen 0, h.var.frozen 1, h.var.frozen 2, h.var.frozen 3⟩
theorem PcSt.out (h : PcSt w W X d x) : W.cell? ⟨w.heap.size + 1, 0, none⟩ = some (.int .i64 0) ∧ W.cell? ⟨w.heap.size + 1, 1, none⟩ = some (.int .i64 0) ∧ W.cell? ⟨w.heap.size + 1, 2, none⟩ = some (.int .i64 0) ∧ W.cell? ⟨w.heap.size + 1, 3, none⟩ = some (.int .i64 0) ∧
    W.frozen? ⟨w.heap.size + 1, 0, none⟩ = false ∧ W.frozen? ⟨w.heap.size + 1, 1, none⟩ = false ∧ W.frozen? ⟨w.heap.size + 1, 2, none⟩ = false ∧ W.frozen? ⟨w.heap.size + 1, 3, none⟩ = false ∧ w.heap.size + 1 < W.heap.size :=
  ⟨h.res.cell 0, h.res.cell 1, h.res.cell 2, h.res.cell 3, h.res.frozen 0, h.res.frozen 1, h.res.frozen 2, h.res.frozen 3, h.res.lt⟩
theorem PcSt.done (h : PcSt w W X d x) (v0 v1 v2 v3 : Value) : Below w.heap.size w ((((W.setCell ⟨w.heap.size + 1, 0, none⟩ v0).setCell ⟨w.heap.size + 1, 1, none⟩ v1).setCell ⟨w.heap.size + 1, 2, none⟩ v2).setCell ⟨w.heap.size + 1, 3, none⟩ v3) := by
  have hz : w.heap.size ≤ w.heap.size + 1 := Nat.le_succ _
  exact (((h.bel.setCell (p := ⟨w.heap.size + 1, 0, none⟩) hz v0).setCell (p := ⟨w.heap.size + 1, 1, none⟩) hz v1).setCell (p := ⟨w.heap.size + 1, 2, none⟩) hz v2).setCell (p := ⟨w.heap.size + 1, 3, none⟩) hz v3
end
end Go.Proofs.YtfgfjnlkgadkhaaGreat
end

-- weighbridgeplay.Call: the walk.
section
namespace Go.Proofs.YtfgfjnlkgadkhaaGreat
set_option linter.unusedVariables false
set_option linter.unusedSimpArgs false
set_option maxRecDepth 20000
open Go.RowKit Go.Proofs.YtfgfjnlkgadkhaaGreatMem Go.Proofs.YtfgfjnlkgadkhaaGreatMapK

theorem wr1 {x : Int} (h : 0 ≤ x ∧ x ≤ 1000000) : Value.int .i64 (IntKind.i64.wrap x) = .int .i64 x := by
  rw [IntWalk.i64_left, IntWalk.wrap64_in _ (by omega)]
set_option maxHeartbeats 4000000 in
theorem callP_any (d : CallS) (w : World) :
    Calls Tryz.prog 12 #[.agg #[.int .i64 d.op, .int .i64 d.flow, .int .i64 d.a, .int .i64 d.b]] w fun e w' => e = .returned (.agg #[.int .i64 (callP d).op, .int .i64 (callP d).flow, .int .i64 (callP d).a, .int .i64 (callP d).b]) ∧ Below w.heap.size w w' := by
  have hP : callP d = callP d := rfl
  unfold callP at hP
  obtain ⟨R, hR⟩ : ∃ R, callP d = R := ⟨_, rfl⟩
  have hR2 := hR
  unfold callP at hR2
  have HR := Lib.hid hR2.symm
  rw [hR]
  clear hP hR hR2
  have M23 := mod_any d.flow 23 (by omega) (by omega)
  have M5 := mod_any d.flow 5 (by omega) (by omega)
  have M10 := mod_any d.op 10 (by omega) (by omega)
  have hb1 : Below w.heap.size w ((w.alloc (.cells #[.int .i64 d.op, .int .i64 d.flow, .int .i64 d.a, .int .i64 d.b] 33)).alloc (.cells #[.int .i64 0, .int .i64 0, .int .i64 0, .int .i64 0] 33)) := ((Below.refl _ _).alloc (Nat.le_refl _) _).alloc (by simp) _
  have B1 : Blk ((w.alloc (.cells #[.int .i64 d.op, .int .i64 d.flow, .int .i64 d.a, .int .i64 d.b] 33)).alloc (.cells #[.int .i64 0, .int .i64 0, .int .i64 0, .int .i64 0] 33)) w.heap.size d.cells 33 := (Blk.new w d.cells 33).alloc (.cells #[.int .i64 0, .int .i64 0, .int .i64 0, .int .i64 0] 33)
  have B2 := Blk.new (w.alloc (.cells #[.int .i64 d.op, .int .i64 d.flow, .int .i64 d.a, .int .i64 d.b] 33)) [.int .i64 0, .int .i64 0, .int .i64 0, .int .i64 0] 33
  have e1 : (w.alloc (.cells #[.int .i64 d.op, .int .i64 d.flow, .int .i64 d.a, .int .i64 d.b] 33)).heap.size = w.heap.size + 1 := by simp
  rw [e1] at B2
  go_enter Tryz.func12, Tryz.ntmps12
  go_upto_region 1 with fail
  generalize ((w.alloc (.cells #[.int .i64 d.op, .int .i64 d.flow, .int .i64 d.a, .int .i64 d.b] 33)).alloc (.cells #[.int .i64 0, .int .i64 0, .int .i64 0, .int .i64 0] 33)) = W at *
  have c0 : W.cell? ⟨w.heap.size, 0, none⟩ = some (.int .i64 d.op) := B1.cell 0
  have c1 : W.cell? ⟨w.heap.size, 1, none⟩ = some (.int .i64 d.flow) := B1.cell 1
  have c2 : W.cell? ⟨w.heap.size, 2, none⟩ = some (.int .i64 d.a) := B1.cell 2
  have c3 : W.cell? ⟨w.heap.size, 3, none⟩ = some (.int .i64 d.b) := B1.cell 3
  have cl := B1.lt
  have hz1 := B2.lt
  have HB1 := Lib.hid B1
  have HB2 := Lib.hid B2
  have HB := Lib.hid hb1
  clear B1 B2 hb1 e1
  go_wp2_with fail
  refine (M23 _).mono ?_
  rintro e w' ⟨rfl, rfl⟩
  by_cases h23 : modZ d.flow 23 = 22
  · have g23 : (modZ d.flow 23 == 22) = true := by simpa using h23
    obtain rfl : R = d := by rw [HR.out, if_pos h23]
    have r0 : W.cell? ⟨w.heap.size + 1, 0, none⟩ = some (.int .i64 0) := HB2.out.cell 0
    have r1 : W.cell? ⟨w.heap.size + 1, 1, none⟩ = some (.int .i64 0) := HB2.out.cell 1
    have r2 : W.cell? ⟨w.heap.size + 1, 2, none⟩ = some (.int .i64 0) := HB2.out.cell 2
    have r3 : W.cell? ⟨w.heap.size + 1, 3, none⟩ = some (.int .i64 0) := HB2.out.cell 3
    have f0 := HB2.out.frozen 0
    have f1 := HB2.out.frozen 1
    have f2 := HB2.out.frozen 2
    have f3 := HB2.out.frozen 3
    clear h23 HR
    go_wp2
    refine bodyPost_ret (v := .agg #[.int .i64 R.op, .int .i64 R.flow, .int .i64 R.a, .int .i64 R.b]) (by simp [results, Tryz.results12, go_sem, r0, r1, r2, r3, hz1]) rfl ⟨rfl, ?_⟩
    have hz : w.heap.size ≤ w.heap.size + 1 := Nat.le_succ _
    exact (((HB.out.setCell (p := ⟨w.heap.size + 1, 0, none⟩) hz _).setCell (p := ⟨w.heap.size + 1, 1, none⟩) hz _).setCell (p := ⟨w.heap.size + 1, 2, none⟩) hz _).setCell (p := ⟨w.heap.size + 1, 3, none⟩) hz _
  have g23 : (modZ d.flow 23 == 22) = false := by simpa using h23
  have hR2 := HR.out
  rw [if_neg h23] at hR2
  replace HR := Lib.hid hR2
  clear h23 hR2
  go_wp2_with fail
  refine (M5 _).mono ?_
  rintro e w' ⟨rfl, rfl⟩
  have hnew : Blk (W.alloc (.cells #[.int .i64 0, .int .i64 (modZ d.flow 5), .int .i64 0, .int .i64 0] 33)) W.heap.size (CallS.cells ⟨0, modZ d.flow 5, 0, 0⟩) 33 := Blk.new W [.int .i64 0, .int .i64 (modZ d.flow 5), .int .i64 0, .int .i64 0] 33
  have hbn := below1 W (.cells #[.int .i64 0, .int .i64 (modZ d.flow 5), .int .i64 0, .int .i64 0] 33)
  have S3 : PcSt w (W.alloc (.cells #[.int .i64 0, .int .i64 (modZ d.flow 5), .int .i64 0, .int .i64 0] 33)) W.heap.size d ⟨0, modZ d.flow 5, 0, 0⟩ := ⟨HB.out.trans (hbn.mono HB.out.size), HB1.out.below hbn, HB2.out.below hbn, hnew, hz1⟩
  have HS := Lib.hid S3
  clear S3 hnew hbn c0 c1 c2 c3 cl HB HB1 HB2 M23 M5 g23
  go_upto_region 4 with fail
  generalize (W.alloc (.cells #[.int .i64 0, .int .i64 (modZ d.flow 5), .int .i64 0, .int .i64 0] 33)) = W3 at *
  generalize W.heap.size = X at *
  obtain ⟨c0, c1, c2, c3, cl, x0, x1, x2, x3, xl, f0, f1, f2, f3⟩ := HS.out.cells
  go_wp2_with fail
  refine (M10 _).mono ?_
  rintro e w' ⟨rfl, rfl⟩
  have m10 := modZ_bd d.op (n := 10) (by omega)
  generalize modZ d.op 10 = o at *
  have i0 : Value.int .i64 (IntKind.i64.wrap (1 + modZ d.a 5)) = .int .i64 (1 + modZ d.a 5) := by have := modZ_bd d.a (n := 5) (by omega); exact wr1 (by omega)
  have i1 : Value.int .i64 (IntKind.i64.wrap (1 + modZ d.b 3)) = .int .i64 (1 + modZ d.b 3) := by have := modZ_bd d.b (n := 3) (by omega); exact wr1 (by omega)
  have i2 : Value.int .i64 (IntKind.i64.wrap (1 + modZ d.a 9)) = .int .i64 (1 + modZ d.a 9) := by have := modZ_bd d.a (n := 9) (by omega); exact wr1 (by omega)
  have i3 : Value.int .i64 (IntKind.i64.wrap (1 + modZ d.a 65536)) = .int .i64 (1 + modZ d.a 65536) := by have := modZ_bd d.a (n := 65536) (by omega); exact wr1 (by omega)
  go_upto_block 0 with fail
  go_cut [] from 16 to 63 (fun wx => PcSt w wx X d R)
  case first =>
    have ho : o = 0 ∨ o = 1 ∨ o = 6 ∨ o = 7 ∨ o = 8 ∨ o = 9 ∨ (o = 2 ∨ o = 3 ∨ o = 4 ∨ o = 5) := by omega
    rcases ho with rfl | rfl | rfl | rfl | rfl | rfl | ho
    · obtain rfl : R = ⟨1, modZ d.flow 5, 1 + modZ d.a 5, 1 + modZ d.b 3⟩ := by rw [HR.out]; rfl
      have M1 := mod_any d.a 5 (by omega) (by omega)
      have M2 := mod_any d.b 3 (by omega) (by omega)
      have HA := Lib.hid ((HS.out.set0 1).below (Below.refl _ _).drew)
      have HB := Lib.hid (((HS.out.set0 1).set2 (1 + modZ d.a 5)).below (Below.refl _ _).drew)
      have HC := Lib.hid ((((HS.out.set0 1).set2 (1 + modZ d.a 5)).set3 (1 + modZ d.b 3)).below (Below.refl _ _).drew)
      simp only at HA HB HC
      have hS : W3.drew.cell? ⟨w.heap.size, 2, none⟩ = some (.int .i64 d.a) ∧ W3.drew.cell? ⟨w.heap.size, 3, none⟩ = some (.int .i64 d.b) := ⟨c2, c3⟩
      have hSA : (W3.setCell ⟨X, 0, none⟩ (.int .i64 1)).drew.cell? ⟨w.heap.size, 2, none⟩ = some (.int .i64 d.a) ∧ (W3.setCell ⟨X, 0, none⟩ (.int .i64 1)).drew.cell? ⟨w.heap.size, 3, none⟩ = some (.int .i64 d.b) := ⟨HA.out.box.cell 2, HA.out.box.cell 3⟩
      have hSB : ((W3.setCell ⟨X, 0, none⟩ (.int .i64 1)).setCell ⟨X, 2, none⟩ (.int .i64 (1 + modZ d.a 5))).drew.cell? ⟨w.heap.size, 2, none⟩ = some (.int .i64 d.a) ∧ ((W3.setCell ⟨X, 0, none⟩ (.int .i64 1)).setCell ⟨X, 2, none⟩ (.int .i64 (1 + modZ d.a 5))).drew.cell? ⟨w.heap.size, 3, none⟩ = some (.int .i64 d.b) := ⟨HB.out.box.cell 2, HB.out.box.cell 3⟩
      have hSC : (((W3.setCell ⟨X, 0, none⟩ (.int .i64 1)).setCell ⟨X, 2, none⟩ (.int .i64 (1 + modZ d.a 5))).setCell ⟨X, 3, none⟩ (.int .i64 (1 + modZ d.b 3))).drew.cell? ⟨w.heap.size, 2, none⟩ = some (.int .i64 d.a) ∧ (((W3.setCell ⟨X, 0, none⟩ (.int .i64 1)).setCell ⟨X, 2, none⟩ (.int .i64 (1 + modZ d.a 5))).setCell ⟨X, 3, none⟩ (.int .i64 (1 + modZ d.b 3))).drew.cell? ⟨w.heap.size, 3, none⟩ = some (.int .i64 d.b) := ⟨HC.out.box.cell 2, HC.out.box.cell 3⟩
      clear HA HB
      go_upto_region 9 with fail
      go_region_held3 (fun w' => w'.cell? ⟨w.heap.size, 2, none⟩ = some (.int .i64 d.a) ∧ w'.cell? ⟨w.heap.size, 3, none⟩ = some (.int .i64 d.b)) (first | with_reducible exact hS | with_reducible exact hSA | with_reducible exact hSB | with_reducible exact hSC)
        (first
          | (go_at_call 13; with_reducible refine (M1 _).mono ?_; rintro e w1 ⟨rfl, rfl⟩)
          | (go_at_call 13; with_reducible refine (M2 _).mono ?_; rintro e w1 ⟨rfl, rfl⟩))
      go_wp2
      go_meet
      exact HC.out
    · obtain rfl : R = ⟨2, modZ d.flow 5, 0, 0⟩ := by rw [HR.out]; rfl
      have HC := Lib.hid (HS.out.set0 2)
      go_wp2
      go_meet
      exact HC.out
    · obtain rfl : R = ⟨4, 0, 0, 0⟩ := by rw [HR.out]; rfl
      have HC := Lib.hid ((((HS.out.set0 4).set1 0).set2 0).set3 0)
      go_wp2
      go_meet
      exact HC.out
    · obtain rfl : R = ⟨4, 0, 0, 0⟩ := by rw [HR.out]; rfl
      have HC := Lib.hid ((((HS.out.set0 4).set1 0).set2 0).set3 0)
      go_wp2
      go_meet
      exact HC.out
    · obtain rfl : R = ⟨5, 0, modZ d.a 6, 0⟩ := by rw [HR.out]; rfl
      have HC := Lib.hid ((((HS.out.set0 5).set1 0).set2 (modZ d.a 6)).set3 0)
      have M6 := mod_any d.a 6 (by omega) (by omega)
      go_wp2_with fail
      refine (M6 _).mono ?_
      rintro e w' ⟨rfl, rfl⟩
      go_wp2
      go_meet
      exact HC.out
    · obtain rfl : R = ⟨6, 0, 0, 0⟩ := by rw [HR.out]; rfl
      have HC := Lib.hid ((((HS.out.set0 6).set1 0).set2 0).set3 0)
      go_wp2
      go_meet
      exact HC.out
    · have k0 : (o == 0) = false := by simp; omega
      have k1 : (o == 1) = false := by simp; omega
      have k6 : (o == 6) = false := by simp; omega
      have k7 : (o == 7) = false := by simp; omega
      have k8 : (o == 8) = false := by simp; omega
      have k9 : (o == 9) = false := by simp; omega
      have hR3 : R = ⟨3, modZ d.flow 5, if modZ d.a 13 = 12 then 1 + modZ d.a 65536 else 1 + modZ d.a 9, modZ d.b 1000⟩ := by
        rw [HR.out, if_neg (by omega), if_neg (by omega), if_neg (by omega), if_neg (by omega), if_neg (by omega)]
      replace HR := Lib.hid hR3
      have M13 := mod_any d.a 13 (by omega) (by omega)
      have ML := mod_any d.a 65536 (by omega) (by omega)
      clear hR3 ho m10
      have M1 := mod_any d.a 9 (by omega) (by omega)
      have M2 := mod_any d.b 1000 (by omega) (by omega)
      have HA := Lib.hid ((HS.out.set0 3).below (Below.refl _ _).drew)
      have HB := Lib.hid (((HS.out.set0 3).set2 (1 + modZ d.a 9)).below (Below.refl _ _).drew)
      have HC := Lib.hid ((((HS.out.set0 3).set2 (1 + modZ d.a 9)).set3 (modZ d.b 1000)).below (Below.refl _ _).drew)
      simp only at HA HB HC
      have hS : W3.drew.cell? ⟨w.heap.size, 2, none⟩ = some (.int .i64 d.a) ∧ W3.drew.cell? ⟨w.heap.size, 3, none⟩ = some (.int .i64 d.b) := ⟨c2, c3⟩
      have hSA : (W3.setCell ⟨X, 0, none⟩ (.int .i64 3)).drew.cell? ⟨w.heap.size, 2, none⟩ = some (.int .i64 d.a) ∧ (W3.setCell ⟨X, 0, none⟩ (.int .i64 3)).drew.cell? ⟨w.heap.size, 3, none⟩ = some (.int .i64 d.b) := ⟨HA.out.box.cell 2, HA.out.box.cell 3⟩
      have hSB : ((W3.setCell ⟨X, 0, none⟩ (.int .i64 3)).setCell ⟨X, 2, none⟩ (.int .i64 (1 + modZ d.a 9))).drew.cell? ⟨w.heap.size, 2, none⟩ = some (.int .i64 d.a) ∧ ((W3.setCell ⟨X, 0, none⟩ (.int .i64 3)).setCell ⟨X, 2, none⟩ (.int .i64 (1 + modZ d.a 9))).drew.cell? ⟨w.heap.size, 3, none⟩ = some (.int .i64 d.b) := ⟨HB.out.box.cell 2, HB.out.box.cell 3⟩
      have hSC : (((W3.setCell ⟨X, 0, none⟩ (.int .i64 3)).setCell ⟨X, 2, none⟩ (.int .i64 (1 + modZ d.a 9))).setCell ⟨X, 3, none⟩ (.int .i64 (modZ d.b 1000))).drew.cell? ⟨w.heap.size, 2, none⟩ = some (.int .i64 d.a) ∧ (((W3.setCell ⟨X, 0, none⟩ (.int .i64 3)).setCell ⟨X, 2, none⟩ (.int .i64 (1 + modZ d.a 9))).setCell ⟨X, 3, none⟩ (.int .i64 (modZ d.b 1000))).drew.cell? ⟨w.heap.size, 3, none⟩ = some (.int .i64 d.b) := ⟨HC.out.box.cell 2, HC.out.box.cell 3⟩
      clear HA HB
      go_upto_region 5 with fail
      go_region_held3 (fun w' => w'.cell? ⟨w.heap.size, 2, none⟩ = some (.int .i64 d.a) ∧ w'.cell? ⟨w.heap.size, 3, none⟩ = some (.int .i64 d.b)) (first | with_reducible exact hS | with_reducible exact hSA | with_reducible exact hSB | with_reducible exact hSC)
        (first
          | (go_at_call 13; with_reducible refine (M1 _).mono ?_; rintro e w1 ⟨rfl, rfl⟩)
          | (go_at_call 13; with_reducible refine (M2 _).mono ?_; rintro e w1 ⟨rfl, rfl⟩))
      clear hS hSA hSB hSC c0 c1 c2 c3 cl x0 x1 x2 x3 xl f0 f1 f2 f3 M1 M2
      generalize (((W3.setCell ⟨X, 0, none⟩ (.int .i64 3)).setCell ⟨X, 2, none⟩ (.int .i64 (1 + modZ d.a 9))).setCell ⟨X, 3, none⟩ (.int .i64 (modZ d.b 1000))).drew = W5 at *
      obtain ⟨c0, c1, c2, c3, cl, x0, x1, x2, x3, xl, f0, f1, f2, f3⟩ := HC.out.cells
      go_wp2_with fail
      refine (M13 _).mono ?_
      rintro e w' ⟨rfl, rfl⟩
      by_cases h13 : modZ d.a 13 = 12
      · have g13 : (modZ d.a 13 == 12) = true := by simpa using h13
        have hR4 := HR.out
        rw [if_pos h13] at hR4
        have HR4 := Lib.hid hR4
        have HD := Lib.hid (HC.out.set2 (1 + modZ d.a 65536))
        clear h13 hR4
        go_wp2_with fail
        refine (ML _).mono ?_
        rintro e w' ⟨rfl, rfl⟩
        go_wp2
        go_meet
        rw [HR4.out]
        exact HD.out
      · have g13 : (modZ d.a 13 == 12) = false := by simpa using h13
        have hR4 := HR.out
        rw [if_neg h13] at hR4
        have HR4 := Lib.hid hR4
        clear h13 hR4
        go_wp2
        go_meet
        rw [HR4.out]
        exact HC.out
  case rest =>
    obtain ⟨c0, c1, c2, c3, cl, x0, x1, x2, x3, xl, f0, f1, f2, f3⟩ := hcut.cells
    obtain ⟨r0, r1, r2, r3, g0, g1, g2, g3, gl⟩ := hcut.out
    have HT := Lib.hid hcut
    clear hcut
    go_wp2
    refine bodyPost_ret (v := .agg #[.int .i64 R.op, .int .i64 R.flow, .int .i64 R.a, .int .i64 R.b]) (by simp [results, Tryz.results12, go_sem, r0, r1, r2, r3, gl]) rfl ⟨rfl, ?_⟩
    exact HT.out.done _ _ _ _
end Go.Proofs.YtfgfjnlkgadkhaaGreat
end

-- weighbridgehelp at slices of packets: two that hold the same packets are held to be the same.
section
namespace Go.Proofs.YtfgfjnlkgadkhaaGreat
set_option linter.unusedVariables false
set_option linter.unusedSimpArgs false
open Go.RowKit Go.Proofs.YtfgfjnlkgadkhaaGreatMem

def nthP (l : List Pk) (k : Nat) : Pk := l.getD k Pk.zero
theorem nthP_eq {l : List Pk} {k : Nat} (h : k < l.length) : nthP l k = l[k] := by simp [nthP, h]
theorem pks_at (l : List Pk) : ∀ (k : Nat), k < l.length → ∀ i u, (nthP l k).cells[i]? = some u → (pks l)[k * 3 + i]? = some u := by
  induction l with
  | nil => intro k hk; cases hk
  | cons p l ih =>
    intro k hk i u hu
    rw [pks_cons]
    cases k with
    | zero =>
      have e : nthP (p :: l) 0 = p := rfl
      rw [e] at hu
      have hi : i < p.cells.length := (List.getElem?_eq_some_iff.1 hu).1
      rw [Nat.zero_mul, Nat.zero_add, List.getElem?_append_left hi]; exact hu
    | succ k =>
      have e : nthP (p :: l) (k + 1) = nthP l k := by simp [nthP]
      rw [e] at hu
      have h3 : p.cells.length = 3 := rfl
      rw [List.getElem?_append_right (by omega), h3, show (k + 1) * 3 + i - 3 = k * 3 + i by omega]
      exact ih k (by simpa using hk) i u hu

set_option maxHeartbeats 400000 in
theorem plainP1_any (p : Pk) (w : World) :
    Calls Tryz.prog 73 #[.agg #[.int .i64 p.flow, .int .i64 p.len, .int .i64 p.mark], .agg #[.int .i64 p.flow, .int .i64 p.len, .int .i64 p.mark]] w fun e w' => e = .returned (.bool true) ∧ Below w.heap.size w w' := by
  go_enter Tryz.func73, Tryz.ntmps73
  go_wp2
  go_ret
  exact ⟨by simp [Act.eval], ((Below.refl _ _).alloc (Nat.le_refl _) _).alloc (by simp) _⟩

/-- The cells of the k-th packet. -/
theorem rds_pk {w : World} {ao : Option Addr} {n cap : Nat} {l : List Pk} (h : RdS w ao n cap 3 (pks l)) (hl : l.length = n) {k : Nat} (hk : k < n) :
    ∃ b off, ao = some ⟨b, off, none⟩ ∧ b < w.heap.size ∧ ∀ w', Below w.heap.size w w' → w'.cell? ⟨b, off + k * 3, none⟩ = some (.int .i64 (nthP l k).flow) ∧ w'.cell? ⟨b, off + k * 3 + 1, none⟩ = some (.int .i64 (nthP l k).len) ∧ w'.cell? ⟨b, off + k * 3 + 2, none⟩ = some (.int .i64 (nthP l k).mark) := by
  have c0 := pks_at l k (by omega) 0 _ rfl
  have c1 := pks_at l k (by omega) 1 _ rfl
  have c2 := pks_at l k (by omega) 2 _ rfl
  obtain ⟨b, off, e, hb, h0⟩ := h.at_ _ _ c0
  obtain ⟨b1, off1, e1, hb1, h1⟩ := h.at_ _ _ c1
  obtain ⟨b2, off2, e2, hb2, h2⟩ := h.at_ _ _ c2
  subst e
  simp only [Option.some.injEq, Addr.mk.injEq, and_true] at e1 e2
  obtain ⟨rfl, rfl⟩ := e1
  obtain ⟨rfl, rfl⟩ := e2
  exact ⟨b, off, rfl, hb, fun w' hbl => ⟨(hbl.cell (p := ⟨b, off + k * 3, none⟩) hb).trans h0, (hbl.cell (p := ⟨b, off + k * 3 + 1, none⟩) hb).trans (by rw [← Nat.add_assoc] at h1; exact h1), (hbl.cell (p := ⟨b, off + k * 3 + 2, none⟩) hb).trans (by rw [← Nat.add_assoc] at h2; exact h2)⟩⟩

set_option maxHeartbeats 1000000 in
theorem sameP_any (a0 a1 : Option Addr) (n c0 c1 : Nat) (l : List Pk) (w : World) (h0 : RdS w a0 n c0 3 (pks l)) (h1 : RdS w a1 n c1 3 (pks l)) (hl : l.length = n) :
    Calls Tryz.prog 72 #[.slice a0 n c0, .slice a1 n c1, .func (.func 73) #[] #[]] w fun e w' => e = .returned (.bool true) ∧ Below w.heap.size w w' := by
  have s0 := h0.small
  have hb : ((n : Int) != (n : Int)) = false := by simp
  have HL := Lib.hid hl
  clear hl
  go_enter Tryz.func72, Tryz.ntmps72
  go_wp2
  go_loopw [7] (fun i wr => ∃ k : Nat, k ≤ n ∧ i = .int .i64 k ∧ Below w.heap.size w wr) (fun i _ => n - (intOf i).toNat)
  case atStart => exact ⟨0, Nat.zero_le _, rfl, Below.refl _ _⟩
  case round =>
    obtain ⟨k, hk, rfl, hbr⟩ := hrel
    by_cases hl : k < n
    · obtain ⟨b0, o0, rfl, hlt0, hc0⟩ := rds_pk h0 HL.out hl
      obtain ⟨b1, o1, rfl, hlt1, hc1⟩ := rds_pk h1 HL.out hl
      have i1 : (k : Int) < (n : Int) := by omega
      have HC0 := Lib.hid hc0
      have HC1 := Lib.hid hc1
      clear hc0 hc1
      have Td := hbr.drew
      go_wp2_with fail
      go_region_held3 (fun w' => (w'.cell? ⟨b0, o0 + k * 3, none⟩ = some (.int .i64 (nthP l k).flow) ∧ w'.cell? ⟨b0, o0 + k * 3 + 1, none⟩ = some (.int .i64 (nthP l k).len) ∧ w'.cell? ⟨b0, o0 + k * 3 + 2, none⟩ = some (.int .i64 (nthP l k).mark)) ∧ (w'.cell? ⟨b1, o1 + k * 3, none⟩ = some (.int .i64 (nthP l k).flow) ∧ w'.cell? ⟨b1, o1 + k * 3 + 1, none⟩ = some (.int .i64 (nthP l k).len) ∧ w'.cell? ⟨b1, o1 + k * 3 + 2, none⟩ = some (.int .i64 (nthP l k).mark)))
        (exact ⟨HC0.out _ Td, HC1.out _ Td⟩)
        (first | (go_at_call 73; refine (plainP1_any (nthP l k) _).mono ?_; rintro e w3 ⟨rfl, hb3⟩; replace Td := Td.trans (hb3.mono Td.size)))
      go_wp2
      go_roundw
      case rel => exact ⟨k + 1, by omega, by go_num, Td⟩
      case measure => simp [intOf]; omega
    · have i1 : (n : Int) ≤ (k : Int) := by omega
      go_wp2
      go_ret
      exact ⟨rfl, hbr⟩

set_option maxHeartbeats 400000 in
theorem plainP_any (a0 a1 : Option Addr) (n c0 c1 : Nat) (l : List Pk) (w : World) (h0 : RdS w a0 n c0 3 (pks l)) (h1 : RdS w a1 n c1 3 (pks l)) (hl : l.length = n) :
    Calls Tryz.prog 44 #[.slice a0 n c0, .slice a1 n c1] w fun e w' => e = .returned (.bool true) ∧ Below w.heap.size w w' := by
  have hs := sameP_any a0 a1 n c0 c1 l
  go_enter Tryz.func44, Tryz.ntmps44
  go_wp2_with fail
  refine (hs _ h0 h1 hl).mono ?_
  rintro e w1 ⟨rfl, hb⟩
  go_wp2
  go_ret
  exact ⟨rfl, hb⟩
end Go.Proofs.YtfgfjnlkgadkhaaGreat
end

-- weighbridgehelp.Ret: two that tell the same are held to be the same; both models' calls, one behind the other.
section
namespace Go.Proofs.YtfgfjnlkgadkhaaGreat
set_option linter.unusedVariables false
set_option linter.unusedSimpArgs false
set_option maxRecDepth 20000
open Go.RowKit Go.Proofs.YtfgfjnlkgadkhaaGreatMem Go.Proofs.YtfgfjnlkgadkhaaGreatMapK

set_option maxHeartbeats 2000000 in
theorem helpRet_any (r : RetS) (a0 a1 : Option Addr) (c0 c1 : Nat) (w : World) (h0 : RdS w a0 r.ps.length c0 3 (pks r.ps)) (h1 : RdS w a1 r.ps.length c1 3 (pks r.ps)) :
    Calls Tryz.prog 16 #[.agg #[.int .i64 r.e, .slice a0 r.ps.length c0, .int .i64 r.n, .int .u64 r.v], .agg #[.int .i64 r.e, .slice a1 r.ps.length c1, .int .i64 r.n, .int .u64 r.v]] w fun e w' => e = .returned (.bool true) ∧ Below w.heap.size w w' := by
  have hb : Below w.heap.size w ((w.alloc (.cells #[.int .i64 r.e, .slice a0 r.ps.length c0, .int .i64 r.n, .int .u64 r.v] 40)).alloc (.cells #[.int .i64 r.e, .slice a1 r.ps.length c1, .int .i64 r.n, .int .u64 r.v] 40)) := ((Below.refl _ _).alloc (Nat.le_refl _) _).alloc (by simp) _
  have B0 : Blk ((w.alloc (.cells #[.int .i64 r.e, .slice a0 r.ps.length c0, .int .i64 r.n, .int .u64 r.v] 40)).alloc (.cells #[.int .i64 r.e, .slice a1 r.ps.length c1, .int .i64 r.n, .int .u64 r.v] 40)) w.heap.size [.int .i64 r.e, .slice a0 r.ps.length c0, .int .i64 r.n, .int .u64 r.v] 40 := (Blk.new w [.int .i64 r.e, .slice a0 r.ps.length c0, .int .i64 r.n, .int .u64 r.v] 40).alloc _
  have B1 := Blk.new (w.alloc (.cells #[.int .i64 r.e, .slice a0 r.ps.length c0, .int .i64 r.n, .int .u64 r.v] 40)) [.int .i64 r.e, .slice a1 r.ps.length c1, .int .i64 r.n, .int .u64 r.v] 40
  have e1 : (w.alloc (.cells #[.int .i64 r.e, .slice a0 r.ps.length c0, .int .i64 r.n, .int .u64 r.v] 40)).heap.size = w.heap.size + 1 := by simp
  rw [e1] at B1
  have d0 := h0.below hb
  have d1 := h1.below hb
  have HB := Lib.hid hb
  have q1 : (r.e == r.e) = true := by simp
  have q2 : (r.n == r.n) = true := by simp
  have q3 : (r.v == r.v) = true := by simp
  have HP := Lib.hid (plainP_any a0 a1 r.ps.length c0 c1 r.ps)
  clear h0 h1 hb e1
  go_enter Tryz.func16, Tryz.ntmps16
  go_upto_region 1 with fail
  generalize ((w.alloc (.cells #[.int .i64 r.e, .slice a0 r.ps.length c0, .int .i64 r.n, .int .u64 r.v] 40)).alloc (.cells #[.int .i64 r.e, .slice a1 r.ps.length c1, .int .i64 r.n, .int .u64 r.v] 40)) = W at *
  have x0 : W.cell? ⟨w.heap.size, 0, none⟩ = some (.int .i64 r.e) := B0.cell 0
  have x1 : W.cell? ⟨w.heap.size, 1, none⟩ = some (.slice a0 r.ps.length c0) := B0.cell 1
  have x2 : W.cell? ⟨w.heap.size, 2, none⟩ = some (.int .i64 r.n) := B0.cell 2
  have x3 : W.cell? ⟨w.heap.size, 3, none⟩ = some (.int .u64 r.v) := B0.cell 3
  have y0 : W.cell? ⟨w.heap.size + 1, 0, none⟩ = some (.int .i64 r.e) := B1.cell 0
  have y1 : W.cell? ⟨w.heap.size + 1, 1, none⟩ = some (.slice a1 r.ps.length c1) := B1.cell 1
  have y2 : W.cell? ⟨w.heap.size + 1, 2, none⟩ = some (.int .i64 r.n) := B1.cell 2
  have y3 : W.cell? ⟨w.heap.size + 1, 3, none⟩ = some (.int .u64 r.v) := B1.cell 3
  have xl := B0.lt
  have yl := B1.lt
  clear B0 B1
  go_wp2_with fail
  refine (HP.out W d0 d1 trivial).mono ?_
  rintro e w1 ⟨rfl, hb1⟩
  have HB1 := Lib.hid hb1
  clear hb1
  go_wp2
  go_ret
  exact ⟨by simp [Act.eval], HB.out.trans (HB1.out.mono HB.out.size)⟩
section
variable {w wx wy : World} {b x : Nat} {c : Cfg} {m y : MdS}
theorem TwoM.mk' {F G F' : Nat → Prop} (h1 : MdAt wx b c m.s m.served F) (h2 : RmAt wx x c y.s y.served G) (h3 : ∀ k, F k → ¬ G k) (h4 : ∀ k, F k → w.heap.size ≤ k) (h5 : ∀ k, G k → w.heap.size ≤ k) (h6 : Below w.heap.size w wx) : TwoM w wx b x c m y := ⟨F, G, h1, h2, h3, h4, h5, h6⟩
/-- Both a model and the reference's, of whatever they are. -/
structure BothOk (c : Cfg) (m y : MdS) (k : Nat) : Prop where
  sim : MSim m y
  m : m.Good k
  y : y.Good k
end
theorem SfS.addR_fst {t : SfS} {id r m : Int} : ((t.addR id r m).fs.map (·.1)).Perm ((t.add id r m).fs.map (·.1)) := by
  unfold SfS.addR SfS.add
  split
  · exact List.Perm.refl _
  · exact (insF_perm t.fs (id, FlS.new r m)).map _
theorem MSim.good {m y : MdS} {k : Nat} (h : MSim m y) (g : m.Good k) : y.Good k := by
  have hp := h.s.perm
  refine ⟨⟨⟨by rw [← h.s.v]; exact g.ok.s.v, by rw [← h.s.most]; exact g.ok.s.most, fun e he => g.ok.s.ids e (hp.mem_iff.2 he), fun e he => g.ok.s.fs e (hp.mem_iff.2 he)⟩, by rw [← hp.length_eq]; exact g.ok.len, by rw [← h.served]; exact g.ok.served, h.s.tn⟩, fun e he => g.tag e (hp.mem_iff.2 he)⟩
section
variable {w wx wy : World} {b x : Nat} {c : Cfg} {m y : MdS} {k : Nat}
structure CfgR (c : Cfg) : Prop where
  unit : 1 ≤ c.unit ∧ c.unit ≤ 4611686018427387904
  shards : c.shards ≠ 0
theorem CfgR.ok (h : CfgR c) : c.Ok := ⟨by have := h.unit; unfold W64; omega, h.shards⟩
/-- Both apart; what lies in the blocks of K is as it was in the world w0. -/
structure TwoK (w w0 wx : World) (K : Nat → Prop) (b x : Nat) (c : Cfg) (m y : MdS) : Prop where
  two : ∃ F G : Nat → Prop, MdAt wx b c m.s m.served F ∧ RmAt wx x c y.s y.served G ∧ (∀ k, F k → ¬ G k) ∧ (∀ k, F k → w.heap.size ≤ k) ∧ (∀ k, G k → w.heap.size ≤ k) ∧ ∀ k, K k → ¬ F k ∧ ¬ G k
  fr : Fr (fun k => ¬ K k) w0 wx
  kl : ∀ k, K k → k < w0.heap.size
  bel : Below w.heap.size w wx
variable {w0 : World} {K : Nat → Prop}
theorem TwoK.toM (h : TwoK w w0 wx K b x c m y) : TwoM w wx b x c m y := let ⟨F, G, h1, h2, h3, h4, h5, _⟩ := h.two; ⟨F, G, h1, h2, h3, h4, h5, h.bel⟩
theorem TwoM.toK (h : TwoM w wx b x c m y) : TwoK w wx wx (fun _ => False) b x c m y := let ⟨F, G, h1, h2, h3, h4, h5, h6⟩ := h; ⟨⟨F, G, h1, h2, h3, h4, h5, fun _ f => f.elim⟩, Fr.refl _ _, fun _ f => f.elim, h6⟩
theorem TwoK.below (h : TwoK w w0 wx K b x c m y) (hb : Below wx.heap.size wx wy) : TwoK w w0 wy K b x c m y :=
  let ⟨F, G, h1, h2, h3, h4, h5, h6⟩ := h.two
  ⟨⟨F, G, h1.below hb, h2.below hb, h3, h4, h5, h6⟩, h.fr.then_below hb, h.kl, h.bel.trans (hb.mono h.bel.size)⟩
/-- Some that was made since is kept from now on. -/
theorem TwoM.kept (h : TwoM w wx b x c m y) (hb : Below wx.heap.size wx wy) (K : Nat → Prop) (hK : ∀ k, K k → wx.heap.size ≤ k ∧ k < wy.heap.size) : TwoK w wy wy K b x c m y :=
  let ⟨F, G, h1, h2, h3, h4, h5, h6⟩ := h
  ⟨⟨F, G, h1.below hb, h2.below hb, h3, h4, h5, fun k hk => ⟨fun hF => by have := h1.lt k hF; have := (hK k hk).1; omega, fun hG => by have := h2.lt k hG; have := (hK k hk).1; omega⟩⟩, Fr.refl _ _, fun k hk => (hK k hk).2, h6.trans (hb.mono h6.size)⟩
/-- Both answered alike. -/
def StepPost (w w0 : World) (K : Nat → Prop) (b x : Nat) (c : Cfg) (m y : MdS) (e : Ending) (w' : World) : Prop := e = .returned (.bool true) ∧ TwoK w w0 w' K b x c m y
end
set_option maxHeartbeats 2000000 in
theorem step11_any {w w0 wx : World} {K : Nat → Prop} {b x : Nat} {c : Cfg} {m y : MdS} {k : Nat} (h : TwoK w w0 wx K b x c m y) (hs : MSim m y) (gm : m.Good k) (hk : k ≤ 1000000) (hc : CfgR c) (d : CallS) (hd : d.Ok) :
    Calls Tryz.prog 11 #[.pointer (some ⟨b, 0, none⟩), .pointer (some ⟨x, 0, none⟩), .agg #[.int .i64 d.op, .int .i64 d.flow, .int .i64 d.a, .int .i64 d.b]] wx (StepPost w w0 K b x c (m.doo c d).1 (y.dooR c d).1) := by
  obtain ⟨⟨F, G, h1, h2, h3, h4, h5, hKF⟩, hfr, hkl, h6⟩ := h
  have hret := (hs.doo c d).2
  have ok := gm.bat hk
  have oky := (hs.good gm).bat hk
  have hb := below1 wx (.cells #[.int .i64 d.op, .int .i64 d.flow, .int .i64 d.a, .int .i64 d.b] 33)
  have B0 : Blk (wx.alloc (.cells #[.int .i64 d.op, .int .i64 d.flow, .int .i64 d.a, .int .i64 d.b] 33)) wx.heap.size d.cells 33 := Blk.new wx d.cells 33
  have hF1 := h1.lt
  have hG1 := h2.lt
  have hfin : ∀ e w', StepPost w w0 K b x c (m.doo c d).1 (y.dooR c d).1 e w' = (e = .returned (.bool true) ∧ TwoK w w0 w' K b x c (m.doo c d).1 (y.dooR c d).1) := fun _ _ => rfl
  have HFIN := Lib.hid hfin
  go_enter Tryz.func11, Tryz.ntmps11
  go_upto_region 1 with fail
  have hzz : (wx.alloc (.cells #[.int .i64 d.op, .int .i64 d.flow, .int .i64 d.a, .int .i64 d.b] 33)).heap.size = wx.heap.size + 1 := by simp
  have M0 := Lib.hid (h1.below (hb.drew))
  have R0 := Lib.hid (h2.below (hb.drew))
  have HB := Lib.hid (h6.trans (hb.drew.mono h6.size))
  have HFW := Lib.hid (hfr.then_below hb.drew)
  generalize (wx.alloc (.cells #[.int .i64 d.op, .int .i64 d.flow, .int .i64 d.a, .int .i64 d.b] 33)) = W at *
  have HB0 := Lib.hid B0.drew
  have q0 : W.drew.cell? ⟨wx.heap.size, 0, none⟩ = some (.int .i64 d.op) := B0.cell 0
  have q1 : W.drew.cell? ⟨wx.heap.size, 1, none⟩ = some (.int .i64 d.flow) := B0.cell 1
  have q2 : W.drew.cell? ⟨wx.heap.size, 2, none⟩ = some (.int .i64 d.a) := B0.cell 2
  have q3 : W.drew.cell? ⟨wx.heap.size, 3, none⟩ = some (.int .i64 d.b) := B0.cell 3
  have hWz : W.drew.heap.size = wx.heap.size + 1 := hzz
  have HWZ := Lib.hid hWz
  have hS : W.drew.cell? ⟨wx.heap.size, 0, none⟩ = some (.int .i64 d.op) ∧ W.drew.cell? ⟨wx.heap.size, 1, none⟩ = some (.int .i64 d.flow) ∧ W.drew.cell? ⟨wx.heap.size, 2, none⟩ = some (.int .i64 d.a) ∧ W.drew.cell? ⟨wx.heap.size, 3, none⟩ = some (.int .i64 d.b) := ⟨q0, q1, q2, q3⟩
  have HRET := Lib.hid hret
  clear h1 h2 h6 hb B0 hzz hWz q0 q1 q2 q3 hret hfin hfr
  go_region_held3 (fun w' => w'.cell? ⟨wx.heap.size, 0, none⟩ = some (.int .i64 d.op) ∧ w'.cell? ⟨wx.heap.size, 1, none⟩ = some (.int .i64 d.flow) ∧ w'.cell? ⟨wx.heap.size, 2, none⟩ = some (.int .i64 d.a) ∧ w'.cell? ⟨wx.heap.size, 3, none⟩ = some (.int .i64 d.b)) (first | with_reducible exact hS | with_reducible exact hS1 | with_reducible exact hS2 | with_reducible exact hS3)
    (first
      | (go_at_call 15; refine (do_any b c m F d _ M0.out ok hd hc.ok.unit hc.shards).mono ?_; rintro e w1 ⟨ao, cap, F', rfl, row, n3, md, hF, f⟩; have hz1 := f.size; have BX1 := HB0.out.fr f (fun hk => by have := hF1 _ hk; omega); have hS1 : w1.cell? ⟨wx.heap.size, 0, none⟩ = some (.int .i64 d.op) ∧ w1.cell? ⟨wx.heap.size, 1, none⟩ = some (.int .i64 d.flow) ∧ w1.cell? ⟨wx.heap.size, 2, none⟩ = some (.int .i64 d.a) ∧ w1.cell? ⟨wx.heap.size, 3, none⟩ = some (.int .i64 d.b) := ⟨BX1.cell 0, BX1.cell 1, BX1.cell 2, BX1.cell 3⟩; have HBX1 := Lib.hid BX1; have R1 := Lib.hid (R0.out.fr f (fun k hk hk2 => h3 k hk2 hk)); have HROW := Lib.hid row; have HMD := Lib.hid md; have HHF := Lib.hid hF; have HFR := Lib.hid f; clear BX1 row md hF f n3)
      | (go_at_call 24; refine (doR_any x c y G d _ R1.out oky hd hc.unit hc.shards).mono ?_; rw [← HRET.out]; rintro e w2 ⟨ao2, cap2, G', rfl, row2, n32, md2, hG, f2⟩; have hz2 := f2.size; have BX2 := HBX1.out.fr f2 (fun hk => by have := hG1 _ hk; omega); have hS2 : w2.cell? ⟨wx.heap.size, 0, none⟩ = some (.int .i64 d.op) ∧ w2.cell? ⟨wx.heap.size, 1, none⟩ = some (.int .i64 d.flow) ∧ w2.cell? ⟨wx.heap.size, 2, none⟩ = some (.int .i64 d.a) ∧ w2.cell? ⟨wx.heap.size, 3, none⟩ = some (.int .i64 d.b) := ⟨BX2.cell 0, BX2.cell 1, BX2.cell 2, BX2.cell 3⟩; have HBX2 := Lib.hid BX2; have HROW1 := Lib.hid (owns_fr HROW.out f2 (fun k hk hk2 => by have := (HROW.out.lt k hk).1; have := hG1 _ hk2; have := HWZ.out; omega)); have HROW2 := Lib.hid row2; have HMD1 := Lib.hid (HMD.out.fr f2 (fun k hk hk2 => by (have h9 := hG1 _ hk2); (have h8 := HWZ.out); (rcases HHF.out k hk with h7 | h7); exact h3 k h7 hk2; omega)); have HMD2 := Lib.hid md2; have HHG := Lib.hid hG; have HFR2 := Lib.hid f2; clear BX2 row2 md2 hG f2 n32)
      | (go_at_call 16; refine (helpRet_any _ _ _ _ _ _ (owns_rdS HROW1.out (pks_one _)) (owns_rdS HROW2.out (pks_one _))).mono ?_; rintro e w3 ⟨rfl, hb3⟩; have hS3 : w3.cell? ⟨wx.heap.size, 0, none⟩ = some (.int .i64 d.op) ∧ w3.cell? ⟨wx.heap.size, 1, none⟩ = some (.int .i64 d.flow) ∧ w3.cell? ⟨wx.heap.size, 2, none⟩ = some (.int .i64 d.a) ∧ w3.cell? ⟨wx.heap.size, 3, none⟩ = some (.int .i64 d.b) := ⟨(HBX2.out.below hb3).cell 0, (HBX2.out.below hb3).cell 1, (HBX2.out.below hb3).cell 2, (HBX2.out.below hb3).cell 3⟩; have HB3 := Lib.hid hb3; clear hb3))
  go_wp2
  go_ret
  rw [HFIN.out]
  have hbz := HB.out.size
  have hzw := HWZ.out
  have hz0 := hkl
  have hsz := HFW.out.size
  have hzfr := HFR.out.size
  have hzfr2 := HFR2.out.size
  refine ⟨by simp [Act.eval], ⟨F', G', HMD1.out.below HB3.out, HMD2.out.below HB3.out, fun k hk hk2 => ?_, fun k hk => ?_, fun k hk => ?_, fun k hk => ⟨fun hk1 => ?_, fun hk1 => ?_⟩⟩, ?_, hkl, ((HB.out.trans (HFR.out.below h4 hbz)).trans (HFR2.out.below h5 (Nat.le_trans hbz hz1))).trans (HB3.out.mono (by omega))⟩
  · rcases HHF.out k hk with h7 | h7
    · rcases HHG.out k hk2 with h8 | h8
      · exact h3 k h7 h8
      · have := hF1 k h7; omega
    · rcases HHG.out k hk2 with h8 | h8
      · have := hG1 k h8; omega
      · omega
  · rcases HHF.out k hk with h7 | h7
    · exact h4 k h7
    · omega
  · rcases HHG.out k hk with h7 | h7
    · exact h5 k h7
    · omega
  · have := hkl k hk
    rcases HHF.out k hk1 with h7 | h7
    · exact (hKF k hk).1 h7
    · omega
  · have := hkl k hk
    rcases HHG.out k hk1 with h7 | h7
    · exact (hKF k hk).2 h7
    · omega
  · refine ((HFW.out.trans HFR.out fun k hk hk1 hk2 => (hKF k hk2).1 hk1).trans HFR2.out fun k hk hk1 hk2 => (hKF k hk2).2 hk1).then_below HB3.out
end Go.Proofs.YtfgfjnlkgadkhaaGreat
end

-- weighbridgeplay.Ready: calls that register some flows; slices of calls.
section
namespace Go.Proofs.YtfgfjnlkgadkhaaGreat
set_option linter.unusedVariables false
set_option linter.unusedSimpArgs false
set_option maxRecDepth 20000
open Go.RowKit Go.Proofs.YtfgfjnlkgadkhaaGreatMem Go.Proofs.YtfgfjnlkgadkhaaGreatFlat Go.Proofs.YtfgfjnlkgadkhaaGreatMapK

def callsC (l : List CallS) : List Value := l.flatMap CallS.cells
theorem callsC_append (a b : List CallS) : callsC (a ++ b) = callsC a ++ callsC b := by simp [callsC]
theorem callsC_length (l : List CallS) : (callsC l).length = l.length * 4 := by
  induction l with
  | nil => rfl
  | cons d l ih => unfold callsC at *; simp [CallS.cells, ih]; omega
theorem callsC_one (l : List CallS) : ∀ u ∈ callsC l, u.oneCell' = true := by
  intro u hu
  unfold callsC at hu
  obtain ⟨d, -, hd⟩ := List.mem_flatMap.1 hu
  unfold CallS.cells at hd
  simp only [List.mem_cons, List.not_mem_nil, or_false] at hd
  rcases hd with rfl | rfl | rfl | rfl <;> rfl
def nthC (l : List CallS) (k : Nat) : CallS := l.getD k ⟨0, 0, 0, 0⟩
theorem nthC_eq {l : List CallS} {k : Nat} (h : k < l.length) : l[k]? = some (nthC l k) := by unfold nthC; rw [List.getD_eq_getElem?_getD, List.getElem?_eq_getElem h]; rfl
theorem callsC_at : ∀ (l : List CallS) (k i : Nat) (d : CallS), l[k]? = some d → i < 4 → (callsC l)[k * 4 + i]? = d.cells[i]?
  | [], k, i, d, h, _ => by simp at h
  | e :: l, 0, i, d, h, hi => by
    simp only [List.getElem?_cons_zero, Option.some.injEq] at h
    subst h
    show (e.cells ++ callsC l)[0 * 4 + i]? = _
    rw [Nat.zero_mul, Nat.zero_add, List.getElem?_append_left (by show i < 4; exact hi)]
  | e :: l, k + 1, i, d, h, hi => by
    show (e.cells ++ callsC l)[(k + 1) * 4 + i]? = _
    have h4 : e.cells.length = 4 := rfl
    rw [List.getElem?_append_right (by omega), h4, show (k + 1) * 4 + i - 4 = k * 4 + i by omega]
    exact callsC_at l k i d (by simpa using h) hi
/-- A slice of calls reads. -/
structure RdC (w : World) (ao : Option Addr) (n cap : Nat) (l : List CallS) : Prop where
  rd : RdS w ao n cap 4 (callsC l)
  len : l.length = n
  ok : ∀ d ∈ l, d.Ok
theorem RdC.below {w w' : World} {ao : Option Addr} {n cap : Nat} {l : List CallS} (h : RdC w ao n cap l) (hb : Below w.heap.size w w') : RdC w' ao n cap l := ⟨h.rd.below hb, h.len, h.ok⟩
theorem RdC.nth_ok {w : World} {ao : Option Addr} {n cap k : Nat} {l : List CallS} (h : RdC w ao n cap l) (hk : k < n) : (nthC l k).Ok := h.ok _ (List.mem_of_getElem? (nthC_eq (by rw [h.len]; exact hk)))
theorem RdC.cells {w : World} {ao : Option Addr} {n cap k : Nat} {l : List CallS} (h : RdC w ao n cap l) (hk : k < n) :
    ∃ b o, ao = some ⟨b, o, none⟩ ∧ b < w.heap.size ∧ ∀ w' : World, w'.heap[b]? = w.heap[b]? → w'.cell? ⟨b, o + k * 4, none⟩ = some (.int .i64 (nthC l k).op) ∧ w'.cell? ⟨b, o + k * 4 + 1, none⟩ = some (.int .i64 (nthC l k).flow) ∧ w'.cell? ⟨b, o + k * 4 + 2, none⟩ = some (.int .i64 (nthC l k).a) ∧ w'.cell? ⟨b, o + k * 4 + 3, none⟩ = some (.int .i64 (nthC l k).b) := by
  have hl := nthC_eq (l := l) (k := k) (by rw [h.len]; exact hk)
  have e0 := callsC_at l k 0 _ hl (by omega)
  have e1 := callsC_at l k 1 _ hl (by omega)
  have e2 := callsC_at l k 2 _ hl (by omega)
  have e3 := callsC_at l k 3 _ hl (by omega)
  obtain ⟨b, o, rfl, hb, c0⟩ := h.rd.at_ _ _ e0
  obtain ⟨b', o', e, -, c1⟩ := h.rd.at_ _ _ e1
  cases e
  obtain ⟨b', o', e, -, c2⟩ := h.rd.at_ _ _ e2
  cases e
  obtain ⟨b', o', e, -, c3⟩ := h.rd.at_ _ _ e3
  cases e
  refine ⟨b, o, rfl, hb, fun w' hw => ⟨?_, ?_, ?_, ?_⟩⟩
  · rw [World.cell?_of_block (a := ⟨b, o + k * 4, none⟩) hw]; simpa using c0
  · rw [World.cell?_of_block (a := ⟨b, o + k * 4 + 1, none⟩) hw, Nat.add_assoc]; exact c1
  · rw [World.cell?_of_block (a := ⟨b, o + k * 4 + 2, none⟩) hw, Nat.add_assoc]; exact c2
  · rw [World.cell?_of_block (a := ⟨b, o + k * 4 + 3, none⟩) hw, Nat.add_assoc]; exact c3
theorem ECall : ElT Tryz.prog 25 33 (.agg #[.int .i64 0, .int .i64 0, .int .i64 0, .int .i64 0]) 4 := ⟨Tryz.underlying25, ⟨32, by kernel_rfl, by omega⟩, rfl, by omega⟩
def readyD (f : Nat) : CallS := ⟨1, f, 1 + f, 2 + (f : Int) % 2⟩
def readyL (n : Nat) : List CallS := (List.range n).map readyD
theorem readyL_succ (n : Nat) : readyL (n + 1) = readyL n ++ [readyD n] := by unfold readyL; rw [List.range_succ, List.map_append]; rfl
theorem readyL_len (n : Nat) : (readyL n).length = n := by unfold readyL; simp
theorem readyD_ok (f : Nat) (h : f ≤ 1000) : (readyD f).Ok := by
  unfold readyD
  exact ⟨small_i64 (by simp), small_i64 (by simp only; omega), small_i64 (by simp only; omega), small_i64 (by simp only; omega)⟩
theorem readyL_ok (n : Nat) (h : n ≤ 1000) : ∀ d ∈ readyL n, d.Ok := by
  intro d hd
  unfold readyL at hd
  obtain ⟨f, hf, rfl⟩ := List.mem_map.1 hd
  exact readyD_ok f (by have := List.mem_range.1 hf; omega)
theorem one4 (a b c d : Int) : ∀ u ∈ (#[.int .i64 a, .int .i64 b, .int .i64 c, .int .i64 d] : Array Value).toList, u.oneCell' = true := by
  intro u hu
  have hu2 : u ∈ [Value.int .i64 a, .int .i64 b, .int .i64 c, .int .i64 d] := hu
  simp only [List.mem_cons, List.not_mem_nil, or_false] at hu2
  rcases hu2 with rfl | rfl | rfl | rfl <;> rfl
set_option maxHeartbeats 2000000 in
theorem ready_any (n : Nat) (hn : n ≤ 1000) (w : World) :
    Calls Tryz.prog 33 #[.int .i64 n] w fun e w' => ∃ ao cap, e = .returned (.slice ao n cap) ∧ w'.ownsRow w.heap.size 33 4 (.slice ao n cap) n (callsC (readyL n)) ∧ Below w.heap.size w w' := by
  go_enter Tryz.func33, Tryz.ntmps33
  go_wp2_with fail
  go_loopw [3, 4] (fun v3 v4 wr => ∃ k : Nat, k ≤ n ∧ v4 = .int .i64 k ∧ wr.ownsRow w.heap.size 33 4 v3 k (callsC (readyL k)) ∧ Below w.heap.size w wr) (fun _ v4 _ => n - (intOf v4).toNat)
  case atStart => exact ⟨0, Nat.zero_le _, rfl, owns_nil _ _ _ _, Below.refl _ _⟩
  case round =>
    obtain ⟨k, hk, rfl, hown, hbr⟩ := hrel
    have hszr := hbr.size
    by_cases hl : k < n
    · have i1 : (k : Int) < (n : Int) := by omega
      have e1 : Value.int .i64 (IntKind.i64.wrap (1 + (k : Int))) = .int .i64 (1 + (k : Int)) := wr1 (by omega)
      have e2 : Value.int .i64 (IntKind.i64.wrap (2 + (k : Int) % 2)) = .int .i64 (2 + (k : Int) % 2) := wr1 (by omega)
      have HOWN := Lib.hid hown
      have HS := Lib.hid (readyL_succ k)
      clear hown
      go_wp2_with ((at_builtin; refine ap_new wr #[.int .i64 1, .int .i64 k, .int .i64 (1 + (k : Int)), .int .i64 (2 + (k : Int) % 2)] ECall rfl _ _ rfl w.heap.size _ k _ rfl HOWN.out hszr 1 rfl rfl (one4 _ _ _ _) (by omega) ?_; intro v' w3 hown3 hg3 hb3 hfr3))
      go_roundw
      case rel => exact ⟨k + 1, by omega, by go_num, by rw [HS.out, callsC_append]; exact hown3, hbr.trans (hb3)⟩
      case measure => simp [intOf]; omega
    · obtain rfl : k = n := by omega
      have i1 : ¬ (k : Int) < (k : Int) := by omega
      obtain ⟨ao, cap, rfl⟩ := owns_slice hown
      go_wp2
      go_ret
      exact ⟨ao, cap, rfl, hown, hbr⟩
end Go.Proofs.YtfgfjnlkgadkhaaGreat
end

-- Both models side by side: a call of the one, or of the other, what is kept stays.
section
namespace Go.Proofs.YtfgfjnlkgadkhaaGreat
set_option linter.unusedVariables false
set_option linter.unusedSimpArgs false
set_option maxRecDepth 20000
open Go.RowKit Go.Proofs.YtfgfjnlkgadkhaaGreatMem Go.Proofs.YtfgfjnlkgadkhaaGreatMapK

section
variable {w w0 wx : World} {K : Nat → Prop} {b x : Nat} {c : Cfg} {m y : MdS}
/-- What is kept, and the row that the answer's packets lie in. -/
def KRow (K : Nat → Prop) (ao : Option Addr) : Nat → Prop := fun k => K k ∨ ∃ a, ao = some a ∧ k = a.block
/-- An answer, its packets in a row of their own, kept from now on. -/
def AnsK (w w0 wx : World) (K : Nat → Prop) (b x : Nat) (c : Cfg) (m y : MdS) (r : RetS) (e : Ending) (w' : World) : Prop :=
  ∃ ao cap, e = .returned (.agg #[.int .i64 r.e, .slice ao r.ps.length cap, .int .i64 r.n, .int .u64 r.v]) ∧ w'.ownsRow wx.heap.size 60 3 (.slice ao r.ps.length cap) r.ps.length (pks r.ps) ∧ TwoK w w0 w' K b x c m y ∧ TwoK w w' w' (KRow K ao) b x c m y ∧ wx.heap.size ≤ w'.heap.size
theorem TwoK.rebase (h : TwoK w w0 wx K b x c m y) : TwoK w wx wx K b x c m y := ⟨h.two, Fr.refl _ _, fun k hk => Nat.lt_of_lt_of_le (h.kl k hk) h.fr.size, h.bel⟩
theorem doK (h : TwoK w w0 wx K b x c m y) (ok : BatOk m 0) (hc : CfgR c) (d : CallS) (hd : d.Ok) :
    Calls Tryz.prog 15 #[.pointer (some ⟨b, 0, none⟩), .agg #[.int .i64 d.op, .int .i64 d.flow, .int .i64 d.a, .int .i64 d.b]] wx (AnsK w w0 wx K b x c (m.doo c d).1 y (m.doo c d).2) := by
  obtain ⟨⟨F, G, h1, h2, h3, h4, h5, hKF⟩, hfr, hkl, h6⟩ := h
  refine (do_any b c m F d wx h1 ok hd hc.ok.unit hc.shards).mono fun e w' hh => ?_
  obtain ⟨ao, cap, F', rfl, row, n3, md, hF, f⟩ := hh
  have hz := h6.size
  have hz2 := f.size
  have hz3 := hfr.size
  have hFG : ∀ k, F' k → ¬ G k := fun k hk hk2 => by
    rcases hF k hk with hk | hk
    · exact h3 k hk hk2
    · have := h2.lt k hk2; omega
  have hFw : ∀ k, F' k → w.heap.size ≤ k := fun k hk => by
    rcases hF k hk with hk | hk
    · exact h4 k hk
    · omega
  have hKF' : ∀ k, K k → ¬ F' k ∧ ¬ G k := fun k hk => by
    refine ⟨fun hk1 => ?_, (hKF k hk).2⟩
    rcases hF k hk1 with h7 | h7
    · exact (hKF k hk).1 h7
    · have := hkl k hk; omega
  have hR := h2.fr f fun k hk hk2 => h3 k hk2 hk
  have hb := h6.trans (f.below h4 hz)
  refine ⟨ao, cap, rfl, row, ⟨⟨F', G, md, hR, hFG, hFw, h5, hKF'⟩, hfr.trans f fun k hk hk1 hk2 => (hKF k hk2).1 hk1, hkl, hb⟩, ⟨⟨F', G, md, hR, hFG, hFw, h5, ?_⟩, Fr.refl _ _, ?_, hb⟩, hz2⟩
  · rintro k (hk | ⟨a, rfl, rfl⟩)
    · exact hKF' k hk
    · exact ⟨n3 a rfl, fun hk2 => by have := (row.lt a.block rfl).1; have := h2.lt _ hk2; omega⟩
  · rintro k (hk | ⟨a, rfl, rfl⟩)
    · have := hkl k hk; omega
    · exact (row.lt a.block rfl).2
theorem doRK (h : TwoK w w0 wx K b x c m y) (ok : BatOk y 0) (hc : CfgR c) (d : CallS) (hd : d.Ok) :
    Calls Tryz.prog 24 #[.pointer (some ⟨x, 0, none⟩), .agg #[.int .i64 d.op, .int .i64 d.flow, .int .i64 d.a, .int .i64 d.b]] wx (AnsK w w0 wx K b x c m (y.dooR c d).1 (y.dooR c d).2) := by
  obtain ⟨⟨F, G, h1, h2, h3, h4, h5, hKF⟩, hfr, hkl, h6⟩ := h
  refine (doR_any x c y G d wx h2 ok hd hc.unit hc.shards).mono fun e w' hh => ?_
  obtain ⟨ao, cap, G', rfl, row, n3, md, hG, f⟩ := hh
  have hz := h6.size
  have hz2 := f.size
  have hz3 := hfr.size
  have hFG : ∀ k, F k → ¬ G' k := fun k hk hk2 => by
    rcases hG k hk2 with hk2 | hk2
    · exact h3 k hk hk2
    · have := h1.lt k hk; omega
  have hGw : ∀ k, G' k → w.heap.size ≤ k := fun k hk => by
    rcases hG k hk with hk | hk
    · exact h5 k hk
    · omega
  have hKF' : ∀ k, K k → ¬ F k ∧ ¬ G' k := fun k hk => by
    refine ⟨(hKF k hk).1, fun hk1 => ?_⟩
    rcases hG k hk1 with h7 | h7
    · exact (hKF k hk).2 h7
    · have := hkl k hk; omega
  have hM := h1.fr f fun k hk hk2 => h3 k hk hk2
  have hb := h6.trans (f.below h5 hz)
  refine ⟨ao, cap, rfl, row, ⟨⟨F, G', hM, md, hFG, h4, hGw, hKF'⟩, hfr.trans f fun k hk hk1 hk2 => (hKF k hk2).2 hk1, hkl, hb⟩, ⟨⟨F, G', hM, md, hFG, h4, hGw, ?_⟩, Fr.refl _ _, ?_, hb⟩, hz2⟩
  · rintro k (hk | ⟨a, rfl, rfl⟩)
    · exact hKF' k hk
    · exact ⟨fun hk2 => by have := (row.lt a.block rfl).1; have := h1.lt _ hk2; omega, n3 a rfl⟩
  · rintro k (hk | ⟨a, rfl, rfl⟩)
    · have := hkl k hk; omega
    · exact (row.lt a.block rfl).2
end
/-- Calls done one behind the other. -/
def MdS.runs (c : Cfg) (m : MdS) (l : List CallS) : MdS := l.foldl (fun m d => (m.doo c d).1) m
def MdS.runsR (c : Cfg) (m : MdS) (l : List CallS) : MdS := l.foldl (fun m d => (m.dooR c d).1) m
theorem runs_take {c : Cfg} {m : MdS} {l : List CallS} {k : Nat} (h : k < l.length) : m.runs c (l.take (k + 1)) = ((m.runs c (l.take k)).doo c (nthC l k)).1 := by
  unfold MdS.runs
  rw [List.take_add_one, nthC_eq h, Option.toList_some, List.foldl_append]
  rfl
theorem runsR_take {c : Cfg} {m : MdS} {l : List CallS} {k : Nat} (h : k < l.length) : m.runsR c (l.take (k + 1)) = ((m.runsR c (l.take k)).dooR c (nthC l k)).1 := by
  unfold MdS.runsR
  rw [List.take_add_one, nthC_eq h, Option.toList_some, List.foldl_append]
  rfl
theorem runs_sim (c : Cfg) : ∀ (l : List CallS) {m y : MdS}, MSim m y → MSim (m.runs c l) (y.runsR c l)
  | [], m, y, h => h
  | d :: l, m, y, h => runs_sim c l (h.doo c d).1
theorem runs_good (c : Cfg) (hc : CfgR c) : ∀ (l : List CallS) {m : MdS} {k : Nat}, (∀ d ∈ l, d.Ok) → m.Good k → (m.runs c l).Good (k + l.length)
  | [], m, k, _, h => h
  | d :: l, m, k, ho, h => by
    have := runs_good c hc l (fun e he => ho e (List.mem_cons_of_mem _ he)) (h.doo hc.ok.unit (ho d List.mem_cons_self))
    exact this.mono (by simp; omega)
end Go.Proofs.YtfgfjnlkgadkhaaGreat
end

-- law11's made: with some flows, or without.
section
namespace Go.Proofs.YtfgfjnlkgadkhaaGreat
set_option linter.unusedVariables false
set_option linter.unusedSimpArgs false
set_option maxRecDepth 20000
open Go.RowKit Go.Proofs.YtfgfjnlkgadkhaaGreatMem Go.Proofs.YtfgfjnlkgadkhaaGreatMapK

theorem TwoK.eq {w w0 wx : World} {K : Nat → Prop} {b x : Nat} {c : Cfg} {m y : MdS} (h : TwoK w w0 wx K b x c m y) {k : Nat} (hk : K k) : wx.heap[k]? = w0.heap[k]? := h.fr.block k (h.kl k hk) fun hn => hn hk
theorem confP_r (c : Cfg) (h : W64 c.unit) : CfgR (confP c) := ⟨confU_bd h, (confP_ok c h).shards⟩
/-- What it is made with. -/
def begunL (begun : Bool) : List CallS := if begun then readyL 4 else []
def madeM (c : Cfg) (begun : Bool) : MdS := MdS.runs c .new (begunL begun)
def madeY (c : Cfg) (begun : Bool) : MdS := MdS.runsR c .new (begunL begun)
theorem made_sim (c : Cfg) (begun : Bool) : MSim (madeM c begun) (madeY c begun) := runs_sim c _ MSim.new
theorem begunL_ok (begun : Bool) : ∀ d ∈ begunL begun, d.Ok := by
  unfold begunL
  cases begun with
  | true => exact readyL_ok 4 (by omega)
  | false => intro d hd; cases hd
theorem begunL_len (begun : Bool) : (begunL begun).length ≤ 4 := by cases begun <;> decide
theorem made_good (c : Cfg) (hc : CfgR c) (begun : Bool) : (madeM c begun).Good 4 := (runs_good c hc _ (begunL_ok begun) MdS.Good.new).mono (by have := begunL_len begun; omega)
set_option maxHeartbeats 4000000 in
theorem made1_any (c : Cfg) (hu : W64 c.unit) (w : World) :
    Calls Tryz.prog 9 #[.agg #[.int .i64 c.shards, .int .i64 c.slots, .int .i64 c.workers, .int .i64 c.width, .int .u64 c.unit], .bool true] w fun e w' => ∃ b x, e = .returned (.tuple #[.pointer (some ⟨b, 0, none⟩), .pointer (some ⟨x, 0, none⟩)]) ∧ TwoM w w' b x (confP c) (madeM (confP c) true) (madeY (confP c) true) := by
  have I := CfgIn.start w c
  have C0 := config_any c hu
  have hR := confP_right c hu
  have hcR := confP_r c hu
  go_enter Tryz.func9, Tryz.ntmps9
  go_upto_region 1 with fail
  generalize (w.alloc (.cells #[.int .i64 c.shards, .int .i64 c.slots, .int .i64 c.workers, .int .i64 c.width, .int .u64 c.unit] 24)) = W at *
  obtain ⟨x0, x1, x2, x3, x4, xl⟩ := I.cells
  have HI := Lib.hid I
  clear I
  go_wp2_with fail
  refine (C0 _).mono ?_
  rintro e W1 ⟨rfl, hb1⟩
  replace HI : Hid (CfgIn w W1 c) := Lib.hid (HI.out.below hb1)
  clear hb1 x0 x1 x2 x3 x4 xl C0
  obtain ⟨x0, x1, x2, x3, x4, xl⟩ := HI.out.cells
  obtain ⟨f0, f1, f2, f3, f4⟩ := HI.out.frozen
  replace HI := Lib.hid (HI.out.set (confP c))
  generalize hcc : confP c = c' at *
  replace hcc := Lib.hid hcc
  have N0 := new11_any c'
  unfold NewPost at N0
  rw [hR] at N0
  go_upto_region 2 with fail
  generalize (((((W1.setCell ⟨w.heap.size, 0, none⟩ (.int .i64 c'.shards)).setCell ⟨w.heap.size, 1, none⟩ (.int .i64 c'.slots)).setCell ⟨w.heap.size, 2, none⟩ (.int .i64 c'.workers)).setCell ⟨w.heap.size, 3, none⟩ (.int .i64 c'.width)).setCell ⟨w.heap.size, 4, none⟩ (.int .u64 c'.unit)) = W2 at *
  clear x0 x1 x2 x3 x4 xl f0 f1 f2 f3 f4
  obtain ⟨x0, x1, x2, x3, x4, xl⟩ := HI.out.cells
  go_wp2_with fail
  refine (N0 _).mono ?_
  rintro e W3 ⟨b, rfl, md, hb3⟩
  replace HI : Hid (CfgIn w W3 c') := Lib.hid (HI.out.below hb3)
  have HMD := Lib.hid md
  have hz2 : w.heap.size ≤ W2.heap.size := Nat.le_of_lt xl
  clear hb3 x0 x1 x2 x3 x4 xl N0 md
  obtain ⟨x0, x1, x2, x3, x4, xl⟩ := HI.out.cells
  go_wp2_with fail
  refine (newModel_any c' _).mono ?_
  rintro e W4 ⟨x, rfl, rm, hb4⟩
  have hT : TwoM w W4 b x c' .new .new := ⟨_, _, HMD.out.below hb4, rm, fun k hk hk2 => by omega, fun k hk => by omega, fun k hk => by omega, HI.out.bel.trans (hb4.mono (Nat.le_of_lt xl))⟩
  have HT := Lib.hid hT
  clear hT rm hb4 x0 x1 x2 x3 x4 xl
  go_wp2_with fail
  refine (ready_any 4 (by omega) _).mono ?_
  rintro e W5 ⟨ao, cap, rfl, row, hb5⟩
  have hrd : RdC W5 ao 4 cap (readyL 4) := ⟨owns_rdS row (callsC_one _), readyL_len 4, readyL_ok 4 (by omega)⟩
  obtain ⟨bl, o, rfl, hbl, -⟩ := hrd.cells (k := 0) (by omega)
  have hrow := row.lt bl rfl
  have hTK : TwoK w W5 W5 (fun k => k = bl) b x c' .new .new := HT.out.kept hb5 _ fun k hk => by subst hk; exact hrow
  have HTK := Lib.hid hTK
  have HRD := Lib.hid hrd
  have hle := hrd.rd.le
  clear hTK row hb5 hrow hrd
  go_wp2_with fail
  go_loopw [10] (fun v10 wr => ∃ k : Nat, k ≤ 4 ∧ v10 = .int .i64 k ∧ TwoK w W5 wr (fun k => k = bl) b x c' (MdS.runs c' .new ((readyL 4).take k)) (MdS.runsR c' .new ((readyL 4).take k))) (fun v10 _ => 4 - (intOf v10).toNat)
  case atStart => exact ⟨0, by omega, rfl, HTK.out⟩
  case round =>
    obtain ⟨k, hk, rfl, tk⟩ := hrel
    by_cases hl : k < 4
    · have i1 : (k : Int) < 4 := by omega
      have hgood := (runs_good c' hcR ((readyL 4).take k) (m := .new) (k := 0) (fun d hd => readyL_ok 4 (by omega) d (List.mem_of_mem_take hd)) MdS.Good.new).mono (j := 4) (by have := readyL_len 4; rw [List.length_take]; omega)
      have hsim := runs_sim c' ((readyL 4).take k) MSim.new
      have hdo := HRD.out.nth_ok hl
      obtain ⟨bl', o', e0, -, hc⟩ := HRD.out.cells hl
      cases e0
      obtain ⟨q0, q1, q2, q3⟩ := hc wr (tk.eq rfl)
      have hlw : bl < wr.heap.size := Nat.lt_of_lt_of_le (tk.kl bl rfl) tk.fr.size
      have hg2 := (hsim.good hgood).bat (k := 4) (by omega)
      have HS1 := Lib.hid (runs_take (c := c') (m := .new) (l := readyL 4) (k := k) (by rw [readyL_len]; exact hl))
      have HS2 := Lib.hid (runsR_take (c := c') (m := .new) (l := readyL 4) (k := k) (by rw [readyL_len]; exact hl))
      generalize MdS.runs c' .new ((readyL 4).take k) = mk at *
      generalize MdS.runsR c' .new ((readyL 4).take k) = yk at *
      have HQ := Lib.hid (doK tk (hgood.bat (by omega)) hcR (nthC (readyL 4) k) hdo)
      have HG2 := Lib.hid hg2
      clear tk hgood hsim hg2
      generalize hd : nthC (readyL 4) k = d at *
      replace hd := Lib.hid hd
      go_wp2_with fail
      refine HQ.out.mono ?_
      rintro e w6 ⟨a6, c6, rfl, row6, tk6, -, hz6⟩
      clear q0 q1 q2 q3 row6
      obtain ⟨q0, q1, q2, q3⟩ := hc w6 (tk6.eq rfl)
      have hlw : bl < w6.heap.size := Nat.lt_of_lt_of_le (tk6.kl bl rfl) tk6.fr.size
      have HQ2 := Lib.hid (doRK tk6 HG2.out hcR d hdo)
      clear tk6
      go_wp2_with fail
      refine HQ2.out.mono ?_
      rintro e w7 ⟨a7, c7, rfl, row7, tk7, -, hz7⟩
      have HT7 := Lib.hid tk7
      clear tk7 row7 q0 q1 q2 q3
      go_wp2
      go_roundw
      case rel => exact ⟨k + 1, by omega, by go_num, by rw [HS1.out, HS2.out]; exact HT7.out⟩
      case measure => simp [intOf]; omega
    · obtain rfl : k = 4 := by omega
      have HTE := Lib.hid tk
      clear tk
      go_wp2
      go_ret2
      rw [hcc.out]
      exact ⟨b, x, rfl, HTE.out.toM⟩
theorem made_any (c : Cfg) (hu : W64 c.unit) (begun : Bool) (w : World) :
    Calls Tryz.prog 9 #[.agg #[.int .i64 c.shards, .int .i64 c.slots, .int .i64 c.workers, .int .i64 c.width, .int .u64 c.unit], .bool begun] w fun e w' => ∃ b x, e = .returned (.tuple #[.pointer (some ⟨b, 0, none⟩), .pointer (some ⟨x, 0, none⟩)]) ∧ TwoM w w' b x (confP c) (madeM (confP c) begun) (madeY (confP c) begun) := by
  cases begun with
  | true => exact made1_any c hu w
  | false => exact made0_any c hu w
end Go.Proofs.YtfgfjnlkgadkhaaGreat
end
