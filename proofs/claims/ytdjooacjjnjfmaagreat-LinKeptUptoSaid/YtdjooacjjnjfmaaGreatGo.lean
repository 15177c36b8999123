/- Several texts in one: CallP CallP2 HelpP Ready. -/
import Derived.Test.YtdjooacjjnjfmaaGreatGi
import Derived.Test.YtdjooacjjnjfmaaGreatGb
import Derived.Deep.CutRange
import Derived.Deep.RegionHeld3
import Derived.Deep.CutBlock
import Derived.WalkLawsBesides
import Derived.Test.YtdjooacjjnjfmaaGreatGf
-- weighbridgeplay.Call: a call of a few flows, of any one.
section
namespace Go.Proofs.YtdjooacjjnjfmaaGreat
set_option linter.unusedVariables false
set_option linter.unusedSimpArgs false
set_option maxRecDepth 20000
open Go.RowKit Go.Proofs.YtdjooacjjnjfmaaGreatMem Go.Proofs.YtdjooacjjnjfmaaGreatMapK

def callP (d : CallS) : CallS :=
  if modZ d.flow 23 = 22 then d
  else if modZ d.op 10 = 0 then ⟨1, modZ d.flow 5, 1 + modZ d.a 5, 1 + modZ d.b 3⟩
  else if modZ d.op 10 = 1 then ⟨2, modZ d.flow 5, 0, 0⟩
  else if modZ d.op 10 = 6 ∨ modZ d.op 10 = 7 then ⟨4, 0, 0, 0⟩
  else if modZ d.op 10 = 8 then ⟨5, 0, modZ d.a 6, 0⟩
  else if modZ d.op 10 = 9 then ⟨6, 0, 0, 0⟩
  else ⟨3, modZ d.flow 5, if modZ d.a 13 = 12 then 1 + modZ d.a 65536 else 1 + modZ d.a 9, modZ d.b 1000⟩
theorem small_i64 {x : Int} (h : 0 ≤ x ∧ x ≤ 1000000) : I64 x := by unfold I64; omega
theorem callP_ok {d : CallS} (h : d.Ok) : (callP d).Ok := by
  have m5 := modZ_bd d.flow (n := 5) (by omega)
  have a5 := modZ_bd d.a (n := 5) (by omega)
  have b3 := modZ_bd d.b (n := 3) (by omega)
  have a6 := modZ_bd d.a (n := 6) (by omega)
  have a9 := modZ_bd d.a (n := 9) (by omega)
  have aL := modZ_bd d.a (n := 65536) (by omega)
  have bM := modZ_bd d.b (n := 1000) (by omega)
  unfold callP
  split
  · exact h
  split
  · exact ⟨small_i64 (by simp), small_i64 (by simp only; omega), small_i64 (by simp only; omega), small_i64 (by simp only; omega)⟩
  split
  · exact ⟨small_i64 (by simp), small_i64 (by simp only; omega), small_i64 (by simp), small_i64 (by simp)⟩
  split
  · exact ⟨small_i64 (by simp), small_i64 (by simp), small_i64 (by simp), small_i64 (by simp)⟩
  split
  · exact ⟨small_i64 (by simp), small_i64 (by simp), small_i64 (by simp only; omega), small_i64 (by simp)⟩
  split
  · exact ⟨small_i64 (by simp), small_i64 (by simp), small_i64 (by simp), small_i64 (by simp)⟩
  · refine ⟨small_i64 (by simp), small_i64 (by simp only; omega), ?_, small_i64 (by simp only; omega)⟩
    show I64 (if modZ d.a 13 = 12 then 1 + modZ d.a 65536 else 1 + modZ d.a 9)
    split
    · exact small_i64 (by omega)
    · exact small_i64 (by omega)
/-- Under way: the argument, the result's block, the new call at X. -/
structure PcSt (w W : World) (X : Nat) (d x : CallS) : Prop where
  bel : Below w.heap.size w W
  box : Blk W w.heap.size d.cells 40
  res : Blk W (w.heap.size + 1) [.int .i64 0, .int .i64 0, .int .i64 0, .int .i64 0] 40
  var : Blk W X x.cells 40
  hX : w.heap.size + 1 < X
section
variable {w W W' : World} {X : Nat} {d x : CallS}
theorem PcSt.below (h : PcSt w W X d x) (hb : Below W.heap.size W W') : PcSt w W' X d x := ⟨h.bel.trans (hb.mono h.bel.size), h.box.below hb, h.res.below hb, h.var.below hb, h.hX⟩
theorem PcSt.set0 (h : PcSt w W X d x) (v : Int) : PcSt w (W.setCell ⟨X, 0, none⟩ (.int .i64 v)) X d ⟨v, x.flow, x.a, x.b⟩ :=
  have hX := h.hX
  ⟨h.bel.setCell (p := ⟨X, 0, none⟩) (by show w.heap.size ≤ X; omega) _, h.box.set_far (by show w.heap.size ≠ X; omega) _, h.res.set_far (by show w.heap.size + 1 ≠ X; omega) _, h.var.set 0 _, hX⟩
theorem PcSt.set2 (h : PcSt w W X d x) (v : Int) : PcSt w (W.setCell ⟨X, 2, none⟩ (.int .i64 v)) X d ⟨x.op, x.flow, v, x.b⟩ :=
  have hX := h.hX
  ⟨h.bel.setCell (p := ⟨X, 2, none⟩) (by show w.heap.size ≤ X; omega) _, h.box.set_far (by show w.heap.size ≠ X; omega) _, h.res.set_far (by show w.heap.size + 1 ≠ X; omega) _, h.var.set 2 _, hX⟩
theorem PcSt.set3 (h : PcSt w W X d x) (v : Int) : PcSt w (W.setCell ⟨X, 3, none⟩ (.int .i64 v)) X d ⟨x.op, x.flow, x.a, v⟩ :=
  have hX := h.hX
  ⟨h.bel.setCell (p := ⟨X, 3, none⟩) (by show w.heap.size ≤ X; omega) _, h.box.set_far (by show w.heap.size ≠ X; omega) _, h.res.set_far (by show w.heap.size + 1 ≠ X; omega) _, h.var.set 3 _, hX⟩
theorem PcSt.set1 (h : PcSt w W X d x) (v : Int) : PcSt w (W.setCell ⟨X, 1, none⟩ (.int .i64 v)) X d ⟨x.op, v, x.a, x.b⟩ :=
  have hX := h.hX
  ⟨h.bel.setCell (p := ⟨X, 1, none⟩) (by show w.heap.size ≤ X; omega) _, h.box.set_far (by show w.heap.size ≠ X; omega) _, h.res.set_far (by show w.heap.size + 1 ≠ X; omega) _, h.var.set 1 _, hX⟩
theorem PcSt.cells (h : PcSt w W X d x) : W.cell? ⟨w.heap.size, 0, none⟩ = some (.int .i64 d.op) ∧ W.cell? ⟨w.heap.size, 1, none⟩ = some (.int .i64 d.flow) ∧ W.cell? ⟨w.heap.size, 2, none⟩ = some (.int .i64 d.a) ∧ W.cell? ⟨w.heap.size, 3, none⟩ = some (.int .i64 d.b) ∧ w.heap.size < W.heap.size ∧
    W.cell? ⟨X, 0, none⟩ = some (.int .i64 x.op) ∧ W.cell? ⟨X, 1, none⟩ = some (.int .i64 x.flow) ∧ W.cell? ⟨X, 2, none⟩ = some (.int .i64 x.a) ∧ W.cell? ⟨X, 3, none⟩ = some (.int .i64 x.b) ∧ X < W.heap.size ∧
    W.frozen? ⟨X, 0, none⟩ = false ∧ W.frozen? ⟨X, 1, none⟩ = false ∧ W.frozen? ⟨X, 2, none⟩ = false ∧ W.frozen? ⟨X, 3, none⟩ = false :=
  ⟨h.box.cell 0, h.box.cell 1, h.box.cell 2, h.box.cell 3, h.box.lt, h.var.cell 0, h.var.cell 1, h.var.cell 2, h.var.cell 3, h.var.lt, h.var.frozen 0, h.var.frozen 1, h.var.frozen 2, h.var.frozen 3⟩
theorem PcSt.out (h : PcSt w W X d x) : W.cell? ⟨w.heap.size + 1, 0, none⟩ = some (.int .i64 0) ∧ W.cell? ⟨w.heap.size + 1, 1, none⟩ = some (.int .i64 0) ∧ W.cell? ⟨w.heap.size + 1, 2, none⟩ = some (.int .i64 0) ∧ W.cell? ⟨w.heap.size + 1, 3, none⟩ = some (.int .i64 0) ∧
    W.frozen? ⟨w.heap.size + 1, 0, none⟩ = false ∧ W.frozen? ⟨w.heap.size + 1, 1, none⟩ = false ∧ W.frozen? ⟨w.heap.size + 1, 2, none⟩ = false ∧ W.frozen? ⟨w.heap.size + 1, 3, none⟩ = false ∧ w.heap.size + 1 < W.heap.size :=
  ⟨h.res.cell 0, h.res.cell 1, h.res.cell 2, h.res.cell 3, h.res.frozen 0, h.res.frozen 1, h.res.frozen 2, h.res.frozen 3, h.res.lt⟩
theorem PcSt.done (h : PcSt w W X d x) (v0 v1 v2 v3 : Value) : Below w.heap.size w ((((W.setCell ⟨w.heap.size + 1, 0, none⟩ v0).setCell ⟨w.heap.size + 1, 1, none⟩ v1).setCell ⟨w.heap.size + 1, 2, none⟩ v2).setCell ⟨w.heap.size + 1, 3, none⟩ v3) := by
  have hz : w.heap.size ≤ w.heap.size + 1 := Nat.le_succ _
  exact (((h.bel.setCell (p := ⟨w.heap.size + 1, 0, none⟩) hz v0).setCell (p := ⟨w.heap.size + 1, 1, none⟩) hz v1).setCell (p := ⟨w.heap.size + 1, 2, none⟩) hz v2).setCell (p := ⟨w.heap.size + 1, 3, none⟩) hz v3
end
end Go.Proofs.YtdjooacjjnjfmaaGreat
end

-- weighbridgeplay.Call: the walk.
section
namespace Go.Proofs.YtdjooacjjnjfmaaGreat
set_option linter.unusedVariables false
set_option linter.unusedSimpArgs false
set_option maxRecDepth 20000
open Go.RowKit Go.Proofs.YtdjooacjjnjfmaaGreatMem Go.Proofs.YtdjooacjjnjfmaaGreatMapK

theorem wr1 {x : Int} (h : 0 ≤ x ∧ x ≤ 1000000) : Value.int .i64 (IntKind.i64.wrap x) = .int .i64 x := by
  rw [IntWalk.i64_left, IntWalk.wrap64_in _ (by omega)]
set_option maxHeartbeats 4000000 in
theorem callP_any (d : CallS) (w : World) :
    Calls Tryz.prog 22 #[.agg #[.int .i64 d.op, .int .i64 d.flow, .int .i64 d.a, .int .i64 d.b]] w fun e w' => e = .returned (.agg #[.int .i64 (callP d).op, .int .i64 (callP d).flow, .int .i64 (callP d).a, .int .i64 (callP d).b]) ∧ Below w.heap.size w w' := by
  have hP : callP d = callP d := rfl
  unfold callP at hP
  obtain ⟨R, hR⟩ : ∃ R, callP d = R := ⟨_, rfl⟩
  have hR2 := hR
  unfold callP at hR2
  have HR := Lib.hid hR2.symm
  rw [hR]
  clear hP hR hR2
  have M23 := mod_any d.flow 23 (by omega) (by omega)
  have M5 := mod_any d.flow 5 (by omega) (by omega)
  have M10 := mod_any d.op 10 (by omega) (by omega)
  have hb1 : Below w.heap.size w ((w.alloc (.cells #[.int .i64 d.op, .int .i64 d.flow, .int .i64 d.a, .int .i64 d.b] 40)).alloc (.cells #[.int .i64 0, .int .i64 0, .int .i64 0, .int .i64 0] 40)) := ((Below.refl _ _).alloc (Nat.le_refl _) _).alloc (by simp) _
  have B1 : Blk ((w.alloc (.cells #[.int .i64 d.op, .int .i64 d.flow, .int .i64 d.a, .int .i64 d.b] 40)).alloc (.cells #[.int .i64 0, .int .i64 0, .int .i64 0, .int .i64 0] 40)) w.heap.size d.cells 40 := (Blk.new w d.cells 40).alloc (.cells #[.int .i64 0, .int .i64 0, .int .i64 0, .int .i64 0] 40)
  have B2 := Blk.new (w.alloc (.cells #[.int .i64 d.op, .int .i64 d.flow, .int .i64 d.a, .int .i64 d.b] 40)) [.int .i64 0, .int .i64 0, .int .i64 0, .int .i64 0] 40
  have e1 : (w.alloc (.cells #[.int .i64 d.op, .int .i64 d.flow, .int .i64 d.a, .int .i64 d.b] 40)).heap.size = w.heap.size + 1 := by simp
  rw [e1] at B2
  go_enter Tryz.func22, Tryz.ntmps22
  go_upto_region 1 with fail
  generalize ((w.alloc (.cells #[.int .i64 d.op, .int .i64 d.flow, .int .i64 d.a, .int .i64 d.b] 40)).alloc (.cells #[.int .i64 0, .int .i64 0, .int .i64 0, .int .i64 0] 40)) = W at *
  have c0 : W.cell? ⟨w.heap.size, 0, none⟩ = some (.int .i64 d.op) := B1.cell 0
  have c1 : W.cell? ⟨w.heap.size, 1, none⟩ = some (.int .i64 d.flow) := B1.cell 1
  have c2 : W.cell? ⟨w.heap.size, 2, none⟩ = some (.int .i64 d.a) := B1.cell 2
  have c3 : W.cell? ⟨w.heap.size, 3, none⟩ = some (.int .i64 d.b) := B1.cell 3
  have cl := B1.lt
  have hz1 := B2.lt
  have HB1 := Lib.hid B1
  have HB2 := Lib.hid B2
  have HB := Lib.hid hb1
  clear B1 B2 hb1 e1
  go_wp2_with fail
  refine (M23 _).mono ?_
  rintro e w' ⟨rfl, rfl⟩
  by_cases h23 : modZ d.flow 23 = 22
  · have g23 : (modZ d.flow 23 == 22) = true := by simpa using h23
    obtain rfl : R = d := by rw [HR.out, if_pos h23]
    have r0 : W.cell? ⟨w.heap.size + 1, 0, none⟩ = some (.int .i64 0) := HB2.out.cell 0
    have r1 : W.cell? ⟨w.heap.size + 1, 1, none⟩ = some (.int .i64 0) := HB2.out.cell 1
    have r2 : W.cell? ⟨w.heap.size + 1, 2, none⟩ = some (.int .i64 0) := HB2.out.cell 2
    have r3 : W.cell? ⟨w.heap.size + 1, 3, none⟩ = some (.int .i64 0) := HB2.out.cell 3
    have f0 := HB2.out.frozen 0
    have f1 := HB2.out.frozen 1
    have f2 := HB2.out.frozen 2
    have f3 := HB2.out.frozen 3
    clear h23 HR
    go_wp2
    refine bodyPost_ret (v := .agg #[.int .i64 R.op, .int .i64 R.flow, .int .i64 R.a, .int .i64 R.b]) (by simp [results, Tryz.results22, go_sem, r0, r1, r2, r3, hz1]) rfl ⟨rfl, ?_⟩
    have hz : w.heap.size ≤ w.heap.size + 1 := Nat.le_succ _
    exact (((HB.out.setCell (p := ⟨w.heap.size + 1, 0, none⟩) hz _).setCell (p := ⟨w.heap.size + 1, 1, none⟩) hz _).setCell (p := ⟨w.heap.size + 1, 2, none⟩) hz _).setCell (p := ⟨w.heap.size + 1, 3, none⟩) hz _
  have g23 : (modZ d.flow 23 == 22) = false := by simpa using h23
  have hR2 := HR.out
  rw [if_neg h23] at hR2
  replace HR := Lib.hid hR2
  clear h23 hR2
  go_wp2_with fail
  refine (M5 _).mono ?_
  rintro e w' ⟨rfl, rfl⟩
  have hnew : Blk (W.alloc (.cells #[.int .i64 0, .int .i64 (modZ d.flow 5), .int .i64 0, .int .i64 0] 40)) W.heap.size (CallS.cells ⟨0, modZ d.flow 5, 0, 0⟩) 40 := Blk.new W [.int .i64 0, .int .i64 (modZ d.flow 5), .int .i64 0, .int .i64 0] 40
  have hbn := below1 W (.cells #[.int .i64 0, .int .i64 (modZ d.flow 5), .int .i64 0, .int .i64 0] 40)
  have S3 : PcSt w (W.alloc (.cells #[.int .i64 0, .int .i64 (modZ d.flow 5), .int .i64 0, .int .i64 0] 40)) W.heap.size d ⟨0, modZ d.flow 5, 0, 0⟩ := ⟨HB.out.trans (hbn.mono HB.out.size), HB1.out.below hbn, HB2.out.below hbn, hnew, hz1⟩
  have HS := Lib.hid S3
  clear S3 hnew hbn c0 c1 c2 c3 cl HB HB1 HB2 M23 M5 g23
  go_upto_region 4 with fail
  generalize (W.alloc (.cells #[.int .i64 0, .int .i64 (modZ d.flow 5), .int .i64 0, .int .i64 0] 40)) = W3 at *
  generalize W.heap.size = X at *
  obtain ⟨c0, c1, c2, c3, cl, x0, x1, x2, x3, xl, f0, f1, f2, f3⟩ := HS.out.cells
  go_wp2_with fail
  refine (M10 _).mono ?_
  rintro e w' ⟨rfl, rfl⟩
  have m10 := modZ_bd d.op (n := 10) (by omega)
  generalize modZ d.op 10 = o at *
  have i0 : Value.int .i64 (IntKind.i64.wrap (1 + modZ d.a 5)) = .int .i64 (1 + modZ d.a 5) := by have := modZ_bd d.a (n := 5) (by omega); exact wr1 (by omega)
  have i1 : Value.int .i64 (IntKind.i64.wrap (1 + modZ d.b 3)) = .int .i64 (1 + modZ d.b 3) := by have := modZ_bd d.b (n := 3) (by omega); exact wr1 (by omega)
  have i2 : Value.int .i64 (IntKind.i64.wrap (1 + modZ d.a 9)) = .int .i64 (1 + modZ d.a 9) := by have := modZ_bd d.a (n := 9) (by omega); exact wr1 (by omega)
  have i3 : Value.int .i64 (IntKind.i64.wrap (1 + modZ d.a 65536)) = .int .i64 (1 + modZ d.a 65536) := by have := modZ_bd d.a (n := 65536) (by omega); exact wr1 (by omega)
  go_upto_block 0 with fail
  go_cut [] from 16 to 63 (fun wx => PcSt w wx X d R)
  case first =>
    have ho : o = 0 ∨ o = 1 ∨ o = 6 ∨ o = 7 ∨ o = 8 ∨ o = 9 ∨ (o = 2 ∨ o = 3 ∨ o = 4 ∨ o = 5) := by omega
    rcases ho with rfl | rfl | rfl | rfl | rfl | rfl | ho
    · obtain rfl : R = ⟨1, modZ d.flow 5, 1 + modZ d.a 5, 1 + modZ d.b 3⟩ := by rw [HR.out]; rfl
      have M1 := mod_any d.a 5 (by omega) (by omega)
      have M2 := mod_any d.b 3 (by omega) (by omega)
      have HA := Lib.hid ((HS.out.set0 1).below (Below.refl _ _).drew)
      have HB := Lib.hid (((HS.out.set0 1).set2 (1 + modZ d.a 5)).below (Below.refl _ _).drew)
      have HC := Lib.hid ((((HS.out.set0 1).set2 (1 + modZ d.a 5)).set3 (1 + modZ d.b 3)).below (Below.refl _ _).drew)
      simp only at HA HB HC
      have hS : W3.drew.cell? ⟨w.heap.size, 2, none⟩ = some (.int .i64 d.a) ∧ W3.drew.cell? ⟨w.heap.size, 3, none⟩ = some (.int .i64 d.b) := ⟨c2, c3⟩
      have hSA : (W3.setCell ⟨X, 0, none⟩ (.int .i64 1)).drew.cell? ⟨w.heap.size, 2, none⟩ = some (.int .i64 d.a) ∧ (W3.setCell ⟨X, 0, none⟩ (.int .i64 1)).drew.cell? ⟨w.heap.size, 3, none⟩ = some (.int .i64 d.b) := ⟨HA.out.box.cell 2, HA.out.box.cell 3⟩
      have hSB : ((W3.setCell ⟨X, 0, none⟩ (.int .i64 1)).setCell ⟨X, 2, none⟩ (.int .i64 (1 + modZ d.a 5))).drew.cell? ⟨w.heap.size, 2, none⟩ = some (.int .i64 d.a) ∧ ((W3.setCell ⟨X, 0, none⟩ (.int .i64 1)).setCell ⟨X, 2, none⟩ (.int .i64 (1 + modZ d.a 5))).drew.cell? ⟨w.heap.size, 3, none⟩ = some (.int .i64 d.b) := ⟨HB.out.box.cell 2, HB.out.box.cell 3⟩
      have hSC : (((W3.setCell ⟨X, 0, none⟩ (.int .i64 1)).setCell ⟨X, 2, none⟩ (.int .i64 (1 + modZ d.a 5))).setCell ⟨X, 3, none⟩ (.int .i64 (1 + modZ d.b 3))).drew.cell? ⟨w.heap.size, 2, none⟩ = some (.int .i64 d.a) ∧ (((W3.setCell ⟨X, 0, none⟩ (.int .i64 1)).setCell ⟨X, 2, none⟩ (.int .i64 (1 + modZ d.a 5))).setCell ⟨X, 3, none⟩ (.int .i64 (1 + modZ d.b 3))).drew.cell? ⟨w.heap.size, 3, none⟩ = some (.int .i64 d.b) := ⟨HC.out.box.cell 2, HC.out.box.cell 3⟩
      clear HA HB
      go_upto_region 9 with fail
      go_region_held3 (fun w' => w'.cell? ⟨w.heap.size, 2, none⟩ = some (.int .i64 d.a) ∧ w'.cell? ⟨w.heap.size, 3, none⟩ = some (.int .i64 d.b)) (first | with_reducible exact hS | with_reducible exact hSA | with_reducible exact hSB | with_reducible exact hSC)
        (first
          | (go_at_call 20; with_reducible refine (M1 _).mono ?_; rintro e w1 ⟨rfl, rfl⟩)
          | (go_at_call 20; with_reducible refine (M2 _).mono ?_; rintro e w1 ⟨rfl, rfl⟩))
      go_wp2
      go_meet
      exact HC.out
    · obtain rfl : R = ⟨2, modZ d.flow 5, 0, 0⟩ := by rw [HR.out]; rfl
      have HC := Lib.hid (HS.out.set0 2)
      go_wp2
      go_meet
      exact HC.out
    · obtain rfl : R = ⟨4, 0, 0, 0⟩ := by rw [HR.out]; rfl
      have HC := Lib.hid ((((HS.out.set0 4).set1 0).set2 0).set3 0)
      go_wp2
      go_meet
      exact HC.out
    · obtain rfl : R = ⟨4, 0, 0, 0⟩ := by rw [HR.out]; rfl
      have HC := Lib.hid ((((HS.out.set0 4).set1 0).set2 0).set3 0)
      go_wp2
      go_meet
      exact HC.out
    · obtain rfl : R = ⟨5, 0, modZ d.a 6, 0⟩ := by rw [HR.out]; rfl
      have HC := Lib.hid ((((HS.out.set0 5).set1 0).set2 (modZ d.a 6)).set3 0)
      have M6 := mod_any d.a 6 (by omega) (by omega)
      go_wp2_with fail
      refine (M6 _).mono ?_
      rintro e w' ⟨rfl, rfl⟩
      go_wp2
      go_meet
      exact HC.out
    · obtain rfl : R = ⟨6, 0, 0, 0⟩ := by rw [HR.out]; rfl
      have HC := Lib.hid ((((HS.out.set0 6).set1 0).set2 0).set3 0)
      go_wp2
      go_meet
      exact HC.out
    · have k0 : (o == 0) = false := by simp; omega
      have k1 : (o == 1) = false := by simp; omega
      have k6 : (o == 6) = false := by simp; omega
      have k7 : (o == 7) = false := by simp; omega
      have k8 : (o == 8) = false := by simp; omega
      have k9 : (o == 9) = false := by simp; omega
      have hR3 : R = ⟨3, modZ d.flow 5, if modZ d.a 13 = 12 then 1 + modZ d.a 65536 else 1 + modZ d.a 9, modZ d.b 1000⟩ := by
        rw [HR.out, if_neg (by omega), if_neg (by omega), if_neg (by omega), if_neg (by omega), if_neg (by omega)]
      replace HR := Lib.hid hR3
      have M13 := mod_any d.a 13 (by omega) (by omega)
      have ML := mod_any d.a 65536 (by omega) (by omega)
      clear hR3 ho m10
      have M1 := mod_any d.a 9 (by omega) (by omega)
      have M2 := mod_any d.b 1000 (by omega) (by omega)
      have HA := Lib.hid ((HS.out.set0 3).below (Below.refl _ _).drew)
      have HB := Lib.hid (((HS.out.set0 3).set2 (1 + modZ d.a 9)).below (Below.refl _ _).drew)
      have HC := Lib.hid ((((HS.out.set0 3).set2 (1 + modZ d.a 9)).set3 (modZ d.b 1000)).below (Below.refl _ _).drew)
      simp only at HA HB HC
      have hS : W3.drew.cell? ⟨w.heap.size, 2, none⟩ = some (.int .i64 d.a) ∧ W3.drew.cell? ⟨w.heap.size, 3, none⟩ = some (.int .i64 d.b) := ⟨c2, c3⟩
      have hSA : (W3.setCell ⟨X, 0, none⟩ (.int .i64 3)).drew.cell? ⟨w.heap.size, 2, none⟩ = some (.int .i64 d.a) ∧ (W3.setCell ⟨X, 0, none⟩ (.int .i64 3)).drew.cell? ⟨w.heap.size, 3, none⟩ = some (.int .i64 d.b) := ⟨HA.out.box.cell 2, HA.out.box.cell 3⟩
      have hSB : ((W3.setCell ⟨X, 0, none⟩ (.int .i64 3)).setCell ⟨X, 2, none⟩ (.int .i64 (1 + modZ d.a 9))).drew.cell? ⟨w.heap.size, 2, none⟩ = some (.int .i64 d.a) ∧ ((W3.setCell ⟨X, 0, none⟩ (.int .i64 3)).setCell ⟨X, 2, none⟩ (.int .i64 (1 + modZ d.a 9))).drew.cell? ⟨w.heap.size, 3, none⟩ = some (.int .i64 d.b) := ⟨HB.out.box.cell 2, HB.out.box.cell 3⟩
      have hSC : (((W3.setCell ⟨X, 0, none⟩ (.int .i64 3)).setCell ⟨X, 2, none⟩ (.int .i64 (1 + modZ d.a 9))).setCell ⟨X, 3, none⟩ (.int .i64 (modZ d.b 1000))).drew.cell? ⟨w.heap.size, 2, none⟩ = some (.int .i64 d.a) ∧ (((W3.setCell ⟨X, 0, none⟩ (.int .i64 3)).setCell ⟨X, 2, none⟩ (.int .i64 (1 + modZ d.a 9))).setCell ⟨X, 3, none⟩ (.int .i64 (modZ d.b 1000))).drew.cell? ⟨w.heap.size, 3, none⟩ = some (.int .i64 d.b) := ⟨HC.out.box.cell 2, HC.out.box.cell 3⟩
      clear HA HB
      go_upto_region 5 with fail
      go_region_held3 (fun w' => w'.cell? ⟨w.heap.size, 2, none⟩ = some (.int .i64 d.a) ∧ w'.cell? ⟨w.heap.size, 3, none⟩ = some (.int .i64 d.b)) (first | with_reducible exact hS | with_reducible exact hSA | with_reducible exact hSB | with_reducible exact hSC)
        (first
          | (go_at_call 20; with_reducible refine (M1 _).mono ?_; rintro e w1 ⟨rfl, rfl⟩)
          | (go_at_call 20; with_reducible refine (M2 _).mono ?_; rintro e w1 ⟨rfl, rfl⟩))
      clear hS hSA hSB hSC c0 c1 c2 c3 cl x0 x1 x2 x3 xl f0 f1 f2 f3 M1 M2
      generalize (((W3.setCell ⟨X, 0, none⟩ (.int .i64 3)).setCell ⟨X, 2, none⟩ (.int .i64 (1 + modZ d.a 9))).setCell ⟨X, 3, none⟩ (.int .i64 (modZ d.b 1000))).drew = W5 at *
      obtain ⟨c0, c1, c2, c3, cl, x0, x1, x2, x3, xl, f0, f1, f2, f3⟩ := HC.out.cells
      go_wp2_with fail
      refine (M13 _).mono ?_
      rintro e w' ⟨rfl, rfl⟩
      by_cases h13 : modZ d.a 13 = 12
      · have g13 : (modZ d.a 13 == 12) = true := by simpa using h13
        have hR4 := HR.out
        rw [if_pos h13] at hR4
        have HR4 := Lib.hid hR4
        have HD := Lib.hid (HC.out.set2 (1 + modZ d.a 65536))
        clear h13 hR4
        go_wp2_with fail
        refine (ML _).mono ?_
        rintro e w' ⟨rfl, rfl⟩
        go_wp2
        go_meet
        rw [HR4.out]
        exact HD.out
      · have g13 : (modZ d.a 13 == 12) = false := by simpa using h13
        have hR4 := HR.out
        rw [if_neg h13] at hR4
        have HR4 := Lib.hid hR4
        clear h13 hR4
        go_wp2
        go_meet
        rw [HR4.out]
        exact HC.out
  case rest =>
    obtain ⟨c0, c1, c2, c3, cl, x0, x1, x2, x3, xl, f0, f1, f2, f3⟩ := hcut.cells
    obtain ⟨r0, r1, r2, r3, g0, g1, g2, g3, gl⟩ := hcut.out
    have HT := Lib.hid hcut
    clear hcut
    go_wp2
    refine bodyPost_ret (v := .agg #[.int .i64 R.op, .int .i64 R.flow, .int .i64 R.a, .int .i64 R.b]) (by simp [results, Tryz.results22, go_sem, r0, r1, r2, r3, gl]) rfl ⟨rfl, ?_⟩
    exact HT.out.done _ _ _ _
end Go.Proofs.YtdjooacjjnjfmaaGreat
end

-- weighbridgehelp at slices of packets: two that hold the same packets are held to be the same.
section
namespace Go.Proofs.YtdjooacjjnjfmaaGreat
set_option linter.unusedVariables false
set_option linter.unusedSimpArgs false
open Go.RowKit Go.Proofs.YtdjooacjjnjfmaaGreatMem

def nthP (l : List Pk) (k : Nat) : Pk := l.getD k Pk.zero
theorem nthP_eq {l : List Pk} {k : Nat} (h : k < l.length) : nthP l k = l[k] := by simp [nthP, h]
theorem pks_at (l : List Pk) : ∀ (k : Nat), k < l.length → ∀ i u, (nthP l k).cells[i]? = some u → (pks l)[k * 3 + i]? = some u := by
  induction l with
  | nil => intro k hk; cases hk
  | cons p l ih =>
    intro k hk i u hu
    rw [pks_cons]
    cases k with
    | zero =>
      have e : nthP (p :: l) 0 = p := rfl
      rw [e] at hu
      have hi : i < p.cells.length := (List.getElem?_eq_some_iff.1 hu).1
      rw [Nat.zero_mul, Nat.zero_add, List.getElem?_append_left hi]; exact hu
    | succ k =>
      have e : nthP (p :: l) (k + 1) = nthP l k := by simp [nthP]
      rw [e] at hu
      have h3 : p.cells.length = 3 := rfl
      rw [List.getElem?_append_right (by omega), h3, show (k + 1) * 3 + i - 3 = k * 3 + i by omega]
      exact ih k (by simpa using hk) i u hu

set_option maxHeartbeats 400000 in
theorem plainP1_any (p : Pk) (w : World) :
    Calls Tryz.prog 87 #[.agg #[.int .i64 p.flow, .int .i64 p.len, .int .i64 p.mark], .agg #[.int .i64 p.flow, .int .i64 p.len, .int .i64 p.mark]] w fun e w' => e = .returned (.bool true) ∧ Below w.heap.size w w' := by
  go_enter Tryz.func87, Tryz.ntmps87
  go_wp2
  go_ret
  exact ⟨by simp [Act.eval], ((Below.refl _ _).alloc (Nat.le_refl _) _).alloc (by simp) _⟩

/-- The cells of the k-th packet. -/
theorem rds_pk {w : World} {ao : Option Addr} {n cap : Nat} {l : List Pk} (h : RdS w ao n cap 3 (pks l)) (hl : l.length = n) {k : Nat} (hk : k < n) :
    ∃ b off, ao = some ⟨b, off, none⟩ ∧ b < w.heap.size ∧ ∀ w', Below w.heap.size w w' → w'.cell? ⟨b, off + k * 3, none⟩ = some (.int .i64 (nthP l k).flow) ∧ w'.cell? ⟨b, off + k * 3 + 1, none⟩ = some (.int .i64 (nthP l k).len) ∧ w'.cell? ⟨b, off + k * 3 + 2, none⟩ = some (.int .i64 (nthP l k).mark) := by
  have c0 := pks_at l k (by omega) 0 _ rfl
  have c1 := pks_at l k (by omega) 1 _ rfl
  have c2 := pks_at l k (by omega) 2 _ rfl
  obtain ⟨b, off, e, hb, h0⟩ := h.at_ _ _ c0
  obtain ⟨b1, off1, e1, hb1, h1⟩ := h.at_ _ _ c1
  obtain ⟨b2, off2, e2, hb2, h2⟩ := h.at_ _ _ c2
  subst e
  simp only [Option.some.injEq, Addr.mk.injEq, and_true] at e1 e2
  obtain ⟨rfl, rfl⟩ := e1
  obtain ⟨rfl, rfl⟩ := e2
  exact ⟨b, off, rfl, hb, fun w' hbl => ⟨(hbl.cell (p := ⟨b, off + k * 3, none⟩) hb).trans h0, (hbl.cell (p := ⟨b, off + k * 3 + 1, none⟩) hb).trans (by rw [← Nat.add_assoc] at h1; exact h1), (hbl.cell (p := ⟨b, off + k * 3 + 2, none⟩) hb).trans (by rw [← Nat.add_assoc] at h2; exact h2)⟩⟩

set_option maxHeartbeats 1000000 in
theorem sameP_any (a0 a1 : Option Addr) (n c0 c1 : Nat) (l : List Pk) (w : World) (h0 : RdS w a0 n c0 3 (pks l)) (h1 : RdS w a1 n c1 3 (pks l)) (hl : l.length = n) :
    Calls Tryz.prog 86 #[.slice a0 n c0, .slice a1 n c1, .func (.func 87) #[] #[]] w fun e w' => e = .returned (.bool true) ∧ Below w.heap.size w w' := by
  have s0 := h0.small
  have hb : ((n : Int) != (n : Int)) = false := by simp
  have HL := Lib.hid hl
  clear hl
  go_enter Tryz.func86, Tryz.ntmps86
  go_wp2
  go_loopw [7] (fun i wr => ∃ k : Nat, k ≤ n ∧ i = .int .i64 k ∧ Below w.heap.size w wr) (fun i _ => n - (intOf i).toNat)
  case atStart => exact ⟨0, Nat.zero_le _, rfl, Below.refl _ _⟩
  case round =>
    obtain ⟨k, hk, rfl, hbr⟩ := hrel
    by_cases hl : k < n
    · obtain ⟨b0, o0, rfl, hlt0, hc0⟩ := rds_pk h0 HL.out hl
      obtain ⟨b1, o1, rfl, hlt1, hc1⟩ := rds_pk h1 HL.out hl
      have i1 : (k : Int) < (n : Int) := by omega
      have HC0 := Lib.hid hc0
      have HC1 := Lib.hid hc1
      clear hc0 hc1
      have Td := hbr.drew
      go_wp2_with fail
      go_region_held3 (fun w' => (w'.cell? ⟨b0, o0 + k * 3, none⟩ = some (.int .i64 (nthP l k).flow) ∧ w'.cell? ⟨b0, o0 + k * 3 + 1, none⟩ = some (.int .i64 (nthP l k).len) ∧ w'.cell? ⟨b0, o0 + k * 3 + 2, none⟩ = some (.int .i64 (nthP l k).mark)) ∧ (w'.cell? ⟨b1, o1 + k * 3, none⟩ = some (.int .i64 (nthP l k).flow) ∧ w'.cell? ⟨b1, o1 + k * 3 + 1, none⟩ = some (.int .i64 (nthP l k).len) ∧ w'.cell? ⟨b1, o1 + k * 3 + 2, none⟩ = some (.int .i64 (nthP l k).mark)))
        (exact ⟨HC0.out _ Td, HC1.out _ Td⟩)
        (first | (go_at_call 87; refine (plainP1_any (nthP l k) _).mono ?_; rintro e w3 ⟨rfl, hb3⟩; replace Td := Td.trans (hb3.mono Td.size)))
      go_wp2
      go_roundw
      case rel => exact ⟨k + 1, by omega, by go_num, Td⟩
      case measure => simp [intOf]; omega
    · have i1 : (n : Int) ≤ (k : Int) := by omega
      go_wp2
      go_ret
      exact ⟨rfl, hbr⟩

set_option maxHeartbeats 400000 in
theorem plainP_any (a0 a1 : Option Addr) (n c0 c1 : Nat) (l : List Pk) (w : World) (h0 : RdS w a0 n c0 3 (pks l)) (h1 : RdS w a1 n c1 3 (pks l)) (hl : l.length = n) :
    Calls Tryz.prog 52 #[.slice a0 n c0, .slice a1 n c1] w fun e w' => e = .returned (.bool true) ∧ Below w.heap.size w w' := by
  have hs := sameP_any a0 a1 n c0 c1 l
  go_enter Tryz.func52, Tryz.ntmps52
  go_wp2_with fail
  refine (hs _ h0 h1 hl).mono ?_
  rintro e w1 ⟨rfl, hb⟩
  go_wp2
  go_ret
  exact ⟨rfl, hb⟩
end Go.Proofs.YtdjooacjjnjfmaaGreat
end

-- weighbridgeplay.Ready: calls that register some flows; slices of calls.
section
namespace Go.Proofs.YtdjooacjjnjfmaaGreat
set_option linter.unusedVariables false
set_option linter.unusedSimpArgs false
set_option maxRecDepth 20000
open Go.RowKit Go.Proofs.YtdjooacjjnjfmaaGreatMem Go.Proofs.YtdjooacjjnjfmaaGreatFlat Go.Proofs.YtdjooacjjnjfmaaGreatMapK

def callsC (l : List CallS) : List Value := l.flatMap CallS.cells
theorem callsC_append (a b : List CallS) : callsC (a ++ b) = callsC a ++ callsC b := by simp [callsC]
theorem callsC_length (l : List CallS) : (callsC l).length = l.length * 4 := by
  induction l with
  | nil => rfl
  | cons d l ih => unfold callsC at *; simp [CallS.cells, ih]; omega
theorem callsC_one (l : List CallS) : ∀ u ∈ callsC l, u.oneCell' = true := by
  intro u hu
  unfold callsC at hu
  obtain ⟨d, -, hd⟩ := List.mem_flatMap.1 hu
  unfold CallS.cells at hd
  simp only [List.mem_cons, List.not_mem_nil, or_false] at hd
  rcases hd with rfl | rfl | rfl | rfl <;> rfl
def nthC (l : List CallS) (k : Nat) : CallS := l.getD k ⟨0, 0, 0, 0⟩
theorem nthC_eq {l : List CallS} {k : Nat} (h : k < l.length) : l[k]? = some (nthC l k) := by unfold nthC; rw [List.getD_eq_getElem?_getD, List.getElem?_eq_getElem h]; rfl
theorem callsC_at : ∀ (l : List CallS) (k i : Nat) (d : CallS), l[k]? = some d → i < 4 → (callsC l)[k * 4 + i]? = d.cells[i]?
  | [], k, i, d, h, _ => by simp at h
  | e :: l, 0, i, d, h, hi => by
    simp only [List.getElem?_cons_zero, Option.some.injEq] at h
    subst h
    show (e.cells ++ callsC l)[0 * 4 + i]? = _
    rw [Nat.zero_mul, Nat.zero_add, List.getElem?_append_left (by show i < 4; exact hi)]
  | e :: l, k + 1, i, d, h, hi => by
    show (e.cells ++ callsC l)[(k + 1) * 4 + i]? = _
    have h4 : e.cells.length = 4 := rfl
    rw [List.getElem?_append_right (by omega), h4, show (k + 1) * 4 + i - 4 = k * 4 + i by omega]
    exact callsC_at l k i d (by simpa using h) hi
/-- A slice of calls reads. -/
structure RdC (w : World) (ao : Option Addr) (n cap : Nat) (l : List CallS) : Prop where
  rd : RdS w ao n cap 4 (callsC l)
  len : l.length = n
  ok : ∀ d ∈ l, d.Ok
theorem RdC.below {w w' : World} {ao : Option Addr} {n cap : Nat} {l : List CallS} (h : RdC w ao n cap l) (hb : Below w.heap.size w w') : RdC w' ao n cap l := ⟨h.rd.below hb, h.len, h.ok⟩
theorem RdC.nth_ok {w : World} {ao : Option Addr} {n cap k : Nat} {l : List CallS} (h : RdC w ao n cap l) (hk : k < n) : (nthC l k).Ok := h.ok _ (List.mem_of_getElem? (nthC_eq (by rw [h.len]; exact hk)))
theorem RdC.cells {w : World} {ao : Option Addr} {n cap k : Nat} {l : List CallS} (h : RdC w ao n cap l) (hk : k < n) :
    ∃ b o, ao = some ⟨b, o, none⟩ ∧ b < w.heap.size ∧ ∀ w' : World, w'.heap[b]? = w.heap[b]? → w'.cell? ⟨b, o + k * 4, none⟩ = some (.int .i64 (nthC l k).op) ∧ w'.cell? ⟨b, o + k * 4 + 1, none⟩ = some (.int .i64 (nthC l k).flow) ∧ w'.cell? ⟨b, o + k * 4 + 2, none⟩ = some (.int .i64 (nthC l k).a) ∧ w'.cell? ⟨b, o + k * 4 + 3, none⟩ = some (.int .i64 (nthC l k).b) := by
  have hl := nthC_eq (l := l) (k := k) (by rw [h.len]; exact hk)
  have e0 := callsC_at l k 0 _ hl (by omega)
  have e1 := callsC_at l k 1 _ hl (by omega)
  have e2 := callsC_at l k 2 _ hl (by omega)
  have e3 := callsC_at l k 3 _ hl (by omega)
  obtain ⟨b, o, rfl, hb, c0⟩ := h.rd.at_ _ _ e0
  obtain ⟨b', o', e, -, c1⟩ := h.rd.at_ _ _ e1
  cases e
  obtain ⟨b', o', e, -, c2⟩ := h.rd.at_ _ _ e2
  cases e
  obtain ⟨b', o', e, -, c3⟩ := h.rd.at_ _ _ e3
  cases e
  refine ⟨b, o, rfl, hb, fun w' hw => ⟨?_, ?_, ?_, ?_⟩⟩
  · rw [World.cell?_of_block (a := ⟨b, o + k * 4, none⟩) hw]; simpa using c0
  · rw [World.cell?_of_block (a := ⟨b, o + k * 4 + 1, none⟩) hw, Nat.add_assoc]; exact c1
  · rw [World.cell?_of_block (a := ⟨b, o + k * 4 + 2, none⟩) hw, Nat.add_assoc]; exact c2
  · rw [World.cell?_of_block (a := ⟨b, o + k * 4 + 3, none⟩) hw, Nat.add_assoc]; exact c3
theorem ECall : ElT Tryz.prog 25 40 (.agg #[.int .i64 0, .int .i64 0, .int .i64 0, .int .i64 0]) 4 := ⟨Tryz.underlying25, ⟨32, by kernel_rfl, by omega⟩, rfl, by omega⟩
def readyD (f : Nat) : CallS := ⟨1, f, 1 + f, 2 + (f : Int) % 2⟩
def readyL (n : Nat) : List CallS := (List.range n).map readyD
theorem readyL_succ (n : Nat) : readyL (n + 1) = readyL n ++ [readyD n] := by unfold readyL; rw [List.range_succ, List.map_append]; rfl
theorem readyL_len (n : Nat) : (readyL n).length = n := by unfold readyL; simp
theorem readyD_ok (f : Nat) (h : f ≤ 1000) : (readyD f).Ok := by
  unfold readyD
  exact ⟨small_i64 (by simp), small_i64 (by simp only; omega), small_i64 (by simp only; omega), small_i64 (by simp only; omega)⟩
theorem readyL_ok (n : Nat) (h : n ≤ 1000) : ∀ d ∈ readyL n, d.Ok := by
  intro d hd
  unfold readyL at hd
  obtain ⟨f, hf, rfl⟩ := List.mem_map.1 hd
  exact readyD_ok f (by have := List.mem_range.1 hf; omega)
theorem one4 (a b c d : Int) : ∀ u ∈ (#[.int .i64 a, .int .i64 b, .int .i64 c, .int .i64 d] : Array Value).toList, u.oneCell' = true := by
  intro u hu
  have hu2 : u ∈ [Value.int .i64 a, .int .i64 b, .int .i64 c, .int .i64 d] := hu
  simp only [List.mem_cons, List.not_mem_nil, or_false] at hu2
  rcases hu2 with rfl | rfl | rfl | rfl <;> rfl
set_option maxHeartbeats 2000000 in
theorem ready_any (n : Nat) (hn : n ≤ 1000) (w : World) :
    Calls Tryz.prog 31 #[.int .i64 n] w fun e w' => ∃ ao cap, e = .returned (.slice ao n cap) ∧ w'.ownsRow w.heap.size 40 4 (.slice ao n cap) n (callsC (readyL n)) ∧ Below w.heap.size w w' := by
  go_enter Tryz.func31, Tryz.ntmps31
  go_wp2_with fail
  go_loopw [3, 4] (fun v3 v4 wr => ∃ k : Nat, k ≤ n ∧ v4 = .int .i64 k ∧ wr.ownsRow w.heap.size 40 4 v3 k (callsC (readyL k)) ∧ Below w.heap.size w wr) (fun _ v4 _ => n - (intOf v4).toNat)
  case atStart => exact ⟨0, Nat.zero_le _, rfl, owns_nil _ _ _ _, Below.refl _ _⟩
  case round =>
    obtain ⟨k, hk, rfl, hown, hbr⟩ := hrel
    have hszr := hbr.size
    by_cases hl : k < n
    · have i1 : (k : Int) < (n : Int) := by omega
      have e1 : Value.int .i64 (IntKind.i64.wrap (1 + (k : Int))) = .int .i64 (1 + (k : Int)) := wr1 (by omega)
      have e2 : Value.int .i64 (IntKind.i64.wrap (2 + (k : Int) % 2)) = .int .i64 (2 + (k : Int) % 2) := wr1 (by omega)
      have HOWN := Lib.hid hown
      have HS := Lib.hid (readyL_succ k)
      clear hown
      go_wp2_with ((at_builtin; refine ap_new wr #[.int .i64 1, .int .i64 k, .int .i64 (1 + (k : Int)), .int .i64 (2 + (k : Int) % 2)] ECall rfl _ _ rfl w.heap.size _ k _ rfl HOWN.out hszr 1 rfl rfl (one4 _ _ _ _) (by omega) ?_; intro v' w3 hown3 hg3 hb3 hfr3))
      go_roundw
      case rel => exact ⟨k + 1, by omega, by go_num, by rw [HS.out, callsC_append]; exact hown3, hbr.trans (hb3)⟩
      case measure => simp [intOf]; omega
    · obtain rfl : k = n := by omega
      have i1 : ¬ (k : Int) < (k : Int) := by omega
      obtain ⟨ao, cap, rfl⟩ := owns_slice hown
      go_wp2
      go_ret
      exact ⟨ao, cap, rfl, hown, hbr⟩
end Go.Proofs.YtdjooacjjnjfmaaGreat
end
