/- The model: what each of its calls begins with and ends with; registering. -/
import Derived.Test.YtfgfjnlkgadkhaaMod7
import Derived.Test.YtfgfjnlkgadkhaaRfs3
namespace Go.Proofs.Ytfgfjnlkgadkhaa
set_option linter.unusedVariables false
set_option linter.unusedSimpArgs false
set_option maxRecDepth 20000
open Go.RowKit Go.Proofs.YtfgfjnlkgadkhaaMem Go.Proofs.YtfgfjnlkgadkhaaMapK

def CallS.cells (d : CallS) : List Value := [.int .i64 d.op, .int .i64 d.flow, .int .i64 d.a, .int .i64 d.b]
def ret0 : List Value := [.int .i64 0, .slice none 0 0, .int .i64 0, .int .u64 0]
/-- A call of the model under way: its argument and its result in blocks of their own. -/
structure InC (w W : World) (b sb lm : Nat) (c : Cfg) (s : SfS) (served : Int) (Fs F : Nat → Prop) (d : CallS) : Prop where
  bel : Below w.heap.size w W
  md : MdR W b sb lm c s served Fs F
  box : Blk W w.heap.size d.cells 33
  res : Blk W (w.heap.size + 1) ret0 37
  old : Lt F w
section
variable {w W W' : World} {b sb lm : Nat} {c : Cfg} {s : SfS} {served : Int} {Fs F : Nat → Prop} {d : CallS}
theorem InC.below (h : InC w W b sb lm c s served Fs F d) (hb : Below W.heap.size W W') : InC w W' b sb lm c s served Fs F d :=
  ⟨h.bel.trans (hb.mono h.bel.size), h.md.fr (Fr.of_below (S := fun _ => False) hb) fun _ _ f => f, h.box.below hb, h.res.below hb, h.old⟩
theorem InC.start (h : MdR w b sb lm c s served Fs F) : InC w ((w.alloc (.cells #[.int .i64 d.op, .int .i64 d.flow, .int .i64 d.a, .int .i64 d.b] 33)).alloc (.cells #[.int .i64 0, .slice none 0 0, .int .i64 0, .int .u64 0] 37)) b sb lm c s served Fs F d := by
  have hb1 : Below w.heap.size w ((w.alloc (.cells #[.int .i64 d.op, .int .i64 d.flow, .int .i64 d.a, .int .i64 d.b] 33)).alloc (.cells #[.int .i64 0, .slice none 0 0, .int .i64 0, .int .u64 0] 37)) := ((Below.refl _ _).alloc (Nat.le_refl _) _).alloc (by simp) _
  have B2 := Blk.new (w.alloc (.cells #[.int .i64 d.op, .int .i64 d.flow, .int .i64 d.a, .int .i64 d.b] 33)) ret0 37
  have e1 : (w.alloc (.cells #[.int .i64 d.op, .int .i64 d.flow, .int .i64 d.a, .int .i64 d.b] 33)).heap.size = w.heap.size + 1 := by simp
  rw [e1] at B2
  exact ⟨hb1, h.fr (Fr.of_below (S := fun _ => False) hb1) fun _ _ f => f, (Blk.new w d.cells 33).alloc _, B2, h.lt⟩
theorem InC.cells (h : InC w W b sb lm c s served Fs F d) : W.cell? ⟨b, 0, none⟩ = some (.int .i64 c.shards) ∧ W.cell? ⟨b, 1, none⟩ = some (.int .i64 c.slots) ∧ W.cell? ⟨b, 4, none⟩ = some (.int .u64 c.unit) ∧
    W.cell? ⟨b, 5, none⟩ = some (.pointer (some ⟨sb, 0, none⟩)) ∧ W.cell? ⟨b, 6, none⟩ = some (.map (some lm)) ∧ W.cell? ⟨b, 7, none⟩ = some (.int .i64 served) ∧ b < W.heap.size ∧
    W.cell? ⟨w.heap.size, 0, none⟩ = some (.int .i64 d.op) ∧ W.cell? ⟨w.heap.size, 1, none⟩ = some (.int .i64 d.flow) ∧ W.cell? ⟨w.heap.size, 2, none⟩ = some (.int .i64 d.a) ∧ W.cell? ⟨w.heap.size, 3, none⟩ = some (.int .i64 d.b) ∧ w.heap.size < W.heap.size :=
  ⟨h.md.blk.cell 0, h.md.blk.cell 1, h.md.blk.cell 4, h.md.blk.cell 5, h.md.blk.cell 6, h.md.blk.cell 7, h.md.blk.lt, h.box.cell 0, h.box.cell 1, h.box.cell 2, h.box.cell 3, h.box.lt⟩
theorem InC.out (h : InC w W b sb lm c s served Fs F d) : W.cell? ⟨w.heap.size + 1, 0, none⟩ = some (.int .i64 0) ∧ W.cell? ⟨w.heap.size + 1, 1, none⟩ = some (.slice none 0 0) ∧ W.cell? ⟨w.heap.size + 1, 2, none⟩ = some (.int .i64 0) ∧ W.cell? ⟨w.heap.size + 1, 3, none⟩ = some (.int .u64 0) ∧
    W.frozen? ⟨w.heap.size + 1, 0, none⟩ = false ∧ W.frozen? ⟨w.heap.size + 1, 1, none⟩ = false ∧ W.frozen? ⟨w.heap.size + 1, 2, none⟩ = false ∧ W.frozen? ⟨w.heap.size + 1, 3, none⟩ = false ∧ w.heap.size + 1 < W.heap.size :=
  ⟨h.res.cell 0, h.res.cell 1, h.res.cell 2, h.res.cell 3, h.res.frozen 0, h.res.frozen 1, h.res.frozen 2, h.res.frozen 3, h.res.lt⟩
theorem MdAt.still {w w' : World} {b : Nat} {c : Cfg} {s : SfS} {served : Int} {F : Nat → Prop} (h : MdAt w b c s served F) (hF : Lt F w) (hb : Below w.heap.size w w') : MdPost b c s served F w w' :=
  ⟨(h.below hb).mono (fun k hk => .inl hk) (hF.ext hb.size), Fr.of_below hb⟩
/-- Nothing turned of it; the result's cells were written. -/
theorem InC.refused {w4 : World} (h : InC w W b sb lm c s served Fs F d) (hb : Below W.heap.size W w4) (v0 v1 v2 v3 : Value) :
    MdPost b c s served F w ((((w4.setCell ⟨w.heap.size + 1, 0, none⟩ v0).setCell ⟨w.heap.size + 1, 1, none⟩ v1).setCell ⟨w.heap.size + 1, 2, none⟩ v2).setCell ⟨w.heap.size + 1, 3, none⟩ v3) := by
  have I := h.below hb
  have hz : w.heap.size ≤ w.heap.size + 1 := Nat.le_succ _
  have hb2 : Below w.heap.size w ((((w4.setCell ⟨w.heap.size + 1, 0, none⟩ v0).setCell ⟨w.heap.size + 1, 1, none⟩ v1).setCell ⟨w.heap.size + 1, 2, none⟩ v2).setCell ⟨w.heap.size + 1, 3, none⟩ v3) :=
    (((I.bel.setCell (p := ⟨w.heap.size + 1, 0, none⟩) hz v0).setCell (p := ⟨w.heap.size + 1, 1, none⟩) hz v1).setCell (p := ⟨w.heap.size + 1, 2, none⟩) hz v2).setCell (p := ⟨w.heap.size + 1, 3, none⟩) hz v3
  have g0 : Fr (fun k => w.heap.size < k) w4 w4 := Fr.refl _ _
  have hlt : w.heap.size < w.heap.size + 1 := Nat.lt_succ_self _
  have g4 : Fr (fun k => w.heap.size < k) w4 ((((w4.setCell ⟨w.heap.size + 1, 0, none⟩ v0).setCell ⟨w.heap.size + 1, 1, none⟩ v1).setCell ⟨w.heap.size + 1, 2, none⟩ v2).setCell ⟨w.heap.size + 1, 3, none⟩ v3) :=
    (((g0.setCell (a := ⟨w.heap.size + 1, 0, none⟩) (.inl hlt) v0).setCell (a := ⟨w.heap.size + 1, 1, none⟩) (.inl hlt) v1).setCell (a := ⟨w.heap.size + 1, 2, none⟩) (.inl hlt) v2).setCell (a := ⟨w.heap.size + 1, 3, none⟩) (.inl hlt) v3
  have hm : MdAt ((((w4.setCell ⟨w.heap.size + 1, 0, none⟩ v0).setCell ⟨w.heap.size + 1, 1, none⟩ v1).setCell ⟨w.heap.size + 1, 2, none⟩ v2).setCell ⟨w.heap.size + 1, 3, none⟩ v3) b c s served F :=
    ⟨sb, lm, Fs, I.md.fr g4 fun k hk hk2 => by have := h.old k hk; omega⟩
  exact ⟨hm.mono (fun k hk => .inl hk) (h.old.ext hb2.size), Fr.of_below hb2⟩
end
end Go.Proofs.Ytfgfjnlkgadkhaa
