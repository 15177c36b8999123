/- The model, as it lies in memory. -/
import Derived.Test.YtfgfjnlkgadkhaaMod1
import Derived.Test.YtfgfjnlkgadkhaaSim
namespace Go.Proofs.Ytfgfjnlkgadkhaa
set_option linter.unusedVariables false
set_option linter.unusedSimpArgs false
set_option maxRecDepth 20000
open Go.RowKit Go.Proofs.YtfgfjnlkgadkhaaMem Go.Proofs.YtfgfjnlkgadkhaaMapK

/-- How many packets each flow has, as the map of the lengths holds it. -/
def lensV (s : SfS) : List (Int × Value) := s.fs.map fun e => (e.1, .int .i64 e.2.l.length)
structure MdR (w : World) (b sb lm : Nat) (c : Cfg) (s : SfS) (served : Int) (Fs F : Nat → Prop) : Prop where
  blk : Blk w b (c.cells ++ [.pointer (some ⟨sb, 0, none⟩), .map (some lm), .int .i64 served]) 65
  sfq : SfsAt w sb s Fs
  lens : IsMapAt w lm (Value.int .i64) (lensV s)
  sub : ∀ k, Fs k → F k ∧ k ≠ b ∧ k ≠ lm
  hb : F b
  hl : F lm
  ne : b ≠ lm
  lt : Lt F w
def MdAt (w : World) (b : Nat) (c : Cfg) (s : SfS) (served : Int) (F : Nat → Prop) : Prop := ∃ sb lm Fs, MdR w b sb lm c s served Fs F
section
variable {w w' : World} {b sb lm : Nat} {c : Cfg} {s : SfS} {served : Int} {Fs F S : Nat → Prop}
theorem MdR.fr (h : MdR w b sb lm c s served Fs F) (hf : Fr S w w') (hn : ∀ k, F k → ¬ S k) : MdR w' b sb lm c s served Fs F :=
  ⟨h.blk.fr hf (hn b h.hb), h.sfq.fr hf fun k hk => hn k (h.sub k hk).1, h.lens.of_eq (hf.block lm (h.lt lm h.hl) (hn lm h.hl)), h.sub, h.hb, h.hl, h.ne, h.lt.mono hf.size⟩
theorem MdAt.fr (h : MdAt w b c s served F) (hf : Fr S w w') (hn : ∀ k, F k → ¬ S k) : MdAt w' b c s served F := let ⟨sb, lm, Fs, h⟩ := h; ⟨sb, lm, Fs, h.fr hf hn⟩
theorem MdAt.below (h : MdAt w b c s served F) (hb : Below w.heap.size w w') : MdAt w' b c s served F := h.fr (Fr.of_below (S := fun _ => False) hb) fun _ _ f => f
theorem MdR.cells (h : MdR w b sb lm c s served Fs F) : w.cell? ⟨b, 0, none⟩ = some (.int .i64 c.shards) ∧ w.cell? ⟨b, 1, none⟩ = some (.int .i64 c.slots) ∧ w.cell? ⟨b, 4, none⟩ = some (.int .u64 c.unit) ∧
    w.cell? ⟨b, 5, none⟩ = some (.pointer (some ⟨sb, 0, none⟩)) ∧ w.cell? ⟨b, 6, none⟩ = some (.map (some lm)) ∧ w.cell? ⟨b, 7, none⟩ = some (.int .i64 served) ∧ b < w.heap.size :=
  ⟨h.blk.cell 0, h.blk.cell 1, h.blk.cell 4, h.blk.cell 5, h.blk.cell 6, h.blk.cell 7, h.blk.lt⟩
end

set_option maxHeartbeats 1000000 in
theorem mdServed_any (b : Nat) (c : Cfg) (s : SfS) (served : Int) (F : Nat → Prop) (w : World) (h : MdAt w b c s served F) :
    Calls Try.prog 15 #[.pointer (some ⟨b, 0, none⟩)] w fun e w' => e = .returned (.int .i64 served) ∧ w = w' := by
  obtain ⟨sb, lm, Fs, h⟩ := h
  obtain ⟨q0, q1, q4, q5, q6, q7, hlt⟩ := h.cells
  clear h
  go_enter Try.func15, Try.ntmps15
  go_wp2
  go_ret
  exact ⟨rfl, rfl⟩
set_option maxHeartbeats 1000000 in
theorem mdV_any (b : Nat) (c : Cfg) (s : SfS) (served : Int) (F : Nat → Prop) (w : World) (h : MdAt w b c s served F) :
    Calls Try.prog 14 #[.pointer (some ⟨b, 0, none⟩)] w fun e w' => e = .returned (.int .u64 s.v) ∧ w = w' := by
  obtain ⟨sb, lm, Fs, h⟩ := h
  obtain ⟨q0, q1, q4, q5, q6, q7, hlt⟩ := h.cells
  obtain ⟨mb, l, hl, h1⟩ := h.sfq
  have hV := sfqV_any sb s.v s.most l Fs w ⟨mb, h1⟩
  clear h h1 hl
  go_enter Try.func14, Try.ntmps14
  go_wp2_with fail
  refine hV.mono ?_
  rintro e w' ⟨rfl, rfl⟩
  go_wp2
  go_ret
  exact ⟨rfl, rfl⟩
end Go.Proofs.Ytfgfjnlkgadkhaa
