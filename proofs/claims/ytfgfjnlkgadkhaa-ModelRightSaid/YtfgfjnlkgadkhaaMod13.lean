/- The model: a batch goes. -/
import Derived.Test.YtfgfjnlkgadkhaaMod12
namespace Go.Proofs.Ytfgfjnlkgadkhaa
set_option linter.unusedVariables false
set_option linter.unusedSimpArgs false
set_option maxRecDepth 20000
open Go.RowKit Go.Proofs.YtfgfjnlkgadkhaaMem Go.Proofs.YtfgfjnlkgadkhaaMapK

/-- A batch under way: what came lies in the row that the variable at X holds. -/
structure BatSt (w wr : World) (X b : Nat) (c : Cfg) (m : MdS) (F : Nat → Prop) (d : CallS) (e : Int) (acc : List Pk) (ao : Option Addr) (cap : Nat) : Prop where
  md : ∃ G : Nat → Prop, MdAt wr b c m.s m.served G ∧ (∀ k, G k → F k ∨ (X < k ∧ k < wr.heap.size)) ∧ ∀ a, ao = some a → ¬ G a.block
  fr : Fr F w wr
  box : Blk wr w.heap.size d.cells 33
  res : Blk wr (w.heap.size + 1) ret0 37
  out : Blk wr X [.int .i64 e, .slice ao acc.length cap, .int .i64 0, .int .u64 0] 37
  row : wr.ownsRow (X + 1) 55 3 (.slice ao acc.length cap) acc.length (pks acc)
  old : Lt F w
  hX : w.heap.size + 1 < X
section
variable {w wr w' : World} {X b : Nat} {c : Cfg} {m : MdS} {F : Nat → Prop} {d : CallS} {e : Int} {acc : List Pk} {ao : Option Addr} {cap : Nat}
theorem BatSt.below (h : BatSt w wr X b c m F d e acc ao cap) (hb : Below wr.heap.size wr w') : BatSt w w' X b c m F d e acc ao cap := by
  obtain ⟨G, h1, h2, h3⟩ := h.md
  have z := hb.size
  exact ⟨⟨G, h1.below hb, fun k hk => (h2 k hk).imp id fun hk => ⟨hk.1, by omega⟩, h3⟩, h.fr.then_below hb, h.box.below hb, h.res.below hb, h.out.below hb, owns_below (B := 0) h.row hb, h.old, h.hX⟩
theorem MdAt.lt {w : World} {b : Nat} {c : Cfg} {s : SfS} {served : Int} {F : Nat → Prop} (h : MdAt w b c s served F) : Lt F w := let ⟨_, _, _, h⟩ := h; h.lt
theorem BatSt.served {G G' : Nat → Prop} {m' : MdS} (h : BatSt w wr X b c m F d e acc ao cap) (h2 : ∀ k, G k → F k ∨ (X < k ∧ k < wr.heap.size)) (h3 : ∀ a, ao = some a → ¬ G a.block)
    (p : MdAt w' b c m'.s m'.served G') (hG : ∀ k, G' k → Ext G wr w' k) (f : Fr G wr w') : BatSt w w' X b c m' F d e acc ao cap := by
  have z := f.size
  have hlX := h.out.lt
  have hX := h.hX
  have hn : ∀ k, k ≤ X → w.heap.size ≤ k → ¬ G k := fun k hk hk1 hk2 => by
    rcases h2 k hk2 with hk2 | hk2
    · have := h.old k hk2; omega
    · omega
  refine ⟨⟨G', p, fun k hk => ?_, fun a ha hk => ?_⟩, ?_, h.box.fr f (hn _ (by omega) (by omega)), h.res.fr f (hn _ (by omega) (by omega)), h.out.fr f (hn _ (by omega) (by omega)), owns_fr h.row f fun k hk => ?_, h.old, h.hX⟩
  · rcases hG k hk with hk | hk
    · exact (h2 k hk).imp id fun hk => ⟨hk.1, by omega⟩
    · exact .inr ⟨by omega, hk.2⟩
  · rcases hG _ hk with hk | hk
    · exact h3 a ha hk
    · have := (h.row.lt a.block (by rw [ha]; rfl)).2; omega
  · refine h.fr.trans f fun i hi hk => ?_
    rcases h2 i hk with hk | hk
    · exact hk
    · omega
  · cases ao with
    | none => cases hk
    | some a => cases hk; exact h3 a rfl
/-- The variable's number was written. -/
theorem BatSt.setE (h : BatSt w wr X b c m F d e acc ao cap) (e' : Int) : BatSt w (wr.setCell ⟨X, 0, none⟩ (.int .i64 e')) X b c m F d e' acc ao cap := by
  obtain ⟨G, h1, h2, h3⟩ := h.md
  have hX := h.hX
  have hs : (wr.setCell ⟨X, 0, none⟩ (.int .i64 e')).heap.size = wr.heap.size := by simp [World.setCell]
  have f : Fr (fun k => k = X) wr (wr.setCell ⟨X, 0, none⟩ (.int .i64 e')) := Fr.setCell (S := fun k => k = X) (Fr.refl _ _) (a := ⟨X, 0, none⟩) (.inl rfl) _
  have hn : ¬ G X := fun hk => by
    rcases h2 X hk with hk | hk
    · have := h.old X hk; omega
    · omega
  refine ⟨⟨G, h1.fr f fun k hk e => by subst e; exact hn hk, fun k hk => by rw [hs]; exact h2 k hk, h3⟩, ?_, h.box.fr f (by omega), h.res.fr f (by omega), h.out.set 0 _, owns_fr h.row f fun k hk e => ?_, h.old, h.hX⟩
  · refine h.fr.trans f fun i hi hk => ?_
    omega
  · have := (h.row.lt k hk).1; omega
/-- The row was appended to. -/
theorem BatSt.grow (h : BatSt w wr X b c m F d e acc ao cap) {ao' : Option Addr} {cap' : Nat} {acc' : List Pk} (row : w'.ownsRow (X + 1) 55 3 (.slice ao' acc'.length cap') acc'.length (pks acc'))
    (hg : wr.grownBy w' (Value.slice ao acc.length cap).ownBlock) (hf : FreshOr wr (.slice ao acc.length cap) (.slice ao' acc'.length cap')) :
    BatSt w (w'.setCell ⟨X, 1, none⟩ (.slice ao' acc'.length cap')) X b c m F d e acc' ao' cap' := by
  obtain ⟨G, h1, h2, h3⟩ := h.md
  have hX := h.hX
  have hlX := h.out.lt
  have hs : (w'.setCell ⟨X, 1, none⟩ (.slice ao' acc'.length cap')).heap.size = w'.heap.size := by simp [World.setCell]
  have hro : ∀ k, (Value.slice ao acc.length cap).ownBlock = some k → X + 1 ≤ k ∧ k < wr.heap.size := h.row.lt
  have hG : ∀ k, G k → k ≠ X ∧ (Value.slice ao acc.length cap).ownBlock ≠ some k := fun k hk => by
    refine ⟨fun e => ?_, fun e => ?_⟩
    · subst e
      rcases h2 k hk with hk | hk
      · have := h.old k hk; omega
      · omega
    · cases ao with
      | none => cases e
      | some a => cases e; exact h3 a rfl hk
  have f1 : Fr (fun k => (Value.slice ao acc.length cap).ownBlock = some k) wr w' := (Fr.refl _ _).grown hg fun k e => .inl e
  have f2 : Fr (fun k => (Value.slice ao acc.length cap).ownBlock = some k ∨ k = X) wr (w'.setCell ⟨X, 1, none⟩ (.slice ao' acc'.length cap')) := Fr.setCell (S := fun k => (Value.slice ao acc.length cap).ownBlock = some k ∨ k = X) (f1.mono fun k _ hk => .inl hk) (a := ⟨X, 1, none⟩) (.inl (.inr rfl)) _
  have hz := f1.size
  have hB : ∀ k, k < X → ¬ ((Value.slice ao acc.length cap).ownBlock = some k ∨ k = X) := fun k hk h => by
    rcases h with h | h
    · have := (hro k h).1; omega
    · omega
  have f3 : Fr (fun k => k = X) w' (w'.setCell ⟨X, 1, none⟩ (.slice ao' acc'.length cap')) := Fr.setCell (S := fun k => k = X) (Fr.refl _ _) (a := ⟨X, 1, none⟩) (.inl rfl) _
  refine ⟨⟨G, h1.fr f2 fun k hk h => ?_, fun k hk => by rw [hs]; exact (h2 k hk).imp id fun hk => ⟨hk.1, by omega⟩, fun a ha hk => ?_⟩, ?_, h.box.fr f2 (hB _ (by omega)), h.res.fr f2 (hB _ (by omega)), (h.out.fr f1 fun e => by have := (hro X e).1; omega).set 1 _, owns_fr row f3 fun k hk e => ?_, h.old, h.hX⟩
  · rcases h with h | h
    · exact (hG k hk).2 h
    · exact (hG k hk).1 h
  · rcases hf with hf | hf
    · exact (hG _ hk).2 (by rw [← hf, ha]; rfl)
    · have h4 := hf a.block (by rw [ha]; rfl)
      have := h1.lt _ hk
      omega
  · refine h.fr.trans f2 fun i hi hk => ?_
    rcases hk with hk | hk
    · have := (hro i hk).1; omega
    · omega
  · have := (row.lt k hk).1; omega
theorem BatSt.done (h : BatSt w wr X b c m F d e acc ao cap) : RetPost b c m ⟨e, acc, 0, 0⟩ F w (.returned (.agg #[.int .i64 e, .slice ao acc.length cap, .int .i64 0, .int .u64 0]))
    ((((wr.setCell ⟨w.heap.size + 1, 0, none⟩ (.int .i64 e)).setCell ⟨w.heap.size + 1, 1, none⟩ (.slice ao acc.length cap)).setCell ⟨w.heap.size + 1, 2, none⟩ (.int .i64 0)).setCell ⟨w.heap.size + 1, 3, none⟩ (.int .u64 0)) := by
  obtain ⟨G, h1, h2, h3⟩ := h.md
  have hX := h.hX
  have g0 : Fr (fun k => k = w.heap.size + 1) wr wr := Fr.refl _ _
  have g1 := g0.setCell (a := ⟨w.heap.size + 1, 0, none⟩) (.inl rfl) (.int .i64 e)
  have g2 := g1.setCell (a := ⟨w.heap.size + 1, 1, none⟩) (.inl rfl) (.slice ao acc.length cap)
  have g3 := g2.setCell (a := ⟨w.heap.size + 1, 2, none⟩) (.inl rfl) (.int .i64 0)
  have g4 := g3.setCell (a := ⟨w.heap.size + 1, 3, none⟩) (.inl rfl) (.int .u64 0)
  have f : Fr F w _ := h.fr.trans g4 fun i hi hk => by omega
  refine ⟨ao, cap, G, rfl, ?_, h3, h1.fr g4 fun k hk e => ?_, fun k hk => ?_, f⟩
  · exact owns_base (owns_fr h.row g4 fun k hk e => by have := (h.row.lt k hk).1; omega) (by omega)
  · subst e
    rcases h2 _ hk with hk | hk
    · have := h.old _ hk; omega
    · omega
  · have := g4.size
    exact (h2 k hk).imp id fun hk => ⟨by omega, by omega⟩
end
end Go.Proofs.Ytfgfjnlkgadkhaa
