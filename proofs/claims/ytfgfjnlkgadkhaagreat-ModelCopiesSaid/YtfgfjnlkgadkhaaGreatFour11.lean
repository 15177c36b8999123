/- Two pairs of models (the program's and the reference's), apart. -/
import Derived.Test.YtfgfjnlkgadkhaaGreatCopyM
import Derived.Test.YtfgfjnlkgadkhaaGreatCopyRM
import Derived.Test.YtfgfjnlkgadkhaaGreatSpoilP
import Derived.Test.YtfgfjnlkgadkhaaGreatBatchL
import Derived.Test.YtfgfjnlkgadkhaaGreatGp
namespace Go.Proofs.YtfgfjnlkgadkhaaGreat
set_option linter.unusedVariables false
set_option linter.unusedSimpArgs false
set_option maxRecDepth 20000
open Go.RowKit Go.Proofs.YtfgfjnlkgadkhaaGreatMem Go.Proofs.YtfgfjnlkgadkhaaGreatFlat Go.Proofs.YtfgfjnlkgadkhaaGreatMapK

def Q11 (w wx : World) (c : Cfg) (b x : Nat) (m y : MdS) (b2 x2 : Nat) (m2 y2 : MdS) : Prop :=
  ∃ F G F2 G2 : Nat → Prop, MdAt wx b c m.s m.served F ∧ RmAt wx x c y.s y.served G ∧ MdAt wx b2 c m2.s m2.served F2 ∧ RmAt wx x2 c y2.s y2.served G2 ∧ (∀ k, F k → ¬ G k) ∧ (∀ k, F2 k → ¬ G2 k) ∧ (∀ k, F2 k ∨ G2 k → ¬ F k ∧ ¬ G k) ∧
    (∀ k, F k → w.heap.size ≤ k) ∧ (∀ k, G k → w.heap.size ≤ k) ∧ (∀ k, F2 k → w.heap.size ≤ k) ∧ (∀ k, G2 k → w.heap.size ≤ k) ∧ Below w.heap.size w wx
section
variable {w w0 wx wy w1 w2 : World} {c : Cfg} {b x b2 x2 : Nat} {m y m2 y2 : MdS} {K S : Nat → Prop}
theorem Q11.symm (h : Q11 w wx c b x m y b2 x2 m2 y2) : Q11 w wx c b2 x2 m2 y2 b x m y := by
  obtain ⟨F, G, F2, G2, h1, h2, h3, h4, h5, h6, h7, h8, h9, h10, h11, h12⟩ := h
  exact ⟨F2, G2, F, G, h3, h4, h1, h2, h6, h5, fun k hk => ⟨fun h => by rcases hk with hk | hk; exact (h7 k (.inl h)).1 hk; exact (h7 k (.inl h)).2 hk, fun h => by rcases hk with hk | hk; exact (h7 k (.inr h)).1 hk; exact (h7 k (.inr h)).2 hk⟩, h10, h11, h8, h9, h12⟩
theorem Q11.two (h : Q11 w wx c b x m y b2 x2 m2 y2) : TwoM w wx b x c m y := by
  obtain ⟨F, G, F2, G2, h1, h2, h3, h4, h5, h6, h7, h8, h9, h10, h11, h12⟩ := h
  exact ⟨F, G, h1, h2, h5, h8, h9, h12⟩
theorem Q11.below (h : Q11 w wx c b x m y b2 x2 m2 y2) (hb : Below wx.heap.size wx wy) : Q11 w wy c b x m y b2 x2 m2 y2 := by
  obtain ⟨F, G, F2, G2, h1, h2, h3, h4, h5, h6, h7, h8, h9, h10, h11, h12⟩ := h
  exact ⟨F, G, F2, G2, h1.below hb, h2.below hb, h3.below hb, h4.below hb, h5, h6, h7, h8, h9, h10, h11, h12.trans (hb.mono h12.size)⟩
/-- The one pair under way, the other kept. -/
theorem Q11.toK (h : Q11 w wx c b x m y b2 x2 m2 y2) : ∃ K : Nat → Prop, TwoK w wx wx K b x c m y ∧ ∀ w' m' y', TwoK w wx w' K b x c m' y' → Q11 w w' c b x m' y' b2 x2 m2 y2 := by
  obtain ⟨F, G, F2, G2, h1, h2, h3, h4, h5, h6, h7, h8, h9, h10, h11, h12⟩ := h
  refine ⟨fun k => F2 k ∨ G2 k, ⟨⟨F, G, h1, h2, h5, h8, h9, h7⟩, Fr.refl _ _, fun k hk => ?_, h12⟩, fun w' m' y' t => ?_⟩
  · rcases hk with hk | hk
    · exact h3.lt k hk
    · exact h4.lt k hk
  · obtain ⟨F', G', t1, t2, t3, t4, t5, t6⟩ := t.two
    exact ⟨F', G', F2, G2, t1, t2, h3.fr t.fr (fun k hk hk2 => hk2 (.inl hk)), h4.fr t.fr (fun k hk hk2 => hk2 (.inr hk)), t3, h6, t6, t4, t5, h10, h11, t.bel⟩
/-- Blocks that are kept were written over. -/
theorem TwoK.spoil (h : TwoK w w0 wx K b x c m y) (hf : Fr S wx wy) (hS : ∀ k, S k → K k ∧ w.heap.size ≤ k) : TwoM w wy b x c m y := by
  obtain ⟨F, G, h1, h2, h3, h4, h5, h6⟩ := h.two
  exact ⟨F, G, h1.fr hf fun k hk hk2 => (h6 k (hS k hk2).1).1 hk, h2.fr hf fun k hk hk2 => (h6 k (hS k hk2).1).2 hk, h3, h4, h5, h.bel.trans (hf.below (fun k hk => (hS k hk).2) h.bel.size)⟩
theorem q11_of (T : TwoM w wx b x c m y) (ha : MdAt w1 b2 c m2.s m2.served (fun k => wx.heap.size ≤ k ∧ k < w1.heap.size)) (hb1 : Below wx.heap.size wx w1)
    (hr : RmAt w2 x2 c y2.s y2.served (fun k => w1.heap.size ≤ k ∧ k < w2.heap.size)) (hb2 : Below w1.heap.size w1 w2) : Q11 w w2 c b x m y b2 x2 m2 y2 := by
  obtain ⟨F, G, h1, h2, h3, h4, h5, h6⟩ := T
  have z0 := h6.size
  have z1 := hb1.size
  have z2 := hb2.size
  have l1 := h1.lt
  have l2 := h2.lt
  refine ⟨F, G, _, _, (h1.below hb1).below hb2, (h2.below hb1).below hb2, ha.below hb2, hr, h3, fun k hk hk2 => ?_, fun k hk => ⟨fun h => ?_, fun h => ?_⟩, h4, h5, fun k hk => ?_, fun k hk => ?_, h6.trans ((hb1.trans (hb2.mono z1)).mono z0)⟩
  · omega
  · have := l1 k h; omega
  · have := l2 k h; omega
  · omega
  · omega
end
end Go.Proofs.YtfgfjnlkgadkhaaGreat
