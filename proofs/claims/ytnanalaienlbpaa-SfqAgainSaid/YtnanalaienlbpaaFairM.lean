/- SfqFair: the flows beside four arrays of three, as they lie in memory. -/
import Derived.Test.YtnanalaienlbpaaFairL
import Derived.Test.YtnanalaienlbpaaFlatI
namespace Go.Proofs.Ytnanalaienlbpaa
set_option linter.unusedVariables false
set_option linter.unusedSimpArgs false
set_option maxRecDepth 20000
open Go.RowKit Go.Proofs.YtnanalaienlbpaaMem Go.Proofs.YtnanalaienlbpaaMapK

theorem wf_u64 {n : Int} (h : (Lit.int .u64 n).wf = true) : W64 n := by
  have h' : IntKind.u64.min ≤ n ∧ n ≤ IntKind.u64.max := by simpa [Lit.wf] using h
  have e1 : IntKind.u64.min = 0 := by decide
  have e2 : IntKind.u64.max = 18446744073709551615 := by decide
  rw [e1, e2] at h'
  unfold W64; omega
def a3 (k : IntKind) (g : Nat → Int) : List Value := [.int k (g 0), .int k (g 1), .int k (g 2)]
theorem a3_at (k : IntKind) (g : Nat → Int) {f : Nat} (h : f < 3) : (a3 k g)[f]? = some (.int k (g f)) := by
  rcases (show f = 0 ∨ f = 1 ∨ f = 2 by omega) with rfl | rfl | rfl <;> rfl
theorem a3_set (k : IntKind) (g : Nat → Int) {f : Nat} (h : f < 3) (v : Int) : (a3 k g).set f (.int k v) = a3 k (upd g f v) := by
  rcases (show f = 0 ∨ f = 1 ∨ f = 2 by omega) with rfl | rfl | rfl <;> rfl

/-- The flows at block b, and, from block a on, what comes next, what was told, the dearest, the rates. -/
structure FairM (w wx : World) (b a : Nat) (s : SfS) (nx cs ds rt : Nat → Int) : Prop where
  s : ∃ F : Nat → Prop, SfsAt wx b s F ∧ (∀ k, F k → w.heap.size ≤ k ∧ k ≠ a ∧ k ≠ a + 1 ∧ k ≠ a + 1 + 1 ∧ k ≠ a + 1 + 1 + 1)
  bel : Below w.heap.size w wx
  ha : w.heap.size ≤ a
  n : Blk wx a (a3 .i64 nx) 28
  c : Blk wx (a + 1) (a3 .u64 cs) 29
  d : Blk wx (a + 1 + 1) (a3 .u64 ds) 29
  r : Blk wx (a + 1 + 1 + 1) (a3 .u64 rt) 29
section
variable {w wx wy : World} {b a : Nat} {s : SfS} {nx cs ds rt : Nat → Int}
theorem FairM.below (h : FairM w wx b a s nx cs ds rt) (hb : Below wx.heap.size wx wy) : FairM w wy b a s nx cs ds rt :=
  let ⟨F, h1, h2⟩ := h.s; ⟨⟨F, h1.below hb, h2⟩, h.bel.trans (hb.mono h.bel.size), h.ha, h.n.below hb, h.c.below hb, h.d.below hb, h.r.below hb⟩
theorem FairM.drew (h : FairM w wx b a s nx cs ds rt) : FairM w wx.drew b a s nx cs ds rt := h.below (Below.refl _ _).drew
theorem FairM.post {s' : SfS} {F : Nat → Prop} (h : FairM w wx b a s nx cs ds rt) (hF : ∀ k, F k → w.heap.size ≤ k ∧ k ≠ a ∧ k ≠ a + 1 ∧ k ≠ a + 1 + 1 ∧ k ≠ a + 1 + 1 + 1) (hp : SfsPost b s' F wx wy) : FairM w wy b a s' nx cs ds rt := by
  have ln := h.n.lt
  have lc := h.c.lt
  have ld := h.d.lt
  have lr := h.r.lt
  have ha := h.ha
  refine ⟨⟨_, hp.1, fun k hk => ?_⟩, h.bel.trans (hp.2.below (fun k hk => (hF k hk).1) h.bel.size), h.ha, h.n.fr hp.2 fun hk => (hF _ hk).2.1 rfl, h.c.fr hp.2 fun hk => (hF _ hk).2.2.1 rfl, h.d.fr hp.2 fun hk => (hF _ hk).2.2.2.1 rfl, h.r.fr hp.2 fun hk => (hF _ hk).2.2.2.2 rfl⟩
  rcases hk with hk | hk
  · exact hF k hk
  · omega
theorem FairM.arrive (h : FairM w wx b a s nx cs ds rt) (ok : s.Ok) (p : Pk) (hp : p.Ok) :
    Calls Try.prog 13 #[.pointer (some ⟨b, 0, none⟩), .agg #[.int .i64 p.flow, .int .i64 p.len, .int .i64 p.mark]] wx fun e w' => e = .returned (.int .i64 (s.arriveE p)) ∧ FairM w w' b a (s.arrive p) nx cs ds rt := by
  obtain ⟨F, h1, h2⟩ := h.s
  refine (arriveS_any b s F p wx h1 ok hp).mono ?_
  rintro e w' ⟨rfl, hp⟩
  exact ⟨rfl, h.post h2 hp⟩
theorem FairM.serve (h : FairM w wx b a s nx cs ds rt) (ok : s.Ok) (hn : s.fs.length ≤ 1000000) :
    Calls Try.prog 14 #[.pointer (some ⟨b, 0, none⟩)] wx fun e w' => e = .returned (.tuple #[s.head.val, .bool s.has]) ∧ FairM w w' b a s.serve nx cs ds rt := by
  obtain ⟨F, h1, h2⟩ := h.s
  refine (serveS_any b s F wx h1 ok hn).mono ?_
  rintro e w' ⟨rfl, hp⟩
  exact ⟨rfl, h.post h2 hp⟩
theorem fair_set_fr (wx : World) (k o : Nat) (v : Value) : Fr (fun i => i = k) wx (wx.setCell ⟨k, o, none⟩ v) := Fr.setCell (S := fun i => i = k) (a := ⟨k, o, none⟩) (Fr.refl _ wx) (.inl rfl) v
theorem FairM.setN (h : FairM w wx b a s nx cs ds rt) {f : Nat} (hf : f < 3) (v : Int) : FairM w (wx.setCell ⟨a, f, none⟩ (.int .i64 v)) b a s (upd nx f v) cs ds rt := by
  have hr := fair_set_fr wx a f (.int .i64 v)
  obtain ⟨F, h1, h2⟩ := h.s
  refine ⟨⟨F, h1.fr hr fun k hk e => (h2 k hk).2.1 e, h2⟩, h.bel.setCell (p := ⟨a, f, none⟩) h.ha _, h.ha, a3_set .i64 nx hf v ▸ h.n.set f _, h.c.fr hr (by omega), h.d.fr hr (by omega), h.r.fr hr (by omega)⟩
theorem FairM.setC (h : FairM w wx b a s nx cs ds rt) {f : Nat} (hf : f < 3) (v : Int) : FairM w (wx.setCell ⟨a + 1, f, none⟩ (.int .u64 v)) b a s nx (upd cs f v) ds rt := by
  have hr := fair_set_fr wx (a + 1) f (.int .u64 v)
  obtain ⟨F, h1, h2⟩ := h.s
  refine ⟨⟨F, h1.fr hr fun k hk e => (h2 k hk).2.2.1 e, h2⟩, h.bel.setCell (p := ⟨a + 1, f, none⟩) (Nat.le_succ_of_le h.ha) _, h.ha, h.n.fr hr (by omega), a3_set .u64 cs hf v ▸ h.c.set f _, h.d.fr hr (by omega), h.r.fr hr (by omega)⟩
theorem FairM.setD (h : FairM w wx b a s nx cs ds rt) {f : Nat} (hf : f < 3) (v : Int) : FairM w (wx.setCell ⟨a + 1 + 1, f, none⟩ (.int .u64 v)) b a s nx cs (upd ds f v) rt := by
  have hr := fair_set_fr wx (a + 1 + 1) f (.int .u64 v)
  obtain ⟨F, h1, h2⟩ := h.s
  refine ⟨⟨F, h1.fr hr fun k hk e => (h2 k hk).2.2.2.1 e, h2⟩, h.bel.setCell (p := ⟨a + 1 + 1, f, none⟩) (by have := h.ha; show _ ≤ a + 1 + 1; omega) _, h.ha, h.n.fr hr (by omega), h.c.fr hr (by omega), a3_set .u64 ds hf v ▸ h.d.set f _, h.r.fr hr (by omega)⟩
/-- Laid beside flows that are there. -/
theorem FairM.made (wx : World) (h : OwnS w wx b s) (nx cs ds rt : Nat → Int) :
    FairM w ((((wx.alloc (.cells (a3 .i64 nx).toArray 28)).alloc (.cells (a3 .u64 cs).toArray 29)).alloc (.cells (a3 .u64 ds).toArray 29)).alloc (.cells (a3 .u64 rt).toArray 29)) b wx.heap.size s nx cs ds rt := by
  obtain ⟨F, h1, h2, h3⟩ := h
  have hlt := h1.lt
  have e1 : (wx.alloc (.cells (a3 .i64 nx).toArray 28)).heap.size = wx.heap.size + 1 := by simp
  have e2 : ((wx.alloc (.cells (a3 .i64 nx).toArray 28)).alloc (.cells (a3 .u64 cs).toArray 29)).heap.size = wx.heap.size + 2 := by simp
  have e3 : (((wx.alloc (.cells (a3 .i64 nx).toArray 28)).alloc (.cells (a3 .u64 cs).toArray 29)).alloc (.cells (a3 .u64 ds).toArray 29)).heap.size = wx.heap.size + 3 := by simp
  have hb : Below wx.heap.size wx ((((wx.alloc (.cells (a3 .i64 nx).toArray 28)).alloc (.cells (a3 .u64 cs).toArray 29)).alloc (.cells (a3 .u64 ds).toArray 29)).alloc (.cells (a3 .u64 rt).toArray 29)) :=
    (((below1 _ _).alloc (by omega) _).alloc (by omega) _).alloc (by omega) _
  refine ⟨⟨F, h1.below hb, fun k hk => ?_⟩, h3.trans (hb.mono h3.size), h3.size, (((Blk.new _ _ _).alloc _).alloc _).alloc _, ?_, ?_, ?_⟩
  · have := hlt k hk; have := h2 k hk; omega
  · have := ((Blk.new (wx.alloc (.cells (a3 .i64 nx).toArray 28)) (a3 .u64 cs) 29).alloc (.cells (a3 .u64 ds).toArray 29)).alloc (.cells (a3 .u64 rt).toArray 29)
    rw [e1] at this; exact this
  · have := (Blk.new ((wx.alloc (.cells (a3 .i64 nx).toArray 28)).alloc (.cells (a3 .u64 cs).toArray 29)) (a3 .u64 ds) 29).alloc (.cells (a3 .u64 rt).toArray 29)
    rw [e2] at this; exact this
  · have := Blk.new (((wx.alloc (.cells (a3 .i64 nx).toArray 28)).alloc (.cells (a3 .u64 cs).toArray 29)).alloc (.cells (a3 .u64 ds).toArray 29)) (a3 .u64 rt) 29
    rw [e3] at this; exact this
end
end Go.Proofs.Ytnanalaienlbpaa
