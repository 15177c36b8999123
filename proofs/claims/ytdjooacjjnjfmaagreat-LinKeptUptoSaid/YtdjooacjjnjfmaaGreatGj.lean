/- Several texts in one: Rmd1 Rmd2 Rmd3. -/
import Derived.Test.YtdjooacjjnjfmaaGreatGi
import Derived.Test.YtdjooacjjnjfmaaGreatGe
import Derived.Deep.QuietTactic
import Derived.BigQuiet
-- The reference's model, as it lies in memory.
section
namespace Go.Proofs.YtdjooacjjnjfmaaGreat
set_option linter.unusedVariables false
set_option linter.unusedSimpArgs false
set_option maxRecDepth 20000
open Go.RowKit Go.Proofs.YtdjooacjjnjfmaaGreatMem Go.Proofs.YtdjooacjjnjfmaaGreatMapK

structure RmR (w : World) (b sb : Nat) (c : Cfg) (t : SfS) (served : Int) (Fs F : Nat → Prop) : Prop where
  blk : Blk w b (c.cells ++ [.pointer (some ⟨sb, 0, none⟩), .int .i64 served]) 88
  sfq : RfsAt w sb t Fs
  sub : ∀ k, Fs k → F k ∧ k ≠ b
  hb : F b
  lt : Lt F w
def RmAt (w : World) (b : Nat) (c : Cfg) (t : SfS) (served : Int) (F : Nat → Prop) : Prop := ∃ sb Fs, RmR w b sb c t served Fs F
def RmPost (b : Nat) (c : Cfg) (t : SfS) (served : Int) (F : Nat → Prop) (w w' : World) : Prop := RmAt w' b c t served (Ext F w w') ∧ Fr F w w'
section
variable {w w' w1 w2 w3 w5 w0 W w6 : World} {b sb : Nat} {c : Cfg} {t t' : SfS} {served : Int} {Fs F S G : Nat → Prop}
theorem RmR.fr (h : RmR w b sb c t served Fs F) (hf : Fr S w w') (hn : ∀ k, F k → ¬ S k) : RmR w' b sb c t served Fs F :=
  ⟨h.blk.fr hf (hn b h.hb), h.sfq.fr hf fun k hk => hn k (h.sub k hk).1, h.sub, h.hb, h.lt.mono hf.size⟩
theorem RmAt.fr (h : RmAt w b c t served F) (hf : Fr S w w') (hn : ∀ k, F k → ¬ S k) : RmAt w' b c t served F := let ⟨sb, Fs, h⟩ := h; ⟨sb, Fs, h.fr hf hn⟩
theorem RmAt.below (h : RmAt w b c t served F) (hb : Below w.heap.size w w') : RmAt w' b c t served F := h.fr (Fr.of_below (S := fun _ => False) hb) fun _ _ f => f
theorem RmR.below (h : RmR w b sb c t served Fs F) (hb : Below w.heap.size w w') : RmR w' b sb c t served Fs F := h.fr (Fr.of_below (S := fun _ => False) hb) fun _ _ f => f
theorem RmAt.lt (h : RmAt w b c t served F) : Lt F w := let ⟨_, _, h⟩ := h; h.lt
theorem RmAt.mono (h : RmAt w b c t served F) (hF : ∀ k, F k → G k) (hG : Lt G w) : RmAt w b c t served G := by
  obtain ⟨sb, Fs, h⟩ := h
  exact ⟨sb, Fs, h.blk, h.sfq, fun k hk => ⟨hF k (h.sub k hk).1, (h.sub k hk).2⟩, hF b h.hb, hG⟩
theorem RmR.cells (h : RmR w b sb c t served Fs F) : w.cell? ⟨b, 0, none⟩ = some (.int .i64 c.shards) ∧ w.cell? ⟨b, 1, none⟩ = some (.int .i64 c.slots) ∧ w.cell? ⟨b, 4, none⟩ = some (.int .u64 c.unit) ∧
    w.cell? ⟨b, 5, none⟩ = some (.pointer (some ⟨sb, 0, none⟩)) ∧ w.cell? ⟨b, 6, none⟩ = some (.int .i64 served) ∧ b < w.heap.size :=
  ⟨h.blk.cell 0, h.blk.cell 1, h.blk.cell 4, h.blk.cell 5, h.blk.cell 6, h.blk.lt⟩
theorem RmAt.still (h : RmAt w b c t served F) (hF : Lt F w) (hb : Below w.heap.size w w') : RmPost b c t served F w w' :=
  ⟨(h.below hb).mono (fun k hk => .inl hk) (hF.ext hb.size), Fr.of_below hb⟩
/-- Its flows were turned. -/
theorem rm_turn (h : RmR w b sb c t served Fs F) (p : RfsPost sb t' Fs w w1) : RmPost b c t' served F w w1 := by
  have z1 := p.2.size
  have hbl := h.blk.lt
  have f1 : Fr F w w1 := p.2.mono fun k _ hk => (h.sub k hk).1
  refine ⟨⟨sb, Ext Fs w w1, h.blk.fr p.2 fun hk => (h.sub b hk).2 rfl, p.1, fun k hk => ?_, .inl h.hb, h.lt.ext z1⟩, f1⟩
  rcases hk with hk | hk
  · exact ⟨.inl (h.sub k hk).1, (h.sub k hk).2⟩
  · exact ⟨.inr hk, by omega⟩
theorem RmPost.then_below (h : RmPost b c t served F w w1) (hF : Lt F w) (hb : Below w1.heap.size w1 w2) : RmPost b c t served F w w2 := by
  have z := h.2.size
  have z2 := hb.size
  exact ⟨(h.1.below hb).mono (fun k hk => hk.imp id fun hk => ⟨hk.1, by omega⟩) (hF.ext (by omega)), h.2.then_below hb⟩
theorem RmPost.after_below (hF : Lt F w) (hb : Below w.heap.size w w1) (h : RmPost b c t served F w1 w2) : RmPost b c t served F w w2 := by
  have f := Fr.after_below hb h.2
  have z := hb.size
  refine ⟨h.1.mono (fun k hk => ?_) (hF.ext f.size), f⟩
  rcases hk with hk | hk
  · exact .inl hk
  · exact .inr ⟨by omega, hk.2⟩
/-- Blocks of the call's own ahead of it, and stores into these behind it. -/
theorem rm_end (hF : Lt F w) (hb : Below w.heap.size w W) (p : RmPost b c t served F W w3) (hf : Fr (fun k => w.heap.size ≤ k ∧ k < W.heap.size) w3 w5) : RmPost b c t served F w w5 := by
  have z1 := hb.size
  have z2 := p.2.size
  have z3 := hf.size
  have f3 : Fr F w w3 := Fr.after_below hb p.2
  have f5 : Fr F w w5 := fr_trans f3 (hf.mono fun k _ hk => .inr ⟨hk.1, by omega⟩)
  refine ⟨(p.1.fr hf fun k hk hk2 => ?_).mono (fun k hk => ?_) (hF.ext f5.size), f5⟩
  · rcases hk with hk | hk
    · have := hF k hk; omega
    · omega
  · rcases hk with hk | hk
    · exact .inl hk
    · exact .inr ⟨by omega, by omega⟩
theorem RmPost.setServed (p : RmPost b c t served F w w') (hF : F b) (n : Int) : RmPost b c t n F w (w'.setCell ⟨b, 6, none⟩ (.int .i64 n)) := by
  obtain ⟨⟨sb, Fs, R⟩, f⟩ := p
  have hg : Fr (fun k => k = b) w' (w'.setCell ⟨b, 6, none⟩ (.int .i64 n)) := Fr.setCell (S := fun k => k = b) (Fr.refl _ _) (a := ⟨b, 6, none⟩) (.inl rfl) _
  refine ⟨⟨sb, Fs, R.blk.set 6 (.int .i64 n), R.sfq.fr hg fun k hk e => (R.sub k hk).2 e, fun k hk => ⟨?_, (R.sub k hk).2⟩, ?_, ?_⟩, f.setCell (.inl hF) _⟩
  · have := (R.sub k hk).1
    simpa [Ext, World.setCell] using this
  · simpa [Ext, World.setCell] using R.hb
  · intro k hk
    have := R.lt k (by simpa [Ext, World.setCell] using hk)
    simpa [World.setCell] using this
/-- What a call of it tells. -/
def RrPost (b : Nat) (c : Cfg) (m : MdS) (r : RetS) (F : Nat → Prop) (w : World) (e : Ending) (w' : World) : Prop :=
  ∃ ao cap G, e = .returned (.agg #[.int .i64 r.e, .slice ao r.ps.length cap, .int .i64 r.n, .int .u64 r.v]) ∧ w'.ownsRow w.heap.size 59 3 (.slice ao r.ps.length cap) r.ps.length (pks r.ps) ∧
    (∀ a, ao = some a → ¬ G a.block) ∧ RmAt w' b c m.s m.served G ∧ (∀ k, G k → Ext F w w' k) ∧ Fr F w w'
theorem RrPost.plain (n v : Int) (p : RmPost b c t served F w w') (e : Int) : RrPost b c ⟨t, served⟩ ⟨e, [], n, v⟩ F w (.returned (.agg #[.int .i64 e, .slice none 0 0, .int .i64 n, .int .u64 v])) w' :=
  ⟨none, 0, _, rfl, owns_nil _ _ _ _, (fun a h => by cases h), p.1, fun k hk => hk, p.2⟩
theorem RrPost.code (p : RmPost b c t served F w w') (e : Int) : RrPost b c ⟨t, served⟩ (.code e) F w (.returned (retE e)) w' := RrPost.plain 0 0 p e
theorem RrPost.row {m : MdS} {r : RetS} {cap : Nat} (hF : Lt F w) (hb : Below w.heap.size w w0) (p : RmPost b c m.s m.served F w0 w5) (hf : Fr (fun k => w.heap.size ≤ k ∧ k < w0.heap.size) w5 w6) {B : Nat} (hB : w5.heap.size ≤ B)
    (ho : w6.ownsRow w.heap.size 59 3 (.slice (some ⟨B, 0, none⟩) r.ps.length cap) r.ps.length (pks r.ps)) : RrPost b c m r F w (.returned (.agg #[.int .i64 r.e, .slice (some ⟨B, 0, none⟩) r.ps.length cap, .int .i64 r.n, .int .u64 r.v])) w6 := by
  have z1 := hb.size
  have z2 := p.2.size
  have z3 := hf.size
  have q := rm_end hF hb p hf
  refine ⟨_, _, fun k => Ext F w0 w5 k, rfl, ho, fun a ha hk => ?_, p.1.fr hf fun k hk hk2 => ?_, fun k hk => ?_, q.2⟩
  · cases ha
    rcases hk with hk | hk
    · have := hF _ hk; simp only at this; omega
    · simp only at hk; omega
  · rcases hk with hk | hk
    · have := hF k hk; omega
    · omega
  · rcases hk with hk | hk
    · exact .inl hk
    · exact .inr ⟨by omega, by omega⟩
end

set_option maxHeartbeats 400000 in
theorem code_any (k : Int) (w : World) : Calls Tryz.prog 46 #[.int .i64 k] w fun e w' => e = .returned (retE k) ∧ Below w.heap.size w w' := by
  go_enter Tryz.func46, Tryz.ntmps46
  go_wp2
  exact bodyPost_ret (v := retE k) (by simp [retE, results, Tryz.results46, go_sem]) rfl ⟨rfl, below1 _ _⟩
set_option maxHeartbeats 1000000 in
theorem newModel_any (c : Cfg) (w : World) : Calls Tryz.prog 21 #[.agg #[.int .i64 c.shards, .int .i64 c.slots, .int .i64 c.workers, .int .i64 c.width, .int .u64 c.unit]] w fun e w' => ∃ b, e = .returned (.pointer (some ⟨b, 0, none⟩)) ∧ RmAt w' b c SfS.new 0 (fun k => w.heap.size ≤ k ∧ k < w'.heap.size) ∧ Below w.heap.size w w' := by
  have hb := below1 w (.cells #[.int .i64 c.shards, .int .i64 c.slots, .int .i64 c.workers, .int .i64 c.width, .int .u64 c.unit] 24)
  have B0 : Blk (w.alloc (.cells #[.int .i64 c.shards, .int .i64 c.slots, .int .i64 c.workers, .int .i64 c.width, .int .u64 c.unit] 24)) w.heap.size c.cells 24 := Blk.new w c.cells 24
  go_enter Tryz.func21, Tryz.ntmps21
  go_upto_region 1 with fail
  have e0 : (w.alloc (.cells #[.int .i64 c.shards, .int .i64 c.slots, .int .i64 c.workers, .int .i64 c.width, .int .u64 c.unit] 24)).heap.size = w.heap.size + 1 := by simp
  generalize (w.alloc (.cells #[.int .i64 c.shards, .int .i64 c.slots, .int .i64 c.workers, .int .i64 c.width, .int .u64 c.unit] 24)) = W at *
  have b0 : W.cell? ⟨w.heap.size, 0, none⟩ = some (.int .i64 c.shards) := B0.cell 0
  have b1 : W.cell? ⟨w.heap.size, 1, none⟩ = some (.int .i64 c.slots) := B0.cell 1
  have b2 : W.cell? ⟨w.heap.size, 2, none⟩ = some (.int .i64 c.workers) := B0.cell 2
  have b3 : W.cell? ⟨w.heap.size, 3, none⟩ = some (.int .i64 c.width) := B0.cell 3
  have b4 : W.cell? ⟨w.heap.size, 4, none⟩ = some (.int .u64 c.unit) := B0.cell 4
  have hl := B0.lt
  have HB := Lib.hid hb
  have HE := Lib.hid e0
  clear hb e0 B0
  go_wp2
  go_ret
  have hn : RfR (W.alloc (.cells #[.slice none 0 0, .int .u64 0, .int .u64 0] 86)) W.heap.size 0 0 [] (fun k => k = W.heap.size) :=
    ⟨⟨none, 0, Blk.new W _ _, owns_nil _ _ _ _, fun a h => by cases h⟩, fun e he => (by cases he), rfl, fun e he => (by cases he), List.Pairwise.nil, fun k hk => by rw [hk]; simp, fun e he => (by cases he), List.Pairwise.nil⟩
  have hb1 := below1 W (.cells #[.slice none 0 0, .int .u64 0, .int .u64 0] 86)
  have e1 : (W.alloc (.cells #[.slice none 0 0, .int .u64 0, .int .u64 0] 86)).heap.size = W.heap.size + 1 := by simp
  generalize W.alloc (.cells #[.slice none 0 0, .int .u64 0, .int .u64 0] 86) = W1 at *
  have hb2 := below1 W1 (.cells #[.int .i64 c.shards, .int .i64 c.slots, .int .i64 c.workers, .int .i64 c.width, .int .u64 c.unit, .pointer (some ⟨W.heap.size, 0, none⟩), .int .i64 0] 88)
  have B2 := Blk.new W1 [.int .i64 c.shards, .int .i64 c.slots, .int .i64 c.workers, .int .i64 c.width, .int .u64 c.unit, .pointer (some ⟨W.heap.size, 0, none⟩), .int .i64 0] 88
  have e2 : (W1.alloc (.cells #[.int .i64 c.shards, .int .i64 c.slots, .int .i64 c.workers, .int .i64 c.width, .int .u64 c.unit, .pointer (some ⟨W.heap.size, 0, none⟩), .int .i64 0] 88)).heap.size = W1.heap.size + 1 := by simp
  have hz := HB.out.size
  refine ⟨W1.heap.size, by rw [e1]; rfl, ⟨W.heap.size, fun k => k = W.heap.size, B2, ⟨[], rfl, hn.below hb2⟩, fun k hk => ?_, ⟨by omega, by omega⟩, fun k hk => hk.2⟩, HB.out.trans ((hb1.mono hz).trans (hb2.mono (by omega)))⟩
  subst hk
  exact ⟨⟨hz, by omega⟩, by omega⟩
end Go.Proofs.YtdjooacjjnjfmaaGreat
end

-- The reference's model: how many packets a flow has.
section
namespace Go.Proofs.YtdjooacjjnjfmaaGreat
set_option linter.unusedVariables false
set_option linter.unusedSimpArgs false
set_option maxRecDepth 20000
open Go.RowKit Go.Proofs.YtdjooacjjnjfmaaGreatMem Go.Proofs.YtdjooacjjnjfmaaGreatMapK

end Go.Proofs.YtdjooacjjnjfmaaGreat
end

-- The reference's model: a flow is registered.
section
namespace Go.Proofs.YtdjooacjjnjfmaaGreat
set_option linter.unusedVariables false
set_option linter.unusedSimpArgs false
set_option maxRecDepth 20000
open Go.RowKit Go.Proofs.YtdjooacjjnjfmaaGreatMem Go.Proofs.YtdjooacjjnjfmaaGreatMapK

def cntR (l : List FlR) (k id : Int) : Nat := (l.filter fun e => decide (e.id.tmod k = id.tmod k)).length
theorem cntR_le (l : List FlR) (k id : Int) : cntR l k id ≤ l.length := List.length_filter_le _ _
theorem cntR_take {l : List FlR} {k id : Int} {j : Nat} {e : FlR} (he : l[j]? = some e) : cntR (l.take (j + 1)) k id = cntR (l.take j) k id + if e.id.tmod k = id.tmod k then 1 else 0 := by
  unfold cntR
  rw [List.take_add_one, he, List.filter_append, List.length_append]
  by_cases h : e.id.tmod k = id.tmod k
  · rw [if_pos h]; simp [h]
  · rw [if_neg h]; simp [h]
theorem cntR_pl {l : List FlR} {t : SfS} (hl : l.map FlR.pl = t.fs) (k id : Int) : cntR l k id = t.mates k id := by
  unfold cntR SfS.mates
  rw [← hl, List.filter_map, List.length_map]
  rfl
/-- The reference's registering under way: its argument lies in a block of its own. -/
structure InR (w W : World) (b sb : Nat) (c : Cfg) (t : SfS) (served : Int) (Fs F : Nat → Prop) (d : CallS) : Prop where
  bel : Below w.heap.size w W
  md : RmR W b sb c t served Fs F
  box : Blk W w.heap.size d.cells 40
  old : Lt F w
section
variable {w W W' : World} {b sb : Nat} {c : Cfg} {t : SfS} {served : Int} {Fs F : Nat → Prop} {d : CallS}
theorem InR.below (h : InR w W b sb c t served Fs F d) (hb : Below W.heap.size W W') : InR w W' b sb c t served Fs F d :=
  ⟨h.bel.trans (hb.mono h.bel.size), h.md.below hb, h.box.below hb, h.old⟩
theorem InR.start (h : RmR w b sb c t served Fs F) : InR w (w.alloc (.cells #[.int .i64 d.op, .int .i64 d.flow, .int .i64 d.a, .int .i64 d.b] 40)) b sb c t served Fs F d :=
  ⟨below1 _ _, h.below (below1 _ _), Blk.new w d.cells 40, h.lt⟩
theorem InR.cells (h : InR w W b sb c t served Fs F d) : W.cell? ⟨b, 0, none⟩ = some (.int .i64 c.shards) ∧ W.cell? ⟨b, 1, none⟩ = some (.int .i64 c.slots) ∧ W.cell? ⟨b, 4, none⟩ = some (.int .u64 c.unit) ∧
    W.cell? ⟨b, 5, none⟩ = some (.pointer (some ⟨sb, 0, none⟩)) ∧ b < W.heap.size ∧
    W.cell? ⟨w.heap.size, 1, none⟩ = some (.int .i64 d.flow) ∧ W.cell? ⟨w.heap.size, 2, none⟩ = some (.int .i64 d.a) ∧ W.cell? ⟨w.heap.size, 3, none⟩ = some (.int .i64 d.b) ∧ w.heap.size < W.heap.size :=
  ⟨h.md.blk.cell 0, h.md.blk.cell 1, h.md.blk.cell 4, h.md.blk.cell 5, h.md.blk.lt, h.box.cell 1, h.box.cell 2, h.box.cell 3, h.box.lt⟩
theorem InR.refused (h : InR w W b sb c t served Fs F d) : RmPost b c t served F w W :=
  ⟨(show RmAt W b c t served F from ⟨sb, Fs, h.md⟩).mono (fun k hk => .inl hk) (h.old.ext h.bel.size), Fr.of_below h.bel⟩
end
theorem regE_cases (c : Cfg) (t : SfS) (d : CallS) (hu : 1 ≤ c.unit ∧ c.unit ≤ 4611686018427387904) :
    (d.flow < 0 ∧ t.regE c d = 1) ∨ (¬ d.flow < 0 ∧ d.flow > 1048576 ∧ t.regE c d = 1) ∨ (¬ d.flow < 0 ∧ ¬ d.flow > 1048576 ∧ ((d.a < 1 ∧ t.regE c d = 4) ∨ (¬ d.a < 1 ∧ d.a > 65536 ∧ t.regE c d = 4) ∨ (¬ d.a < 1 ∧ ¬ d.a > 65536 ∧ ((d.b < 1 ∧ t.regE c d = 1) ∨ (¬ d.b < 1 ∧ d.b > 8 ∧ t.regE c d = 1) ∨ (¬ d.b < 1 ∧ ¬ d.b > 8 ∧ t.regE c d = if (getF t.fs d.flow).isSome then 6 else if c.slots ≤ t.mates c.shards d.flow then 7 else 0))))) := by
  have hE : t.regE c d = (if inB d.flow 0 1048576 = false then 1 else if invB c.unit d.a = false then 4 else if inB d.b 1 8 = false then 1 else if (getF t.fs d.flow).isSome then 6 else if c.slots ≤ t.mates c.shards d.flow then 7 else 0) := rfl
  have h1 : inB d.flow 0 1048576 = false ↔ d.flow < 0 ∨ d.flow > 1048576 := by unfold inB; simp only [Bool.and_eq_false_iff, decide_eq_false_iff_not]; omega
  have h2 : invB c.unit d.a = false ↔ d.a < 1 ∨ d.a > 65536 := by unfold invB; rw [decide_eq_false_iff_not]; omega
  have h3 : inB d.b 1 8 = false ↔ d.b < 1 ∨ d.b > 8 := by unfold inB; simp only [Bool.and_eq_false_iff, decide_eq_false_iff_not]; omega
  by_cases a1 : d.flow < 0
  · exact .inl ⟨a1, by rw [hE, if_pos (h1.2 (.inl a1))]⟩
  by_cases a2 : d.flow > 1048576
  · exact .inr (.inl ⟨a1, a2, by rw [hE, if_pos (h1.2 (.inr a2))]⟩)
  rw [if_neg (fun h => (h1.1 h).elim a1 a2)] at hE
  refine .inr (.inr ⟨a1, a2, ?_⟩)
  by_cases b1 : d.a < 1
  · exact .inl ⟨b1, by rw [hE, if_pos (h2.2 (.inl b1))]⟩
  by_cases b2 : d.a > 65536
  · exact .inr (.inl ⟨b1, b2, by rw [hE, if_pos (h2.2 (.inr b2))]⟩)
  rw [if_neg (fun h => (h2.1 h).elim b1 b2)] at hE
  refine .inr (.inr ⟨b1, b2, ?_⟩)
  by_cases c1 : d.b < 1
  · exact .inl ⟨c1, by rw [hE, if_pos (h3.2 (.inl c1))]⟩
  by_cases c2 : d.b > 8
  · exact .inr (.inl ⟨c1, c2, by rw [hE, if_pos (h3.2 (.inr c2))]⟩)
  rw [if_neg (fun h => (h3.1 h).elim c1 c2)] at hE
  exact .inr (.inr ⟨c1, c2, hE⟩)
set_option maxHeartbeats 4000000 in
theorem registerR_any (b : Nat) (c : Cfg) (t : SfS) (served : Int) (F : Nat → Prop) (d : CallS) (w : World) (h : RmAt w b c t served F) (hu : 1 ≤ c.unit ∧ c.unit ≤ 4611686018427387904) (hk : c.shards ≠ 0) (hn : t.fs.length ≤ 1000000) :
    Calls Tryz.prog 47 #[.pointer (some ⟨b, 0, none⟩), .agg #[.int .i64 d.op, .int .i64 d.flow, .int .i64 d.a, .int .i64 d.b]] w fun e w' => e = .returned (.int .i64 (t.regE c d)) ∧ RmPost b c (t.regR c d) served F w w' := by
  obtain ⟨sb, Fs, h⟩ := h
  have I := InR.start (d := d) h
  have hcs := regE_cases c t d hu
  go_enter Tryz.func47, Tryz.ntmps47
  go_upto_region 1 with fail
  generalize (w.alloc (.cells #[.int .i64 d.op, .int .i64 d.flow, .int .i64 d.a, .int .i64 d.b] 40)) = W at *
  obtain ⟨q0, q1, q4, q5, hlt, z1, z2, z3, hzl⟩ := I.cells
  have HI := Lib.hid I
  clear I h
  rcases hcs with ⟨a1, HR⟩ | ⟨a1, a2, HR⟩ | ⟨a1, a2, ⟨b1, HR⟩ | ⟨b1, b2, HR⟩ | ⟨b1, b2, ⟨c1, HR⟩ | ⟨c1, c2, HR⟩ | ⟨c1, c2, HR⟩⟩⟩
  ·
    replace HR := Lib.hid HR
    go_wp2
    go_ret
    rw [HR.out]
    refine ⟨rfl, ?_⟩
    rw [show t.regR c d = t from by unfold SfS.regR; rw [HR.out]; rfl]
    exact HI.out.refused
  ·
    replace HR := Lib.hid HR
    go_wp2
    go_ret
    rw [HR.out]
    refine ⟨rfl, ?_⟩
    rw [show t.regR c d = t from by unfold SfS.regR; rw [HR.out]; rfl]
    exact HI.out.refused
  ·
    replace HR := Lib.hid HR
    go_wp2
    go_ret
    rw [HR.out]
    refine ⟨rfl, ?_⟩
    rw [show t.regR c d = t from by unfold SfS.regR; rw [HR.out]; rfl]
    exact HI.out.refused
  ·
    replace HR := Lib.hid HR
    go_wp2
    go_ret
    rw [HR.out]
    refine ⟨rfl, ?_⟩
    rw [show t.regR c d = t from by unfold SfS.regR; rw [HR.out]; rfl]
    exact HI.out.refused
  ·
    replace HR := Lib.hid HR
    go_wp2
    go_ret
    rw [HR.out]
    refine ⟨rfl, ?_⟩
    rw [show t.regR c d = t from by unfold SfS.regR; rw [HR.out]; rfl]
    exact HI.out.refused
  ·
    replace HR := Lib.hid HR
    go_wp2
    go_ret
    rw [HR.out]
    refine ⟨rfl, ?_⟩
    rw [show t.regR c d = t from by unfold SfS.regR; rw [HR.out]; rfl]
    exact HI.out.refused
  replace HR := Lib.hid HR
  go_upto_region 7 with fail
  obtain ⟨l, hl, RR⟩ := HI.out.md.sfq
  have CA : Hid (∀ w', Below W.heap.size W w' → Calls Tryz.prog 81 #[.pointer (some ⟨sb, 0, none⟩), .int .i64 d.flow] w' fun e w2 => e = .returned (.int .i64 (atR l d.flow)) ∧ w' = w2) := Lib.hid fun w' hb => at_any sb t.v t.most l Fs d.flow w' (RR.below hb)
  have HL := Lib.hid hl
  have hgl : getF t.fs d.flow = (getR l d.flow).map (·.x) := by rw [← hl, getF_pl]
  have HG := Lib.hid hgl
  have HRR := Lib.hid RR
  clear hgl hl RR
  by_cases hp : posR l d.flow < l.length
  · obtain ⟨e, he, hid, hg⟩ := posR_at hp
    have hA : atR l d.flow = (posR l d.flow : Int) := by unfold atR; rw [if_pos hp]
    have i0 : decide (atR l d.flow ≥ 0) = true := by rw [hA]; simp
    have i1 : (0 : Int) ≤ atR l d.flow := by rw [hA]; omega
    have hR : t.regE c d = 6 := by rw [HR.out, HG.out, hg]; rfl
    replace HR := Lib.hid hR
    clear hR he hg hA hp hid
    go_quiet (first | (go_at_call 81; refine Calls.quiet_of_same ((CA.out _ (below_drewN W _)).mono fun e w' h => ⟨h.1, h.2.symm⟩)))
    go_wp2
    go_ret
    rw [HR.out]
    refine ⟨rfl, ?_⟩
    rw [show t.regR c d = t from by unfold SfS.regR; rw [HR.out]; rfl]
    exact (HI.out.below (below_drewN W _)).refused
  have hg := posR_none hp
  have hA : atR l d.flow = -1 := by unfold atR; rw [if_neg hp]
  have hR : t.regE c d = if c.slots ≤ cntR l c.shards d.flow then 7 else 0 := by rw [HR.out, HG.out, hg, cntR_pl HL.out]; rfl
  rw [hA] at CA
  replace HR := Lib.hid hR
  have HG0 : Hid (getF t.fs d.flow = none) := Lib.hid (by rw [HG.out, hg]; rfl)
  clear hA hR hg hp HG
  go_quiet (first | (go_at_call 81; refine Calls.quiet_of_same ((CA.out _ (below_drewN W _)).mono fun e w' h => ⟨h.1, h.2.symm⟩)))
  clear CA q0 q1 q4 q5 z1 z2 z3
  replace HI : Hid (InR w (W.drewN nq) b sb c t served Fs F d) := Lib.hid (HI.out.below (below_drewN W nq))
  replace HRR : Hid (RfR (W.drewN nq) sb t.v t.most l Fs) := Lib.hid (HRR.out.below (below_drewN W nq))
  generalize W.drewN nq = w0 at *
  obtain ⟨q0, q1, q4, q5, hlt, z1, z2, z3, hzl⟩ := HI.out.cells
  obtain ⟨ao, cap, c0, c1, c2, hc, hl63, hnil, hat⟩ := HRR.out.cells
  have hsl := HRR.out.lt sb HRR.out.hb
  have HA := Lib.hid hat
  obtain ⟨n, hn1⟩ : ∃ n, l.length = n := ⟨_, rfl⟩
  have hn6 : n ≤ 1000000 := by rw [← hn1]; have := congrArg List.length HL.out; simp at this; omega
  rw [hn1] at c0 hc hl63 hnil
  have HN := Lib.hid hn1
  clear hat hn1 c1 c2 hc hnil a1 a2 b1 b2
  have hk2 : ¬ c.shards = 0 := hk
  have hk0 : (c.shards == 0) = false := by simpa using hk
  go_wp2_with fail
  go_loopw [5, 6] (fun v5 v6 wr => ∃ k : Nat, k ≤ n ∧ v6 = .int .i64 k ∧ v5 = .int .i64 (cntR (l.take k) c.shards d.flow : Nat) ∧ ∃ q, wr = w0.drewN q) (fun _ v6 _ => n - (intOf v6).toNat)
  case atStart => exact ⟨0, Nat.zero_le _, rfl, rfl, 0, rfl⟩
  case round =>
    obtain ⟨k, hkn, rfl, rfl, q, hq⟩ := hrel
    have HQ := Lib.hid hq
    have hbq := below_drewN w0 q
    rw [← hq] at hbq
    have HBQ := Lib.hid hbq
    have c0 := (hbq.cell (p := ⟨sb, 0, none⟩) hsl).trans c0
    have q5 := (hbq.cell (p := ⟨b, 5, none⟩) hlt).trans q5
    have q0 := (hbq.cell (p := ⟨b, 0, none⟩) hlt).trans q0
    have z1 := (hbq.cell (p := ⟨w.heap.size, 1, none⟩) hzl).trans z1
    have hsl := Nat.lt_of_lt_of_le hsl hbq.size
    have hlt := Nat.lt_of_lt_of_le hlt hbq.size
    have hzl := Nat.lt_of_lt_of_le hzl hbq.size
    clear hq hbq
    by_cases hkl : k < n
    · obtain ⟨e, he⟩ : ∃ e, l[k]? = some e := ⟨l[k]'(by rw [HN.out]; exact hkl), List.getElem?_eq_getElem _⟩
      obtain ⟨g, rfl, hg, cg, ci, heb⟩ := HA.out k e he
      have cg := (HBQ.out.cell (p := ⟨g, k, none⟩) hg).trans cg
      have ci := (HBQ.out.cell (p := ⟨e.b, 0, none⟩) heb).trans ci
      have hg := Nat.lt_of_lt_of_le hg HBQ.out.size
      have heb := Nat.lt_of_lt_of_le heb HBQ.out.size
      have i1 : (k : Int) < (n : Int) := by omega
      have HC := Lib.hid (cntR_take (k := c.shards) (id := d.flow) he)
      have hcl := cntR_le (l.take k) c.shards d.flow
      have htl : (l.take k).length ≤ k := by rw [List.length_take]; exact Nat.min_le_left _ _
      have e1 : Value.int .i64 (IntKind.i64.wrap ((cntR (l.take k) c.shards d.flow : Int) + 1)) = .int .i64 ((cntR (l.take k) c.shards d.flow : Int) + 1) := by rw [IntWalk.i64_left, IntWalk.wrap64_in _ (by omega)]
      clear he
      by_cases hm : e.id.tmod c.shards = d.flow.tmod c.shards
      · have hmb : (e.id.tmod c.shards == d.flow.tmod c.shards) = true := by simpa using hm
        have HM := Lib.hid hm
        clear hm
        go_upto_region 13 with fail
        go_quiet (fail)
        go_wp2
        go_roundw
        case rel => exact ⟨k + 1, by omega, by go_num, by rw [HC.out, if_pos HM.out]; go_num, q + nq, by rw [HQ.out]; exact drewN_drewN _ _ _⟩
        case measure => simp [intOf]; omega
      · have hmb : (e.id.tmod c.shards == d.flow.tmod c.shards) = false := by simpa using hm
        have HM := Lib.hid hm
        clear hm
        go_upto_region 13 with fail
        go_quiet (fail)
        go_wp2
        go_roundw
        case rel => exact ⟨k + 1, by omega, by go_num, by rw [HC.out, if_neg HM.out]; rfl, q + nq, by rw [HQ.out]; exact drewN_drewN _ _ _⟩
        case measure => simp [intOf]; omega
    · obtain rfl : k = n := by omega
      have i1 : ¬ (k : Int) < (k : Int) := by omega
      have hall : l.take k = l := by rw [← HN.out]; exact List.take_length
      rw [hall]
      have HR2 := HR.out
      have q1 := (HBQ.out.cell (p := ⟨b, 1, none⟩) (Nat.lt_of_lt_of_le (HI.out.md.blk.lt) (Nat.le_refl _))).trans q1
      have q4 := (HBQ.out.cell (p := ⟨b, 4, none⟩) (Nat.lt_of_lt_of_le (HI.out.md.blk.lt) (Nat.le_refl _))).trans q4
      have z2 := (HBQ.out.cell (p := ⟨w.heap.size, 2, none⟩) (Nat.lt_of_lt_of_le (HI.out.box.lt) (Nat.le_refl _))).trans z2
      have z3 := (HBQ.out.cell (p := ⟨w.heap.size, 3, none⟩) (Nat.lt_of_lt_of_le (HI.out.box.lt) (Nat.le_refl _))).trans z3
      generalize cntR l c.shards d.flow = M at *
      by_cases hsl2 : c.slots ≤ (M : Int)
      · rw [if_pos hsl2] at HR2
        have i2 : (M : Int) ≥ c.slots := hsl2
        have HR3 := Lib.hid HR2
        clear HR2
        go_wp2
        go_ret
        rw [HR3.out]
        refine ⟨rfl, ?_⟩
        rw [show t.regR c d = t from by unfold SfS.regR; rw [HR3.out]; rfl]
        exact (HI.out.below HBQ.out).refused
      · rw [if_neg hsl2] at HR2
        have HR3 := Lib.hid HR2
        have i2 : ¬ (M : Int) ≥ c.slots := hsl2
        have CI : Hid (∀ w', Below wr.heap.size wr w' → Calls Tryz.prog 82 #[.int .u64 c.unit, .int .i64 d.a] w' fun e w2 => e = .returned (.tuple #[.int .u64 (invR c.unit d.a), .bool (invB c.unit d.a)]) ∧ w' = w2) := Lib.hid fun w' hb => refInv_any c.unit d.a (by unfold W64; omega) w'
        have HI2 : Hid (InR w wr b sb c t served Fs F d) := Lib.hid (HI.out.below HBQ.out)
        clear HR2 HBQ HQ HA
        go_upto_region 17 with fail
        go_quiet (first | (go_at_call 82; refine Calls.quiet_of_same ((CI.out _ (below_drewN wr _)).mono fun e w' h => ⟨h.1, h.2.symm⟩)))
        replace HI2 : Hid (InR w (wr.drewN nq) b sb c t served Fs F d) := Lib.hid (HI2.out.below (below_drewN wr nq))
        clear q0 q1 q4 q5 z1 z2 z3 CI
        generalize wr.drewN nq = w2 at *
        generalize hr : invR c.unit d.a = r at *
        have hrw : W64 r := by rw [← hr]; exact invR_w64 (by unfold W64; omega)
        have HRr := Lib.hid hr
        clear hr
        obtain ⟨q0, q1, q4, q5, hlt, z1, z2, z3, hzl⟩ := HI2.out.cells
        have HNB : Hid (¬ Fs b) := Lib.hid (fun hk => (HI2.out.md.sub b hk).2 rfl)
        have HNZ : Hid (¬ Fs w.heap.size) := Lib.hid (fun hk => by have := HI2.out.old _ (HI2.out.md.sub _ hk).1; omega)
        have HI3 : Hid (InR w w2.drew b sb c t served Fs F d) := Lib.hid (HI2.out.below (Below.refl _ _).drew)
        have hS : w2.drew.cell? ⟨b, 5, none⟩ = some (.pointer (some ⟨sb, 0, none⟩)) ∧ w2.drew.cell? ⟨w.heap.size, 1, none⟩ = some (.int .i64 d.flow) ∧ w2.drew.cell? ⟨w.heap.size, 3, none⟩ = some (.int .i64 d.b) := ⟨q5, z1, z3⟩
        clear q0 q1 q4 q5 z1 z2 z3
        go_upto_region 18 with fail
        go_region_held3 (fun w' => w'.cell? ⟨b, 5, none⟩ = some (.pointer (some ⟨sb, 0, none⟩)) ∧ w'.cell? ⟨w.heap.size, 1, none⟩ = some (.int .i64 d.flow) ∧ w'.cell? ⟨w.heap.size, 3, none⟩ = some (.int .i64 d.b)) (first | with_reducible exact hS | exact ⟨(HI3.out.md.blk.fr hpp.2 HNB.out).cell 5, (HI3.out.box.fr hpp.2 HNZ.out).cell 1, (HI3.out.box.fr hpp.2 HNZ.out).cell 3⟩)
          (first | (go_at_call 83; refine (addR_any sb t Fs d.flow r d.b _ HI3.out.md.sfq hn hrw).mono ?_; rintro e w3 ⟨rfl, hpp⟩))
        have hp := RmPost.after_below HI3.out.old HI3.out.bel (rm_turn HI3.out.md hpp)
        have HP := Lib.hid hp
        clear hp hpp hS
        go_wp2
        go_ret
        rw [HR3.out]
        refine ⟨rfl, ?_⟩
        rw [show t.regR c d = t.addR d.flow r d.b from by unfold SfS.regR; rw [HR3.out, HRr.out]; rfl]
        exact HP.out
end Go.Proofs.YtdjooacjjnjfmaaGreat
end
