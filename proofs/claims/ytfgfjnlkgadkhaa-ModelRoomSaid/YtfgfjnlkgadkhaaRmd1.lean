/- The reference's model, as it lies in memory. -/
import Derived.Test.YtfgfjnlkgadkhaaMod18
import Derived.Test.YtfgfjnlkgadkhaaRfs4
namespace Go.Proofs.Ytfgfjnlkgadkhaa
set_option linter.unusedVariables false
set_option linter.unusedSimpArgs false
set_option maxRecDepth 20000
open Go.RowKit Go.Proofs.YtfgfjnlkgadkhaaMem Go.Proofs.YtfgfjnlkgadkhaaMapK

structure RmR (w : World) (b sb : Nat) (c : Cfg) (t : SfS) (served : Int) (Fs F : Nat → Prop) : Prop where
  blk : Blk w b (c.cells ++ [.pointer (some ⟨sb, 0, none⟩), .int .i64 served]) 72
  sfq : RfsAt w sb t Fs
  sub : ∀ k, Fs k → F k ∧ k ≠ b
  hb : F b
  lt : Lt F w
def RmAt (w : World) (b : Nat) (c : Cfg) (t : SfS) (served : Int) (F : Nat → Prop) : Prop := ∃ sb Fs, RmR w b sb c t served Fs F
def RmPost (b : Nat) (c : Cfg) (t : SfS) (served : Int) (F : Nat → Prop) (w w' : World) : Prop := RmAt w' b c t served (Ext F w w') ∧ Fr F w w'
section
variable {w w' w1 w2 w3 w5 w0 W w6 : World} {b sb : Nat} {c : Cfg} {t t' : SfS} {served : Int} {Fs F S G : Nat → Prop}
theorem RmR.fr (h : RmR w b sb c t served Fs F) (hf : Fr S w w') (hn : ∀ k, F k → ¬ S k) : RmR w' b sb c t served Fs F :=
  ⟨h.blk.fr hf (hn b h.hb), h.sfq.fr hf fun k hk => hn k (h.sub k hk).1, h.sub, h.hb, h.lt.mono hf.size⟩
theorem RmAt.fr (h : RmAt w b c t served F) (hf : Fr S w w') (hn : ∀ k, F k → ¬ S k) : RmAt w' b c t served F := let ⟨sb, Fs, h⟩ := h; ⟨sb, Fs, h.fr hf hn⟩
theorem RmAt.below (h : RmAt w b c t served F) (hb : Below w.heap.size w w') : RmAt w' b c t served F := h.fr (Fr.of_below (S := fun _ => False) hb) fun _ _ f => f
theorem RmR.below (h : RmR w b sb c t served Fs F) (hb : Below w.heap.size w w') : RmR w' b sb c t served Fs F := h.fr (Fr.of_below (S := fun _ => False) hb) fun _ _ f => f
theorem RmAt.lt (h : RmAt w b c t served F) : Lt F w := let ⟨_, _, h⟩ := h; h.lt
theorem RmAt.mono (h : RmAt w b c t served F) (hF : ∀ k, F k → G k) (hG : Lt G w) : RmAt w b c t served G := by
  obtain ⟨sb, Fs, h⟩ := h
  exact ⟨sb, Fs, h.blk, h.sfq, fun k hk => ⟨hF k (h.sub k hk).1, (h.sub k hk).2⟩, hF b h.hb, hG⟩
theorem RmR.cells (h : RmR w b sb c t served Fs F) : w.cell? ⟨b, 0, none⟩ = some (.int .i64 c.shards) ∧ w.cell? ⟨b, 1, none⟩ = some (.int .i64 c.slots) ∧ w.cell? ⟨b, 4, none⟩ = some (.int .u64 c.unit) ∧
    w.cell? ⟨b, 5, none⟩ = some (.pointer (some ⟨sb, 0, none⟩)) ∧ w.cell? ⟨b, 6, none⟩ = some (.int .i64 served) ∧ b < w.heap.size :=
  ⟨h.blk.cell 0, h.blk.cell 1, h.blk.cell 4, h.blk.cell 5, h.blk.cell 6, h.blk.lt⟩
theorem RmAt.still (h : RmAt w b c t served F) (hF : Lt F w) (hb : Below w.heap.size w w') : RmPost b c t served F w w' :=
  ⟨(h.below hb).mono (fun k hk => .inl hk) (hF.ext hb.size), Fr.of_below hb⟩
/-- Its flows were turned. -/
theorem rm_turn (h : RmR w b sb c t served Fs F) (p : RfsPost sb t' Fs w w1) : RmPost b c t' served F w w1 := by
  have z1 := p.2.size
  have hbl := h.blk.lt
  have f1 : Fr F w w1 := p.2.mono fun k _ hk => (h.sub k hk).1
  refine ⟨⟨sb, Ext Fs w w1, h.blk.fr p.2 fun hk => (h.sub b hk).2 rfl, p.1, fun k hk => ?_, .inl h.hb, h.lt.ext z1⟩, f1⟩
  rcases hk with hk | hk
  · exact ⟨.inl (h.sub k hk).1, (h.sub k hk).2⟩
  · exact ⟨.inr hk, by omega⟩
theorem RmPost.then_below (h : RmPost b c t served F w w1) (hF : Lt F w) (hb : Below w1.heap.size w1 w2) : RmPost b c t served F w w2 := by
  have z := h.2.size
  have z2 := hb.size
  exact ⟨(h.1.below hb).mono (fun k hk => hk.imp id fun hk => ⟨hk.1, by omega⟩) (hF.ext (by omega)), h.2.then_below hb⟩
theorem RmPost.after_below (hF : Lt F w) (hb : Below w.heap.size w w1) (h : RmPost b c t served F w1 w2) : RmPost b c t served F w w2 := by
  have f := Fr.after_below hb h.2
  have z := hb.size
  refine ⟨h.1.mono (fun k hk => ?_) (hF.ext f.size), f⟩
  rcases hk with hk | hk
  · exact .inl hk
  · exact .inr ⟨by omega, hk.2⟩
/-- Blocks of the call's own ahead of it, and stores into these behind it. -/
theorem rm_end (hF : Lt F w) (hb : Below w.heap.size w W) (p : RmPost b c t served F W w3) (hf : Fr (fun k => w.heap.size ≤ k ∧ k < W.heap.size) w3 w5) : RmPost b c t served F w w5 := by
  have z1 := hb.size
  have z2 := p.2.size
  have z3 := hf.size
  have f3 : Fr F w w3 := Fr.after_below hb p.2
  have f5 : Fr F w w5 := fr_trans f3 (hf.mono fun k _ hk => .inr ⟨hk.1, by omega⟩)
  refine ⟨(p.1.fr hf fun k hk hk2 => ?_).mono (fun k hk => ?_) (hF.ext f5.size), f5⟩
  · rcases hk with hk | hk
    · have := hF k hk; omega
    · omega
  · rcases hk with hk | hk
    · exact .inl hk
    · exact .inr ⟨by omega, by omega⟩
theorem RmPost.setServed (p : RmPost b c t served F w w') (hF : F b) (n : Int) : RmPost b c t n F w (w'.setCell ⟨b, 6, none⟩ (.int .i64 n)) := by
  obtain ⟨⟨sb, Fs, R⟩, f⟩ := p
  have hg : Fr (fun k => k = b) w' (w'.setCell ⟨b, 6, none⟩ (.int .i64 n)) := Fr.setCell (S := fun k => k = b) (Fr.refl _ _) (a := ⟨b, 6, none⟩) (.inl rfl) _
  refine ⟨⟨sb, Fs, R.blk.set 6 (.int .i64 n), R.sfq.fr hg fun k hk e => (R.sub k hk).2 e, fun k hk => ⟨?_, (R.sub k hk).2⟩, ?_, ?_⟩, f.setCell (.inl hF) _⟩
  · have := (R.sub k hk).1
    simpa [Ext, World.setCell] using this
  · simpa [Ext, World.setCell] using R.hb
  · intro k hk
    have := R.lt k (by simpa [Ext, World.setCell] using hk)
    simpa [World.setCell] using this
/-- What a call of it tells. -/
def RrPost (b : Nat) (c : Cfg) (m : MdS) (r : RetS) (F : Nat → Prop) (w : World) (e : Ending) (w' : World) : Prop :=
  ∃ ao cap G, e = .returned (.agg #[.int .i64 r.e, .slice ao r.ps.length cap, .int .i64 r.n, .int .u64 r.v]) ∧ w'.ownsRow w.heap.size 55 3 (.slice ao r.ps.length cap) r.ps.length (pks r.ps) ∧
    (∀ a, ao = some a → ¬ G a.block) ∧ RmAt w' b c m.s m.served G ∧ (∀ k, G k → Ext F w w' k) ∧ Fr F w w'
theorem RrPost.plain (n v : Int) (p : RmPost b c t served F w w') (e : Int) : RrPost b c ⟨t, served⟩ ⟨e, [], n, v⟩ F w (.returned (.agg #[.int .i64 e, .slice none 0 0, .int .i64 n, .int .u64 v])) w' :=
  ⟨none, 0, _, rfl, owns_nil _ _ _ _, (fun a h => by cases h), p.1, fun k hk => hk, p.2⟩
theorem RrPost.code (p : RmPost b c t served F w w') (e : Int) : RrPost b c ⟨t, served⟩ (.code e) F w (.returned (retE e)) w' := RrPost.plain 0 0 p e
theorem RrPost.row {m : MdS} {r : RetS} {cap : Nat} (hF : Lt F w) (hb : Below w.heap.size w w0) (p : RmPost b c m.s m.served F w0 w5) (hf : Fr (fun k => w.heap.size ≤ k ∧ k < w0.heap.size) w5 w6) {B : Nat} (hB : w5.heap.size ≤ B)
    (ho : w6.ownsRow w.heap.size 55 3 (.slice (some ⟨B, 0, none⟩) r.ps.length cap) r.ps.length (pks r.ps)) : RrPost b c m r F w (.returned (.agg #[.int .i64 r.e, .slice (some ⟨B, 0, none⟩) r.ps.length cap, .int .i64 r.n, .int .u64 r.v])) w6 := by
  have z1 := hb.size
  have z2 := p.2.size
  have z3 := hf.size
  have q := rm_end hF hb p hf
  refine ⟨_, _, fun k => Ext F w0 w5 k, rfl, ho, fun a ha hk => ?_, p.1.fr hf fun k hk hk2 => ?_, fun k hk => ?_, q.2⟩
  · cases ha
    rcases hk with hk | hk
    · have := hF _ hk; simp only at this; omega
    · simp only at hk; omega
  · rcases hk with hk | hk
    · have := hF k hk; omega
    · omega
  · rcases hk with hk | hk
    · exact .inl hk
    · exact .inr ⟨by omega, by omega⟩
end

set_option maxHeartbeats 400000 in
theorem code_any (k : Int) (w : World) : Calls Try.prog 33 #[.int .i64 k] w fun e w' => e = .returned (retE k) ∧ Below w.heap.size w w' := by
  go_enter Try.func33, Try.ntmps33
  go_wp2
  exact bodyPost_ret (v := retE k) (by simp [retE, results, Try.results33, go_sem]) rfl ⟨rfl, below1 _ _⟩
set_option maxHeartbeats 1000000 in
theorem newModel_any (c : Cfg) (w : World) : Calls Try.prog 18 #[.agg #[.int .i64 c.shards, .int .i64 c.slots, .int .i64 c.workers, .int .i64 c.width, .int .u64 c.unit]] w fun e w' => ∃ b, e = .returned (.pointer (some ⟨b, 0, none⟩)) ∧ RmAt w' b c SfS.new 0 (fun k => w.heap.size ≤ k ∧ k < w'.heap.size) ∧ Below w.heap.size w w' := by
  have hb := below1 w (.cells #[.int .i64 c.shards, .int .i64 c.slots, .int .i64 c.workers, .int .i64 c.width, .int .u64 c.unit] 24)
  have B0 : Blk (w.alloc (.cells #[.int .i64 c.shards, .int .i64 c.slots, .int .i64 c.workers, .int .i64 c.width, .int .u64 c.unit] 24)) w.heap.size c.cells 24 := Blk.new w c.cells 24
  go_enter Try.func18, Try.ntmps18
  go_upto_region 1 with fail
  have e0 : (w.alloc (.cells #[.int .i64 c.shards, .int .i64 c.slots, .int .i64 c.workers, .int .i64 c.width, .int .u64 c.unit] 24)).heap.size = w.heap.size + 1 := by simp
  generalize (w.alloc (.cells #[.int .i64 c.shards, .int .i64 c.slots, .int .i64 c.workers, .int .i64 c.width, .int .u64 c.unit] 24)) = W at *
  have b0 : W.cell? ⟨w.heap.size, 0, none⟩ = some (.int .i64 c.shards) := B0.cell 0
  have b1 : W.cell? ⟨w.heap.size, 1, none⟩ = some (.int .i64 c.slots) := B0.cell 1
  have b2 : W.cell? ⟨w.heap.size, 2, none⟩ = some (.int .i64 c.workers) := B0.cell 2
  have b3 : W.cell? ⟨w.heap.size, 3, none⟩ = some (.int .i64 c.width) := B0.cell 3
  have b4 : W.cell? ⟨w.heap.size, 4, none⟩ = some (.int .u64 c.unit) := B0.cell 4
  have hl := B0.lt
  have HB := Lib.hid hb
  have HE := Lib.hid e0
  clear hb e0 B0
  go_wp2
  go_ret
  have hn : RfR (W.alloc (.cells #[.slice none 0 0, .int .u64 0, .int .u64 0] 70)) W.heap.size 0 0 [] (fun k => k = W.heap.size) :=
    ⟨⟨none, 0, Blk.new W _ _, owns_nil _ _ _ _, fun a h => by cases h⟩, fun e he => (by cases he), rfl, fun e he => (by cases he), List.Pairwise.nil, fun k hk => by rw [hk]; simp, fun e he => (by cases he), List.Pairwise.nil⟩
  have hb1 := below1 W (.cells #[.slice none 0 0, .int .u64 0, .int .u64 0] 70)
  have e1 : (W.alloc (.cells #[.slice none 0 0, .int .u64 0, .int .u64 0] 70)).heap.size = W.heap.size + 1 := by simp
  generalize W.alloc (.cells #[.slice none 0 0, .int .u64 0, .int .u64 0] 70) = W1 at *
  have hb2 := below1 W1 (.cells #[.int .i64 c.shards, .int .i64 c.slots, .int .i64 c.workers, .int .i64 c.width, .int .u64 c.unit, .pointer (some ⟨W.heap.size, 0, none⟩), .int .i64 0] 72)
  have B2 := Blk.new W1 [.int .i64 c.shards, .int .i64 c.slots, .int .i64 c.workers, .int .i64 c.width, .int .u64 c.unit, .pointer (some ⟨W.heap.size, 0, none⟩), .int .i64 0] 72
  have e2 : (W1.alloc (.cells #[.int .i64 c.shards, .int .i64 c.slots, .int .i64 c.workers, .int .i64 c.width, .int .u64 c.unit, .pointer (some ⟨W.heap.size, 0, none⟩), .int .i64 0] 72)).heap.size = W1.heap.size + 1 := by simp
  have hz := HB.out.size
  refine ⟨W1.heap.size, by rw [e1]; rfl, ⟨W.heap.size, fun k => k = W.heap.size, B2, ⟨[], rfl, hn.below hb2⟩, fun k hk => ?_, ⟨by omega, by omega⟩, fun k hk => hk.2⟩, HB.out.trans ((hb1.mono hz).trans (hb2.mono (by omega)))⟩
  subst hk
  exact ⟨⟨hz, by omega⟩, by omega⟩
end Go.Proofs.Ytfgfjnlkgadkhaa
