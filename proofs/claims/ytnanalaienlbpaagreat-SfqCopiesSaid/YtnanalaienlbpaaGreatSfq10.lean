/- A set of flows that the call itself made: the contracts as laws use them. -/
import Derived.Test.YtnanalaienlbpaaGreatSfq9
namespace Go.Proofs.YtnanalaienlbpaaGreat
set_option linter.unusedVariables false
set_option linter.unusedSimpArgs false
set_option maxRecDepth 20000
open Go.RowKit Go.Proofs.YtnanalaienlbpaaGreatMem Go.Proofs.YtnanalaienlbpaaGreatMapK

/-- The flows at block b, all of it made since the world w, of which nothing has turned. -/
def OwnS (w wx : World) (b : Nat) (s : SfS) : Prop := ∃ F : Nat → Prop, SfsAt wx b s F ∧ (∀ k, F k → w.heap.size ≤ k) ∧ Below w.heap.size w wx
theorem OwnS.bel {w wx : World} {b : Nat} {s : SfS} (h : OwnS w wx b s) : Below w.heap.size w wx := let ⟨_, _, _, h⟩ := h; h
theorem OwnS.below {w wx wy : World} {b : Nat} {s : SfS} (h : OwnS w wx b s) (hb : Below wx.heap.size wx wy) : OwnS w wy b s := let ⟨F, h1, h2, h3⟩ := h; ⟨F, h1.below hb, h2, h3.trans (hb.mono h3.size)⟩
theorem OwnS.post {w wx wy : World} {b : Nat} {s : SfS} {F : Nat → Prop} (hF : ∀ k, F k → w.heap.size ≤ k) (hb : Below w.heap.size w wx) (h : SfsPost b s F wx wy) : OwnS w wy b s :=
  ⟨_, h.1, fun k hk => hk.elim (hF k) fun hk => Nat.le_trans hb.size hk.1, hb.trans (h.2.below hF hb.size)⟩
theorem newO (w wx : World) (hb : Below w.heap.size w wx) : Calls Tryz.prog 4 #[] wx fun e w' => ∃ b, e = .returned (.pointer (some ⟨b, 0, none⟩)) ∧ OwnS w w' b SfS.new := by
  refine (newS_any wx).mono ?_
  rintro e w' ⟨b, rfl, h1, h2⟩
  exact ⟨b, rfl, _, h1, fun k hk => Nat.le_trans hb.size hk.1, hb.trans (h2.mono hb.size)⟩
theorem addO {w wx : World} {b : Nat} {s : SfS} (h : OwnS w wx b s) (id r most : Int) (hr : W64 r) :
    Calls Tryz.prog 15 #[.pointer (some ⟨b, 0, none⟩), .int .i64 id, .int .u64 r, .int .i64 most] wx fun e w' => e = .returned (.bool (!(getF s.fs id).isSome)) ∧ OwnS w w' b (s.add id r most) := by
  obtain ⟨F, h1, h2, h3⟩ := h
  refine (addS_any b s F id r most wx h1 hr).mono ?_
  rintro e w' ⟨rfl, hp⟩
  exact ⟨rfl, OwnS.post h2 h3 hp⟩
theorem removeO {w wx : World} {b : Nat} {s : SfS} (h : OwnS w wx b s) (id : Int) :
    Calls Tryz.prog 16 #[.pointer (some ⟨b, 0, none⟩), .int .i64 id] wx fun e w' => e = .returned (.int .i64 (s.removeE id)) ∧ OwnS w w' b (s.remove id) := by
  obtain ⟨F, h1, h2, h3⟩ := h
  refine (removeS_any b s F id wx h1).mono ?_
  rintro e w' ⟨rfl, hp⟩
  exact ⟨rfl, OwnS.post h2 h3 hp⟩
theorem arriveO {w wx : World} {b : Nat} {s : SfS} (h : OwnS w wx b s) (ok : s.Ok) (p : Pk) (hp : p.Ok) :
    Calls Tryz.prog 17 #[.pointer (some ⟨b, 0, none⟩), .agg #[.int .i64 p.flow, .int .i64 p.len, .int .i64 p.mark]] wx fun e w' => e = .returned (.int .i64 (s.arriveE p)) ∧ OwnS w w' b (s.arrive p) := by
  obtain ⟨F, h1, h2, h3⟩ := h
  refine (arriveS_any b s F p wx h1 ok hp).mono ?_
  rintro e w' ⟨rfl, hp⟩
  exact ⟨rfl, OwnS.post h2 h3 hp⟩
theorem serveO {w wx : World} {b : Nat} {s : SfS} (h : OwnS w wx b s) (ok : s.Ok) (hn : s.fs.length ≤ 1000000) :
    Calls Tryz.prog 18 #[.pointer (some ⟨b, 0, none⟩)] wx fun e w' => e = .returned (.tuple #[s.head.val, .bool s.has]) ∧ OwnS w w' b s.serve := by
  obtain ⟨F, h1, h2, h3⟩ := h
  refine (serveS_any b s F wx h1 ok hn).mono ?_
  rintro e w' ⟨rfl, hp⟩
  exact ⟨rfl, OwnS.post h2 h3 hp⟩
theorem vO {w wx : World} {b : Nat} {s : SfS} (h : OwnS w wx b s) : Calls Tryz.prog 20 #[.pointer (some ⟨b, 0, none⟩)] wx fun e w' => e = .returned (.int .u64 s.v) ∧ wx = w' := by
  obtain ⟨F, ⟨mb, l, hl, h1⟩, h2, h3⟩ := h
  exact sfqV_any b s.v s.most l F wx ⟨mb, h1⟩
theorem mostO {w wx : World} {b : Nat} {s : SfS} (h : OwnS w wx b s) : Calls Tryz.prog 19 #[.pointer (some ⟨b, 0, none⟩)] wx fun e w' => e = .returned (.int .u64 s.most) ∧ wx = w' := by
  obtain ⟨F, ⟨mb, l, hl, h1⟩, h2, h3⟩ := h
  exact sfqMost_any b s.v s.most l F wx ⟨mb, h1⟩
end Go.Proofs.YtnanalaienlbpaaGreat
