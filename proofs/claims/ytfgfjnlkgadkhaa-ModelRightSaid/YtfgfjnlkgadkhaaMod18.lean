/- A model that the call itself made: the contracts as laws use them. -/
import Derived.Test.YtfgfjnlkgadkhaaMod17
namespace Go.Proofs.Ytfgfjnlkgadkhaa
set_option linter.unusedVariables false
set_option linter.unusedSimpArgs false
set_option maxRecDepth 20000
open Go.RowKit Go.Proofs.YtfgfjnlkgadkhaaMem Go.Proofs.YtfgfjnlkgadkhaaMapK

structure MdS.Good (m : MdS) (k : Nat) : Prop where
  ok : m.Ok k
  tag : m.s.Tagged
theorem MdS.Good.new : MdS.new.Good 0 := ⟨MdS.new_ok, SfS.Tagged.new⟩
theorem MdS.Good.bat {m : MdS} {k : Nat} (h : m.Good k) (hk : k ≤ 1000000) : BatOk m 0 := by
  have h1 := h.ok.len
  have h2 := h.ok.served
  exact ⟨h.ok.s, h.tag, by omega, h2.1, by omega⟩
theorem MdS.Good.doo {m : MdS} {k : Nat} (h : m.Good k) {c : Cfg} (hc : W64 c.unit) {d : CallS} (hd : d.Ok) : (m.doo c d).1.Good (k + 1) := ⟨MdS.doo_ok h.ok hc hd, h.tag.doo c d⟩
theorem MdS.Good.mono {m : MdS} {k j : Nat} (h : m.Good k) (hj : k ≤ j) : m.Good j :=
  ⟨⟨h.ok.s, Nat.le_trans h.ok.len hj, ⟨h.ok.served.1, by have := h.ok.served.2; omega⟩, h.ok.nodup⟩, h.tag⟩
structure Cfg.Ok (c : Cfg) : Prop where
  unit : W64 c.unit
  shards : c.shards ≠ 0
/-- The model at block b, all of it made since the world w, of which nothing has turned. -/
def OwnM (w wx : World) (b : Nat) (c : Cfg) (m : MdS) : Prop := ∃ F : Nat → Prop, MdAt wx b c m.s m.served F ∧ (∀ k, F k → w.heap.size ≤ k) ∧ Below w.heap.size w wx
section
variable {w wx wy : World} {b : Nat} {c : Cfg} {m : MdS}
theorem OwnM.bel (h : OwnM w wx b c m) : Below w.heap.size w wx := let ⟨_, _, _, h⟩ := h; h
theorem OwnM.below (h : OwnM w wx b c m) (hb : Below wx.heap.size wx wy) : OwnM w wy b c m := let ⟨F, h1, h2, h3⟩ := h; ⟨F, h1.below hb, h2, h3.trans (hb.mono h3.size)⟩
/-- What a law reads of an answer. -/
def GotR (r : RetS) (e : Ending) (w' : World) : Prop := ∃ ao cap, e = .returned (.agg #[.int .i64 r.e, .slice ao r.ps.length cap, .int .i64 r.n, .int .u64 r.v]) ∧ RdS w' ao r.ps.length cap 3 (pks r.ps)
theorem OwnM.post {F : Nat → Prop} {r : RetS} {m' : MdS} {e : Ending} (hF : ∀ k, F k → w.heap.size ≤ k) (hb : Below w.heap.size w wx) (h : RetPost b c m' r F wx e wy) : GotR r e wy ∧ OwnM w wy b c m' := by
  obtain ⟨ao, cap, G, rfl, row, h3, md, hG, f⟩ := h
  refine ⟨⟨ao, cap, rfl, owns_rdS row (pks_one _)⟩, G, md, fun k hk => ?_, hb.trans (f.below hF hb.size)⟩
  rcases hG k hk with hk | hk
  · exact hF k hk
  · have := hb.size; omega
theorem doO (h : OwnM w wx b c m) (ok : BatOk m 0) (hc : c.Ok) (d : CallS) (hd : d.Ok) :
    Calls Try.prog 9 #[.pointer (some ⟨b, 0, none⟩), .agg #[.int .i64 d.op, .int .i64 d.flow, .int .i64 d.a, .int .i64 d.b]] wx fun e w' => GotR (m.doo c d).2 e w' ∧ OwnM w w' b c (m.doo c d).1 := by
  obtain ⟨F, h1, h2, h3⟩ := h
  exact (do_any b c m F d wx h1 ok hd hc.unit hc.shards).mono fun e w' hh => OwnM.post h2 h3 hh
theorem vM (h : OwnM w wx b c m) : Calls Try.prog 14 #[.pointer (some ⟨b, 0, none⟩)] wx fun e w' => e = .returned (.int .u64 m.s.v) ∧ wx = w' := by
  obtain ⟨F, h1, h2, h3⟩ := h
  exact mdV_any b c m.s m.served F wx h1
theorem servedM (h : OwnM w wx b c m) : Calls Try.prog 15 #[.pointer (some ⟨b, 0, none⟩)] wx fun e w' => e = .returned (.int .i64 m.served) ∧ wx = w' := by
  obtain ⟨F, h1, h2, h3⟩ := h
  exact mdServed_any b c m.s m.served F wx h1
theorem lenM (h : OwnM w wx b c m) (id : Int) : Calls Try.prog 10 #[.pointer (some ⟨b, 0, none⟩), .int .i64 id] wx fun e w' => e = .returned (.int .i64 (m.s.len id)) ∧ wx = w' := by
  obtain ⟨F, h1, h2, h3⟩ := h
  exact mdLen_any b c m.s m.served F id wx h1
end
end Go.Proofs.Ytfgfjnlkgadkhaa
