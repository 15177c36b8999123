/- SfqKept: the flows, the row of what came, the row of what was told: all three apart. -/
import Derived.Test.YtnanalaienlbpaaKeptL
import Derived.Test.YtnanalaienlbpaaHelpP
namespace Go.Proofs.Ytnanalaienlbpaa
set_option linter.unusedVariables false
set_option linter.unusedSimpArgs false
set_option maxRecDepth 20000
open Go.RowKit Go.Proofs.YtnanalaienlbpaaMem Go.Proofs.YtnanalaienlbpaaFlat Go.Proofs.YtnanalaienlbpaaMapK

def KM (w wx : World) (b : Nat) (s : SfS) (iv : Value) (il : List Pk) (ov : Value) (ol : List Pk) : Prop :=
  Below w.heap.size w wx ∧ ∃ F, SfsAt wx b s F ∧ (∀ k, F k → w.heap.size ≤ k) ∧ wx.ownsRow w.heap.size 34 3 iv il.length (pks il) ∧ wx.ownsRow w.heap.size 34 3 ov ol.length (pks ol) ∧
    (∀ k, iv.ownBlock = some k → ¬ F k) ∧ (∀ k, ov.ownBlock = some k → ¬ F k ∧ iv.ownBlock ≠ some k)
section
variable {w wx wy : World} {b : Nat} {s : SfS} {iv ov : Value} {il ol : List Pk}
theorem KM.below (h : KM w wx b s iv il ov ol) (hb : Below wx.heap.size wx wy) : KM w wy b s iv il ov ol := by
  obtain ⟨h0, F, h2, h3, h4, h5, h6, h7⟩ := h
  exact ⟨h0.trans (hb.mono h0.size), F, h2.below hb, h3, owns_below (B := 0) h4 hb, owns_below (B := 0) h5 hb, h6, h7⟩
theorem KM.in_ {p : Pk} {v' : Value} (h : KM w wx b s iv il ov ol) (hown : wy.ownsRow w.heap.size 34 3 v' (il.length + 1) (pks il ++ [.int .i64 p.flow, .int .i64 p.len, .int .i64 p.mark])) (hg : wx.grownBy wy iv.ownBlock) (hfr : FreshOr wx iv v') : KM w wy b s v' (il ++ [p]) ov ol := by
  obtain ⟨h0, F, h2, h3, h4, h5, h6, h7⟩ := h
  have hlt := h2.lt
  have hf : Fr (fun k => iv.ownBlock = some k) wx wy := (Fr.refl _ wx).grown hg fun k hk => .inl hk
  have e1 : (il ++ [p]).length = il.length + 1 := by simp
  have e2 : pks (il ++ [p]) = pks il ++ [.int .i64 p.flow, .int .i64 p.len, .int .i64 p.mark] := by rw [pks_append]; simp [pks, Pk.cells]
  refine ⟨h0.trans (hf.below (fun k hk => (h4.lt k hk).1) h0.size), F, h2.fr hf fun k hk hk2 => h6 k hk2 hk, h3, by rw [e1, e2]; exact hown, owns_fr h5 hf fun k hk => (h7 k hk).2, fun k hk hk2 => ?_, fun k hk => ⟨(h7 k hk).1, fun e => ?_⟩⟩
  · rcases hfr with hfr | hfr
    · rw [hfr] at hk; exact h6 k hk hk2
    · have := hfr k hk; have := hlt k hk2; omega
  · rcases hfr with hfr | hfr
    · rw [hfr] at e; exact (h7 k hk).2 e
    · have := hfr k e; have := (h5.lt k hk).2; omega
theorem KM.out {p : Pk} {v' : Value} (h : KM w wx b s iv il ov ol) (hown : wy.ownsRow w.heap.size 34 3 v' (ol.length + 1) (pks ol ++ [.int .i64 p.flow, .int .i64 p.len, .int .i64 p.mark])) (hg : wx.grownBy wy ov.ownBlock) (hfr : FreshOr wx ov v') : KM w wy b s iv il v' (ol ++ [p]) := by
  obtain ⟨h0, F, h2, h3, h4, h5, h6, h7⟩ := h
  have hlt := h2.lt
  have hf : Fr (fun k => ov.ownBlock = some k) wx wy := (Fr.refl _ wx).grown hg fun k hk => .inl hk
  have e1 : (ol ++ [p]).length = ol.length + 1 := by simp
  have e2 : pks (ol ++ [p]) = pks ol ++ [.int .i64 p.flow, .int .i64 p.len, .int .i64 p.mark] := by rw [pks_append]; simp [pks, Pk.cells]
  refine ⟨h0.trans (hf.below (fun k hk => (h5.lt k hk).1) h0.size), F, h2.fr hf fun k hk hk2 => (h7 k hk2).1 hk, h3, owns_fr h4 hf fun k hk hk2 => (h7 k hk2).2 hk, by rw [e1, e2]; exact hown, h6, fun k hk => ⟨fun hk2 => ?_, fun e => ?_⟩⟩
  · rcases hfr with hfr | hfr
    · rw [hfr] at hk; exact (h7 k hk).1 hk2
    · have := hfr k hk; have := hlt k hk2; omega
  · rcases hfr with hfr | hfr
    · rw [hfr] at hk; exact (h7 k hk).2 e
    · have := hfr k hk; have := (h4.lt k e).2; omega
theorem KM.bel (h : KM w wx b s iv il ov ol) : Below w.heap.size w wx := h.1
theorem KM.rows (h : KM w wx b s iv il ov ol) : (∃ a c, iv = .slice a il.length c ∧ wx.ownsRow w.heap.size 34 3 (.slice a il.length c) il.length (pks il)) ∧ (∃ a c, ov = .slice a ol.length c ∧ wx.ownsRow w.heap.size 34 3 (.slice a ol.length c) ol.length (pks ol)) := by
  obtain ⟨h0, F, h2, h3, h4, h5, h6, h7⟩ := h
  obtain ⟨a, c, rfl⟩ := owns_slice h4
  obtain ⟨a', c', rfl⟩ := owns_slice h5
  exact ⟨⟨a, c, rfl, h4⟩, ⟨a', c', rfl, h5⟩⟩
theorem KM.post {s' : SfS} {F : Nat → Prop} (h0 : Below w.heap.size w wx) (h3 : ∀ k, F k → w.heap.size ≤ k) (h4 : wx.ownsRow w.heap.size 34 3 iv il.length (pks il)) (h5 : wx.ownsRow w.heap.size 34 3 ov ol.length (pks ol))
    (h6 : ∀ k, iv.ownBlock = some k → ¬ F k) (h7 : ∀ k, ov.ownBlock = some k → ¬ F k ∧ iv.ownBlock ≠ some k) (p : SfsPost b s' F wx wy) : KM w wy b s' iv il ov ol := by
  have s := p.2.size
  refine ⟨h0.trans (p.2.below h3 h0.size), Ext F wx wy, p.1, fun k hk => ?_, owns_fr h4 p.2 h6, owns_fr h5 p.2 fun k hk => (h7 k hk).1, fun k hk hk2 => ?_, fun k hk => ⟨fun hk2 => ?_, (h7 k hk).2⟩⟩
  · rcases hk with hk | hk
    · exact h3 k hk
    · have := h0.size; omega
  · rcases hk2 with hk2 | hk2
    · exact h6 k hk hk2
    · have := (h4.lt k hk).2; omega
  · rcases hk2 with hk2 | hk2
    · exact (h7 k hk).1 hk2
    · have := (h5.lt k hk).2; omega
theorem kmArrive (h : KM w wx b s iv il ov ol) (ok : s.Ok) (p : Pk) (hp : p.Ok) :
    Calls Try.prog 13 #[.pointer (some ⟨b, 0, none⟩), .agg #[.int .i64 p.flow, .int .i64 p.len, .int .i64 p.mark]] wx fun e w' => e = .returned (.int .i64 (s.arriveE p)) ∧ KM w w' b (s.arrive p) iv il ov ol := by
  obtain ⟨h0, F, h2, h3, h4, h5, h6, h7⟩ := h
  exact (arriveS_any b s F p wx h2 ok hp).mono fun e w' hh => ⟨hh.1, KM.post h0 h3 h4 h5 h6 h7 hh.2⟩
theorem kmServe (h : KM w wx b s iv il ov ol) (ok : s.Ok) (hn : s.fs.length ≤ 1000000) :
    Calls Try.prog 14 #[.pointer (some ⟨b, 0, none⟩)] wx fun e w' => e = .returned (.tuple #[s.head.val, .bool s.has]) ∧ KM w w' b s.serve iv il ov ol := by
  obtain ⟨h0, F, h2, h3, h4, h5, h6, h7⟩ := h
  exact (serveS_any b s F wx h2 ok hn).mono fun e w' hh => ⟨hh.1, KM.post h0 h3 h4 h5 h6 h7 hh.2⟩
theorem kmStarts (h : KM w wx b s iv il ov ol) (hn : s.fs.length ≤ 1000000) :
    Calls Try.prog 20 #[.pointer (some ⟨b, 0, none⟩)] wx fun e w' => ∃ v, e = .returned v ∧ w'.ownsRow wx.heap.size 52 2 v s.starts.length (entC s.starts) ∧ Below wx.heap.size wx w' := by
  obtain ⟨h0, F, h2, -⟩ := h
  exact startsS_any b s F wx h2 hn
end
theorem onePk (p : Pk) : ∀ u ∈ (#[.int .i64 p.flow, .int .i64 p.len, .int .i64 p.mark] : Array Value).toList, u.oneCell' = true := by
  intro u hu
  simp at hu
  rcases hu with rfl | rfl | rfl <;> rfl
end Go.Proofs.Ytnanalaienlbpaa
