/- The model: how the map of the lengths follows the flows. -/
import Derived.Test.YtfgfjnlkgadkhaaMod4
namespace Go.Proofs.Ytfgfjnlkgadkhaa
set_option linter.unusedVariables false
set_option linter.unusedSimpArgs false
set_option maxRecDepth 20000
open Go.RowKit Go.Proofs.YtfgfjnlkgadkhaaMem Go.Proofs.YtfgfjnlkgadkhaaMapK

def MdPost (b : Nat) (c : Cfg) (s : SfS) (served : Int) (F : Nat → Prop) (w w' : World) : Prop := MdAt w' b c s served (Ext F w w') ∧ Fr F w w'
theorem getM_none_of {s : SfS} {id : Int} (h : getF s.fs id = none) : getM (lensV s) id = none := by rw [getM_lens, h]; rfl
theorem lens_add {s : SfS} {id r m : Int} (h : getF s.fs id = none) : putM (lensV s) id (.int .i64 0) = lensV (s.add id r m) := by
  have h1 : s.add id r m = { s with fs := s.fs ++ [(id, FlS.new r m)] } := by unfold SfS.add; rw [h]; rfl
  rw [h1]
  unfold putM
  rw [getM_none_of h]
  unfold lensV
  rw [List.map_append]
  rfl
theorem lens_remove (s : SfS) (id : Int) : delM (lensV s) id = lensV { s with fs := s.fs.filter fun e => decide (e.1 ≠ id) } := by
  unfold delM lensV
  rw [List.filter_map]
  rfl
theorem lens_set {s : SfS} {id v most : Int} {x y : FlS} (h : getF s.fs id = some x) : putM (lensV s) id (.int .i64 y.l.length) = lensV ⟨v, most, setF s.fs id y⟩ := by
  have h1 : getM (lensV s) id = some (.int .i64 x.l.length) := by rw [getM_lens, h]; rfl
  unfold putM
  rw [h1]
  unfold lensV setF
  rw [if_pos (show (some (Value.int .i64 (x.l.length : Int))).isSome = true from rfl), List.map_map]
  show _ = List.map _ (List.map _ s.fs)
  rw [List.map_map]
  refine List.map_congr_left fun e _ => ?_
  simp only [Function.comp]
  by_cases he : e.1 = id
  · rw [if_pos he, if_pos he]
  · rw [if_neg he, if_neg he]
/-- The lengths are as they were. -/
theorem lens_same {s : SfS} {id v most : Int} {x y : FlS} (hn : (s.fs.map (·.1)).Nodup) (h : getF s.fs id = some x) (hl : y.l.length = x.l.length) : lensV ⟨v, most, setF s.fs id y⟩ = lensV s := by
  unfold lensV setF
  rw [List.map_map]
  refine List.map_congr_left fun e he => ?_
  simp only [Function.comp]
  by_cases h1 : e.1 = id
  · rw [if_pos h1]
    have h2 : getF s.fs id = some e.2 := (getF_iff hn).2 (by rw [← h1]; exact he)
    rw [h] at h2
    cases h2
    rw [h1, hl]
  · rw [if_neg h1]
/-- The flows were turned, then the map of the lengths. -/
theorem md_turn {w w1 w2 : World} {b sb lm : Nat} {c : Cfg} {s s' : SfS} {served : Int} {Fs F : Nat → Prop} (h : MdR w b sb lm c s served Fs F) (p : SfsPost sb s' Fs w w1) (hg : w1.grownBy w2 (some lm)) (hm : IsMapAt w2 lm (Value.int .i64) (lensV s')) : MdPost b c s' served F w w2 := by
  have z1 := p.2.size
  have z2 := hg.size
  have hbl := h.blk.lt
  have hll := h.lt lm h.hl
  have hFs : ¬ Fs b := fun hk => (h.sub b hk).2.1 rfl
  have f1 : Fr F w w1 := p.2.mono fun k _ hk => (h.sub k hk).1
  have f2 : Fr F w w2 := f1.grown hg fun k e => by cases e; exact .inl h.hl
  have g2 : Fr (fun k => k = lm) w1 w2 := (Fr.refl _ _).grown hg fun k e => by cases e; exact .inl rfl
  refine ⟨⟨sb, lm, Ext Fs w w1, ⟨(h.blk.fr p.2 hFs).fr g2 h.ne, p.1.fr g2 fun k hk e => ?_, hm, fun k hk => ?_, .inl h.hb, .inl h.hl, h.ne, h.lt.ext f2.size⟩⟩, f2⟩
  · rcases hk with hk | hk
    · exact (h.sub k hk).2.2 e
    · omega
  · rcases hk with hk | hk
    · exact ⟨.inl (h.sub k hk).1, (h.sub k hk).2⟩
    · exact ⟨.inr ⟨hk.1, by omega⟩, by omega, by omega⟩
theorem MdR.map1 {w w1 : World} {b sb lm : Nat} {c : Cfg} {s s' : SfS} {served : Int} {Fs F : Nat → Prop} (h : MdR w b sb lm c s served Fs F) (p : SfsPost sb s' Fs w w1) : IsMapAt w1 lm (Value.int .i64) (lensV s) :=
  h.lens.of_eq (p.2.block lm (h.lt lm h.hl) fun hk => (h.sub lm hk).2.2 rfl)
/-- The flows were turned, the lengths are as they were. -/
theorem md_turn0 {w w1 : World} {b sb lm : Nat} {c : Cfg} {s s' : SfS} {served : Int} {Fs F : Nat → Prop} (h : MdR w b sb lm c s served Fs F) (p : SfsPost sb s' Fs w w1) (hl : lensV s' = lensV s) : MdPost b c s' served F w w1 :=
  md_turn h p ⟨rfl, rfl, rfl, Nat.le_refl _, fun _ _ _ => rfl⟩ (by rw [hl]; exact h.map1 p)
end Go.Proofs.Ytfgfjnlkgadkhaa
