/- A flow of the reference, last: the first packet served. -/
import Derived.Test.YtfgfjnlkgadkhaaRef2
import Derived.StillTailTactics
namespace Go.Proofs.Ytfgfjnlkgadkhaa
set_option linter.unusedVariables false
set_option maxRecDepth 20000
set_option linter.unusedSimpArgs false
open Go.RowKit Go.Proofs.YtfgfjnlkgadkhaaMem

theorem RefPost.drew {b : Nat} {id : Int} {x : FlS} {F : Nat → Prop} {w w1 : World} (h : RefPost b id x F w w1) : RefPost b id x F w w1.drew := by
  obtain ⟨⟨ao, cap, hB, ho, hF1, hF2, hF3⟩, hf⟩ := h
  exact ⟨⟨ao, cap, hB, ho.drew, hF1, hF2, hF3⟩, hf.drew⟩
theorem RefPost.start {b : Nat} {id : Int} {x : FlS} {F : Nat → Prop} {w w1 : World} (hFb : F b) (h : RefPost b id x F w w1) (v : Int) : RefPost b id { x with start := v } F w (w1.setCell ⟨b, 4, none⟩ (.int .u64 v)) := by
  obtain ⟨⟨ao, cap, hB, ho, hF1, hF2, hF3⟩, hf⟩ := h
  have hs : (w1.setCell ⟨b, 4, none⟩ (.int .u64 v)).heap.size = w1.heap.size := by simp [World.setCell]
  refine ⟨⟨ao, cap, by simpa using hB.set 4 (.int .u64 v), ?_, by unfold Ext at hF1 ⊢; rw [hs]; exact hF1, fun a ha => ⟨by have := (hF2 a ha).1; unfold Ext at this ⊢; rw [hs]; exact this, (hF2 a ha).2⟩, fun k hk => by rw [hs]; unfold Ext at hk; rw [hs] at hk; exact hF3 k hk⟩, hf.setCell (.inl hFb) _⟩
  refine owns_fr (S := fun k => k = b) ho (Fr.setCell (S := fun k => k = b) (a := ⟨b, 4, none⟩) (Fr.refl _ _) (.inl rfl) _) fun k hk => ?_
  cases ao with
  | none => cases hk
  | some a => cases hk; exact (hF2 a rfl).2
theorem RefPost.finish {b : Nat} {id : Int} {x : FlS} {F : Nat → Prop} {w w1 : World} (hFb : F b) (h : RefPost b id x F w w1) (v : Int) : RefPost b id { x with finish := v } F w (w1.setCell ⟨b, 5, none⟩ (.int .u64 v)) := by
  obtain ⟨⟨ao, cap, hB, ho, hF1, hF2, hF3⟩, hf⟩ := h
  have hs : (w1.setCell ⟨b, 5, none⟩ (.int .u64 v)).heap.size = w1.heap.size := by simp [World.setCell]
  refine ⟨⟨ao, cap, by simpa using hB.set 5 (.int .u64 v), ?_, by unfold Ext at hF1 ⊢; rw [hs]; exact hF1, fun a ha => ⟨by have := (hF2 a ha).1; unfold Ext at this ⊢; rw [hs]; exact this, (hF2 a ha).2⟩, fun k hk => by rw [hs]; unfold Ext at hk; rw [hs] at hk; exact hF3 k hk⟩, hf.setCell (.inl hFb) _⟩
  refine owns_fr (S := fun k => k = b) ho (Fr.setCell (S := fun k => k = b) (a := ⟨b, 5, none⟩) (Fr.refl _ _) (.inl rfl) _) fun k hk => ?_
  cases ao with
  | none => cases hk
  | some a => cases hk; exact (hF2 a rfl).2

theorem refServe_end {b : Nat} {id : Int} {x : FlS} {F : Nat → Prop} {w W2 wr : World} {a c d : Value} (hb2 : Below w.heap.size w W2) (hF : Lt F w) (h2 : w.heap.size < W2.heap.size) (h : RefPost b id x F W2 wr) :
    RefPost b id x F w ((((wr.setCell ⟨w.heap.size, 0, none⟩ a).setCell ⟨w.heap.size, 1, none⟩ c).setCell ⟨w.heap.size, 2, none⟩ d).drew.drew) := by
  refine RefPost.drew (RefPost.drew ?_)
  have hn : ∀ k, Ext F W2 wr k → ¬ (k = w.heap.size) := by
    intro k hk e
    rcases hk with hk | hk
    · have := hF k hk; omega
    · omega
  have f0 : Fr (fun k => k = w.heap.size) wr wr := Fr.refl _ _
  have f1 : Fr (fun k => k = w.heap.size) wr (wr.setCell ⟨w.heap.size, 0, none⟩ a) := f0.setCell (.inl rfl) a
  have f2 : Fr (fun k => k = w.heap.size) wr ((wr.setCell ⟨w.heap.size, 0, none⟩ a).setCell ⟨w.heap.size, 1, none⟩ c) := f1.setCell (.inl rfl) c
  have hf : Fr (fun k => k = w.heap.size) wr (((wr.setCell ⟨w.heap.size, 0, none⟩ a).setCell ⟨w.heap.size, 1, none⟩ c).setCell ⟨w.heap.size, 2, none⟩ d) := f2.setCell (.inl rfl) d
  have hh := RefPost.after_below hF hb2 h
  refine ⟨(h.1.fr hf hn).mono (fun k hk => ?_) (hF.ext ?_), ?_⟩
  · have := hf.size
    have := hb2.size
    rcases hk with hk | hk
    · exact .inl hk
    · exact .inr ⟨by omega, by omega⟩
  · exact Nat.le_trans (Nat.le_trans hb2.size h.2.size) hf.size
  · exact hh.2.trans hf fun i hi e => by omega

set_option maxHeartbeats 1000000 in
theorem refServe_none (b : Nat) (id : Int) (x : FlS) (F : Nat → Prop) (w : World) (h : RefAt w b id x F) (hl : x.l = []) :
    Calls Try.prog 68 #[.pointer (some ⟨b, 0, none⟩)] w fun e w' => e = .returned (.tuple #[Pk.zero.val, .int .u64 0, .bool false]) ∧ Below w.heap.size w w' := by
  obtain ⟨ao, cap, hb, ho, -⟩ := h
  have hlt := hb.lt
  rw [hl] at hb
  have c3 := hb.cell 3
  simp only [List.getElem?_cons_succ, List.getElem?_cons_zero, List.length_nil] at c3
  clear hl hb ho
  go_enter Try.func68, Try.ntmps68
  go_wp2
  refine bodyPost_ret (v := .tuple #[.agg #[.int .i64 0, .int .i64 0, .int .i64 0], .int .u64 0, .bool false]) (by simp [results, Try.results68, go_sem]) rfl ⟨rfl, ?_⟩
  repeat (first | exact Below.refl _ _ | refine Below.setCell ?_ (by simp) _ | refine Below.alloc ?_ (by simp) _)

theorem rest_rd {w : World} {e : TypeId} {g cap : Nat} {p : Pk} {rest : List Pk} (h : w.ownsRow 0 e 3 (.slice (some ⟨g, 0, none⟩) (rest.length + 1) cap) (rest.length + 1) (p.cells ++ pks rest)) :
    (cap = 1 ∧ rest.length = 0 ∧ RdS w (some ⟨g, 0, none⟩) 0 0 3 (pks rest)) ∨ (2 ≤ cap ∧ RdS w (some ⟨g, 3, none⟩) rest.length (cap - 1) 3 (pks rest)) := by
  have hc := (owns_cap h).2.1
  rcases (show cap = 1 ∨ 2 ≤ cap by omega) with e | e
  · left
    have h0 : rest.length = 0 := by omega
    have e2 := List.eq_nil_of_length_eq_zero h0
    exact ⟨e, h0, by rw [e2]; exact ⟨rfl, by omega, (fun h => by cases h), by omega, pks_one _, fun j u hu => by cases hu⟩⟩
  · exact .inr ⟨e, owns_rest h⟩

set_option maxHeartbeats 2000000 in
theorem refServe_some (b : Nat) (id : Int) (x : FlS) (F : Nat → Prop) (w : World) (p : Pk) (rest : List Pk) (h : RefAt w b id x F) (ok : x.Ok) (hl : x.l = p :: rest) :
    Calls Try.prog 68 #[.pointer (some ⟨b, 0, none⟩)] w fun e w' => e = .returned (.tuple #[p.val, .int .u64 (x.fin p), .bool true]) ∧ RefPost b id (x.stepped p rest 3) F w w' := by
  have hp := ok.pk p (by rw [hl]; simp)
  have hr := ok.r
  have hs := ok.start
  have hc : W64 (costOf p.len x.r) := costOf_w64 hr
  have hn : p.len ≤ 9223372036854775807 := hp.2.1.2
  have hr8 : rest.length + 1 ≤ 8 := by have h1 := ok.m8; have h2 := ok.len; rw [hl] at h2; simp at h2; omega
  obtain ⟨g, cap, hb, ho, hFb, hFg, hne, hF, hcap, f0, f1, f2⟩ := h.first hl
  have hlt := hb.lt
  have hlg : g < w.heap.size := hF g hFg
  have c2 := hb.cell 2
  have c3 := hb.cell 3
  have c4 := hb.cell 4
  have c5 := hb.cell 5
  have i1 : (0 : Int) < ((rest.length + 1 : Nat) : Int) := by omega
  have e1 : (((rest.length + 1 : Nat) : Int) == 0) = false := by simp; omega
  simp only [List.getElem?_cons_succ, List.getElem?_cons_zero] at c2 c3 c4 c5
  have hcase := rest_rd ho
  have hfz := hb.frozen
  have HB := Lib.hid hb
  have Z0 := Lib.hid (Blk.new w [.int .i64 0, .int .i64 0, .int .i64 0] 55)
  have Q0 := Lib.hid (Blk.new (w.alloc (.cells #[.int .i64 0, .int .i64 0, .int .i64 0] 55)) [.int .i64 p.flow, .int .i64 p.len, .int .i64 p.mark] 55)
  have HA := Lib.hid (below1 (w.alloc (.cells #[.int .i64 0, .int .i64 0, .int .i64 0] 55)) (.cells #[.int .i64 p.flow, .int .i64 p.len, .int .i64 p.mark] 55))
  clear hb ho hl h hp ok
  have H2 := Lib.hid ((below1 w (.cells #[.int .i64 0, .int .i64 0, .int .i64 0] 55)).trans (HA.out.mono (by simp)))
  rcases hcase with ⟨hcp, h0, HR⟩ | ⟨hcp, HR⟩
  · subst hcp
    have hre := List.eq_nil_of_length_eq_zero h0
    subst hre
    clear h0
    go_enter Try.func68, Try.ntmps68
    go_wp2_with fail
    have hW : ((w.setCell ⟨b, 3, none⟩ (.slice none 0 0)).alloc (.cells #[.int .i64 0, .int .i64 0, .int .i64 0] 55)).alloc (.cells #[.int .i64 p.flow, .int .i64 p.len, .int .i64 p.mark] 55) = ((w.alloc (.cells #[.int .i64 0, .int .i64 0, .int .i64 0] 55)).alloc (.cells #[.int .i64 p.flow, .int .i64 p.len, .int .i64 p.mark] 55)).setCell ⟨b, 3, none⟩ (.slice none 0 0) := by
      rw [World.setCell_alloc_past _ _ _ _ (by simp; omega), World.setCell_alloc_past _ _ _ _ hlt]
    have BW := (HB.out.below H2.out).set 3 (.slice none 0 0)
    have QW := Q0.out.set_far (a := ⟨b, 3, none⟩) (by simp; omega) (.slice none 0 0)
    have ZW := (Z0.out.below HA.out).set_far (a := ⟨b, 3, none⟩) (by simp; omega) (.slice none 0 0)
    have R3 := rl_post (x := x) (l' := []) (hF.mono H2.out.size) hFb (Fr.refl _ _) ⟨_, HB.out.below H2.out⟩ (World.ownsRow_nil _ _ _ _)
    simp only [List.set_cons_succ, List.set_cons_zero] at BW
    rw [show (w.alloc (.cells #[.int .i64 0, .int .i64 0, .int .i64 0] 55)).heap.size = w.heap.size + 1 by simp] at QW
    rw [← hW] at BW QW ZW R3
    generalize ((w.setCell ⟨b, 3, none⟩ (.slice none 0 0)).alloc (.cells #[.int .i64 0, .int .i64 0, .int .i64 0] 55)).alloc (.cells #[.int .i64 p.flow, .int .i64 p.len, .int .i64 p.mark] 55) = W at *
    have HR3 := Lib.hid R3
    clear R3 hW
    have hzW : w.heap.size < W.heap.size := by have := HR3.out.2.size; have := ZW.lt; omega
    have hbl : b < W.heap.size := by omega
    have hqn : w.heap.size + 1 ≠ w.heap.size := by omega
    have hbn : b ≠ w.heap.size := by omega
    have hbq : b ≠ w.heap.size + 1 := by omega
    have c2 := BW.cell 2
    have c4 := BW.cell 4
    have c5 := BW.cell 5
    have hfz := BW.frozen
    have q0 := QW.cell 0
    have q1 := QW.cell 1
    have q2 := QW.cell 2
    have z0 := ZW.cell 0
    have z1 := ZW.cell 1
    have z2 := ZW.cell 2
    have zz := ZW.frozen
    simp only [List.getElem?_cons_succ, List.getElem?_cons_zero] at c2 c4 c5 q0 q1 q2 z0 z1 z2
    clear BW QW ZW
    go_still_tail 13, (by kernel_rfl)
    still_call ((refCost_any _ _ hn hr _).mono fun e w' h => ⟨h.1, h.2.symm⟩)
    still_call ((refAdd_any _ _ hs hc _).mono fun e w' h => ⟨h.1, h.2.symm⟩)
    refine wpStill_nil ?_
    change wpList _ _ _ _ _ (World.drew _)
    go_wp2_with fail
    go_region
    all_goals
      go_wp2
      refine bodyPost_ret (v := .tuple #[.agg #[.int .i64 p.flow, .int .i64 p.len, .int .i64 p.mark], .int .u64 (x.fin p), .bool true]) (by simp [results, Try.results68, go_sem, z0, z1, z2]; rfl) rfl ⟨rfl, ?_⟩
      exact refServe_end H2.out hF (by simp; omega) ((HR3.out.finish hFb _).start hFb _)
  · have hrest := rds_at (HR.below H2.out)
    have HRS := Lib.hid (HR.below H2.out)
    clear hrest HR
    have hn2 : 0 + rest.length ≤ 1099511627776 := by omega
    go_enter Try.func68, Try.ntmps68
    go_wp2_with ((at_builtin; refine ap_src ((w.alloc (.cells #[.int .i64 0, .int .i64 0, .int .i64 0] 55)).alloc (.cells #[.int .i64 p.flow, .int .i64 p.len, .int .i64 p.mark] 55)) EP rfl _ _ rfl (w.heap.size + 2) _ 0 [] rfl (World.ownsRow_nil _ _ _ _) (by simp) (some ⟨g, 3, none⟩) rest.length (cap - 1) (pks rest) rfl HRS.out.nil (pks_length _) (rds_at HRS.out) (pks_one _) hn2 ?_; intro v3 w3 hown3 hg3 hb3 hfr3; simp only [Nat.zero_add, List.nil_append] at hown3; obtain ⟨a3, c3', rfl⟩ := owns_slice hown3; have hb3' := hb3.mono (show _ ≤ _ from (by simp : ((w.alloc (.cells #[.int .i64 0, .int .i64 0, .int .i64 0] 55)).alloc (.cells #[.int .i64 p.flow, .int .i64 p.len, .int .i64 p.mark] 55)).heap.size ≤ w.heap.size + 2)); have HB3 := Lib.hid ((HB.out.below H2.out).below hb3'); have HQ3 := Lib.hid (Q0.out.below hb3'); have HZ3 := Lib.hid ((Z0.out.below HA.out).below hb3'); have d3 := HB3.out.cell 3; have dz := HB3.out.frozen; simp only [List.getElem?_cons_succ, List.getElem?_cons_zero] at d3))
    have BW := HB3.out.set 3 (.slice a3 rest.length c3')
    have QW := HQ3.out.set_far (a := ⟨b, 3, none⟩) (by simp; omega) (.slice a3 rest.length c3')
    have ZW := HZ3.out.set_far (a := ⟨b, 3, none⟩) (by simp; omega) (.slice a3 rest.length c3')
    have R3 := rl_post (x := x) (l' := rest) (hF.mono H2.out.size) hFb (Fr.of_below hb3') ⟨_, HB3.out⟩ (owns_base hown3 (by simp))
    simp only [List.set_cons_succ, List.set_cons_zero] at BW
    rw [show (w.alloc (.cells #[.int .i64 0, .int .i64 0, .int .i64 0] 55)).heap.size = w.heap.size + 1 by simp] at QW
    generalize w3.setCell ⟨b, 3, none⟩ (.slice a3 rest.length c3') = W at *
    have HR3 := Lib.hid R3
    clear R3
    have hzW : w.heap.size < W.heap.size := by have := HR3.out.2.size; have := ZW.lt; omega
    have hbl : b < W.heap.size := by omega
    have hqn : w.heap.size + 1 ≠ w.heap.size := by omega
    have hbn : b ≠ w.heap.size := by omega
    have hbq : b ≠ w.heap.size + 1 := by omega
    have c2 := BW.cell 2
    have c4 := BW.cell 4
    have c5 := BW.cell 5
    have hfz := BW.frozen
    have q0 := QW.cell 0
    have q1 := QW.cell 1
    have q2 := QW.cell 2
    have z0 := ZW.cell 0
    have z1 := ZW.cell 1
    have z2 := ZW.cell 2
    have zz := ZW.frozen
    simp only [List.getElem?_cons_succ, List.getElem?_cons_zero] at c2 c4 c5 q0 q1 q2 z0 z1 z2
    clear BW QW ZW
    go_still_tail 13, (by kernel_rfl)
    still_call ((refCost_any _ _ hn hr _).mono fun e w' h => ⟨h.1, h.2.symm⟩)
    still_call ((refAdd_any _ _ hs hc _).mono fun e w' h => ⟨h.1, h.2.symm⟩)
    refine wpStill_nil ?_
    change wpList _ _ _ _ _ (World.drew _)
    go_wp2_with fail
    go_region
    all_goals
      go_wp2
      refine bodyPost_ret (v := .tuple #[.agg #[.int .i64 p.flow, .int .i64 p.len, .int .i64 p.mark], .int .u64 (x.fin p), .bool true]) (by simp [results, Try.results68, go_sem, z0, z1, z2]; rfl) rfl ⟨rfl, ?_⟩
      exact refServe_end H2.out hF (by simp; omega) ((HR3.out.finish hFb _).start hFb _)
end Go.Proofs.Ytfgfjnlkgadkhaa
