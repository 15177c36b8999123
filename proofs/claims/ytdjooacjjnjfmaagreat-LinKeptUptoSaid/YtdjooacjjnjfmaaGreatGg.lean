/- Several texts in one: Sim. -/
import Derived.Test.YtdjooacjjnjfmaaGreatGe
-- The program's flows and the reference's, as plain data: they tell the same.
section
namespace Go.Proofs.YtdjooacjjnjfmaaGreat
set_option linter.unusedVariables false
set_option linter.unusedSimpArgs false
open Go.RowKit Go.Proofs.YtdjooacjjnjfmaaGreatMem Go.Proofs.YtdjooacjjnjfmaaGreatMapK

/-- The same flows, in whatever order the one has them; the other has them by rising numbers. -/
structure Sim (s t : SfS) : Prop where
  v : s.v = t.v
  most : s.most = t.most
  perm : s.fs.Perm t.fs
  rise : t.fs.Pairwise fun a c => a.1 < c.1
theorem Sim.tn {s t : SfS} (h : Sim s t) : (t.fs.map (·.1)).Nodup := by
  rw [List.Nodup, List.pairwise_map]
  exact h.rise.imp fun h e => by omega
theorem Sim.sn {s t : SfS} (h : Sim s t) : (s.fs.map (·.1)).Nodup := (h.perm.map (·.1)).nodup_iff.2 h.tn
theorem Sim.len {s t : SfS} (h : Sim s t) : s.fs.length = t.fs.length := h.perm.length_eq
theorem getF_iff {fs : List (Int × FlS)} (hn : (fs.map (·.1)).Nodup) {id : Int} {x : FlS} : getF fs id = some x ↔ (id, x) ∈ fs := by
  constructor
  · exact getF_mem
  · intro h
    induction fs with
    | nil => cases h
    | cons e l ih =>
      simp only [List.map_cons, List.nodup_cons] at hn
      unfold getF
      rw [List.find?_cons]
      rcases List.mem_cons.1 h with h | h
      · subst h; simp
      · have hne : e.1 ≠ id := fun e0 => hn.1 (List.mem_map.2 ⟨(id, x), h, e0.symm⟩)
        have hd : decide (e.1 = id) = false := decide_eq_false hne
        rw [hd]
        exact ih hn.2 h
theorem Sim.get {s t : SfS} (h : Sim s t) (id : Int) : getF s.fs id = getF t.fs id := by
  cases ht : getF t.fs id with
  | some x => exact (getF_iff h.sn).2 (h.perm.mem_iff.2 ((getF_iff h.tn).1 ht))
  | none =>
    cases hs : getF s.fs id with
    | none => rfl
    | some x => rw [(getF_iff h.tn).2 (h.perm.mem_iff.1 ((getF_iff h.sn).1 hs))] at ht; cases ht
theorem Sim.new : Sim SfS.new SfS.new := ⟨rfl, rfl, List.Perm.refl _, List.Pairwise.nil⟩
theorem getF_no {fs : List (Int × FlS)} {id : Int} (h : getF fs id = none) : ∀ e ∈ fs, e.1 ≠ id := by
  intro e he e1
  unfold getF at h
  simp only [Option.map_eq_none_iff, List.find?_eq_none, decide_eq_true_eq] at h
  exact h e he e1
theorem insF_rise {fs : List (Int × FlS)} {id : Int} {x : FlS} (hr : fs.Pairwise fun a c => a.1 < c.1) (hg : getF fs id = none) : (insF fs (id, x)).Pairwise fun a c => a.1 < c.1 := by
  have hno := getF_no hg
  show (fs.take (insK fs id) ++ (id, x) :: fs.drop (insK fs id)).Pairwise _
  refine pairwise_ins _ hr (fun e he => ?_) (fun e he => ?_)
  · obtain ⟨j, hj⟩ := List.getElem?_of_mem he
    have hjK : j < insK fs id := by
      rcases Nat.lt_or_ge j (insK fs id) with h | h
      · exact h
      · rw [List.getElem?_eq_none (by rw [List.length_take]; exact Nat.le_trans (Nat.min_le_left _ _) h)] at hj; cases hj
    rw [List.getElem?_take_of_lt hjK] at hj
    exact insK_lt hjK hj
  · obtain ⟨j, hj⟩ := List.getElem?_of_mem he
    have hne := hno e (List.mem_of_mem_drop he)
    rw [List.getElem?_drop] at hj
    show id < e.1
    rcases Nat.eq_zero_or_pos j with rfl | hj0
    · have := insK_at (fs := fs) (id := id) (e := e) (by simpa using hj)
      omega
    · have hKl : insK fs id < fs.length := by
        rcases Nat.lt_or_ge (insK fs id) fs.length with h | h
        · exact h
        · rw [List.getElem?_eq_none (by omega)] at hj; cases hj
      have h1 := insK_at (fs := fs) (id := id) (e := fs[insK fs id]) (List.getElem?_eq_getElem hKl)
      have hjl : insK fs id + j < fs.length := by
        rcases Nat.lt_or_ge (insK fs id + j) fs.length with h | h
        · exact h
        · rw [List.getElem?_eq_none h] at hj; cases hj
      rw [List.getElem?_eq_getElem hjl] at hj
      cases hj
      have := List.pairwise_iff_getElem.1 hr (insK fs id) (insK fs id + j) hKl hjl (by omega)
      omega
theorem Sim.add {s t : SfS} (h : Sim s t) (id r m : Int) : Sim (s.add id r m) (t.addR id r m) := by
  unfold SfS.add SfS.addR
  rw [h.get]
  cases hg : getF t.fs id with
  | some x => exact h
  | none => exact ⟨h.v, h.most, (h.perm.append_right _).trans (insF_perm t.fs (id, FlS.new r m)).symm, insF_rise h.rise hg⟩
theorem setF_fst (fs : List (Int × FlS)) (id : Int) (x : FlS) : (setF fs id x).map (·.1) = fs.map (·.1) := by
  unfold setF
  rw [List.map_map]
  refine List.map_congr_left fun e _ => ?_
  simp only [Function.comp]
  split
  · rename_i h; exact h.symm
  · rfl
theorem rise_map {fs : List (Int × FlS)} : fs.Pairwise (fun a c => a.1 < c.1) ↔ (fs.map (·.1)).Pairwise (· < ·) := by rw [List.pairwise_map]
theorem Sim.set {s t : SfS} (h : Sim s t) (v most id : Int) (x : FlS) : Sim ⟨v, most, setF s.fs id x⟩ ⟨v, most, setF t.fs id x⟩ :=
  ⟨rfl, rfl, h.perm.map _, by rw [rise_map]; show ((setF t.fs id x).map (·.1)).Pairwise _; rw [setF_fst]; exact rise_map.1 h.rise⟩
theorem Sim.arrive {s t : SfS} (h : Sim s t) (p : Pk) : Sim (s.arrive p) (t.arrive p) ∧ s.arriveE p = t.arriveE p := by
  unfold SfS.arrive SfS.arriveE
  rw [h.get, h.v, h.most]
  cases hg : getF t.fs p.flow with
  | none => exact ⟨h, rfl⟩
  | some x => exact ⟨h.set _ _ _ _, rfl⟩
theorem Sim.remove {s t : SfS} (h : Sim s t) (id : Int) : Sim (s.remove id) (t.remove id) ∧ s.removeE id = t.removeE id := by
  unfold SfS.remove SfS.removeE
  rw [h.get]
  cases hg : getF t.fs id with
  | none => exact ⟨h, rfl⟩
  | some x =>
    refine ⟨?_, rfl⟩
    simp only
    split
    · exact ⟨h.v, h.most, h.perm.filter _, h.rise.sublist List.filter_sublist⟩
    · exact h
theorem Sim.ent {s t : SfS} (h : Sim s t) : (entL s.fs).Perm (entL t.fs) := (h.perm.filter _).map _
theorem Sim.serve {s t : SfS} (h : Sim s t) : Sim s.serve t.serve ∧ s.has = t.has ∧ s.head = t.head := by
  have he := h.ent
  by_cases hn : entL t.fs = []
  · have hn' : entL s.fs = [] := by rw [hn] at he; exact he.eq_nil
    unfold SfS.serve SfS.has SfS.head
    rw [if_pos hn, if_pos hn', if_pos hn, if_pos hn', hn, hn']
    exact ⟨⟨by rw [h.v, h.most], h.most, h.perm, h.rise⟩, rfl, rfl⟩
  · have hn' : entL s.fs ≠ [] := fun e => hn (by rw [e] at he; exact he.symm.eq_nil)
    have hf : s.first = t.first := minK_perm he hn'
    have hhas : ∀ u : SfS, entL u.fs ≠ [] → u.has = true := fun u hu => by
      unfold SfS.has
      cases hx : entL u.fs with
      | nil => exact absurd hx hu
      | cons _ _ => rfl
    refine ⟨?_, by rw [hhas s hn', hhas t hn], ?_⟩
    · unfold SfS.serve
      rw [if_neg hn, if_neg hn', hf, h.get]
      cases hg : getF t.fs t.first.2 with
      | none => exact h
      | some x => simp only [h.most]; exact h.set _ _ _ _
    · unfold SfS.head
      rw [if_neg hn, if_neg hn', hf, h.get]
/-- Which flows there are. -/
def SfS.ids (s : SfS) : List Int := s.fs.map (·.1)
theorem Sim.idsE {s t : SfS} (h : Sim s t) : (s.ids.mergeSort fun x y => decide (x ≤ y)) = t.ids := by
  have tr : ∀ a b c : Int, decide (a ≤ b) = true → decide (b ≤ c) = true → decide (a ≤ c) = true := fun a b c h1 h2 => by simp only [decide_eq_true_eq] at *; omega
  have tot : ∀ a b : Int, (decide (a ≤ b) || decide (b ≤ a)) = true := fun a b => by simp only [Bool.or_eq_true, decide_eq_true_eq]; omega
  refine List.Perm.eq_of_pairwise (le := fun x y : Int => decide (x ≤ y) = true) (fun a b _ _ h1 h2 => by simp only [decide_eq_true_eq] at h1 h2; omega) (List.pairwise_mergeSort tr tot _) ?_ ((List.mergeSort_perm _ _).trans (h.perm.map _))
  exact (rise_map.1 h.rise).imp fun h => by simp only [decide_eq_true_eq]; omega
end Go.Proofs.YtdjooacjjnjfmaaGreat
end
