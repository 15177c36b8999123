/- Several texts in one: Set15. -/
import Derived.Test.YtdjooacjjnjfmaaGreatKa
-- law15: a cell of a row of calls turns.
section
namespace Go.Proofs.YtdjooacjjnjfmaaGreat
set_option linter.unusedVariables false
set_option linter.unusedSimpArgs false
set_option maxRecDepth 20000
open Go.RowKit Go.Proofs.YtdjooacjjnjfmaaGreatMem Go.Proofs.YtdjooacjjnjfmaaGreatMapK Go.Proofs.YtdjooacjjnjfmaaGreatLin H

theorem owns_set1 {w : World} {base : Nat} {e : TypeId} {g n cap s j : Nat} {xs : List Value} (h : w.ownsRow base e s (.slice (some ⟨g, 0, none⟩) n cap) n xs) (hj : j < n * s) (u : Value) :
    (w.setCell ⟨g, j, none⟩ u).ownsRow base e s (.slice (some ⟨g, 0, none⟩) n cap) n (xs.set j u) := by
  rcases h.2 with ⟨hv, _⟩ | ⟨g', cap', cur, hv, hb, hh, hnc, hm, hs, ht⟩
  · simp at hv
  · simp only [Value.slice.injEq, Option.some.injEq, Addr.mk.injEq, and_true, true_and] at hv
    obtain ⟨rfl, rfl⟩ := hv
    refine ⟨by rw [List.length_set]; exact h.1, .inr ⟨g, cap, cur.setIfInBounds j u, rfl, hb, by simp [World.setCell, Array.getElem?_modify, hh], hnc, hm, by rw [Array.size_setIfInBounds]; exact hs, ?_⟩⟩
    rw [Array.toList_setIfInBounds, List.take_set, ht]
theorem recs_set1 {α : Type} {f : α → List Value} {s : Nat} (hf : ∀ x, (f x).length = s) : ∀ (l : List α) (k i : Nat) (x y : α) (u : Value), l[k]? = some y → i < s → (f y).set i u = f x → (l.flatMap f).set (k * s + i) u = (l.set k x).flatMap f
  | [], k, i, x, y, u, h, _, _ => by simp at h
  | z :: l, 0, i, x, y, u, h, hi, he => by
    simp only [List.getElem?_cons_zero, Option.some.injEq] at h
    subst h
    simp only [List.flatMap_cons, List.set_cons_zero, Nat.zero_mul, Nat.zero_add]
    rw [List.set_append_left _ _ (by rw [hf]; exact hi), he]
  | z :: l, k + 1, i, x, y, u, h, hi, he => by
    simp only [List.getElem?_cons_succ] at h
    have ih := recs_set1 hf l k i x y u h hi he
    simp only [List.flatMap_cons, List.set_cons_succ]
    rw [List.set_append_right _ _ (by rw [hf, Nat.succ_mul]; omega), hf, show (k + 1) * s + i - s = k * s + i by rw [Nat.succ_mul]; omega, ih]
section
variable {w : World} {base g n cap k i : Nat} {l : List DoneS} {d' : DoneS} {u : Value}
theorem ownDs_set1 (h : OwnDs w base (.slice (some ⟨g, 0, none⟩) n cap) l) (hn : l.length = n) (hk : k < n) (hi : i < 12) (he : (nthD l k).cells.set i u = d'.cells) (hd : OwnK w base d') :
    OwnDs (w.setCell ⟨g, k * 12 + i, none⟩ u) base (.slice (some ⟨g, 0, none⟩) n cap) (l.set k d') := by
  have h1 := h.1
  rw [hn] at h1
  have hg : w.grownBy (w.setCell ⟨g, k * 12 + i, none⟩ u) (some g) := ⟨rfl, rfl, rfl, by simp [World.setCell], fun q _ hq => Below.heap_setCell w ⟨g, k * 12 + i, none⟩ u q fun e => hq (by rw [e])⟩
  have hne : ∀ d, OwnK w base d → OwnK (w.setCell ⟨g, k * 12 + i, none⟩ u) base d := fun d hd => ⟨owns_grown hd.1 hg fun q hq => by
    have := tag_ne h.1 hd.1 (by decide) q hq
    exact this, hd.2⟩
  refine ⟨?_, fun d hd' => ?_⟩
  · rw [List.length_set, hn]
    have := owns_set1 h1 (j := k * 12 + i) (by omega) u
    have e := recs_set1 doneS_cells l k i d' (nthD l k) u (nthD_some (by omega)) hi he
    unfold doneC at this ⊢
    rw [e] at this
    exact this
  · rcases List.mem_or_eq_of_mem_set hd' with hd' | rfl
    · exact hne d (h.2 d hd')
    · exact hne _ hd
theorem ownDs_at12 (h : OwnDs w base (.slice (some ⟨g, 0, none⟩) n cap) l) (hn : l.length = n) (hk : k < n) (hi : i < 12) : w.cell? ⟨g, k * 12 + i, none⟩ = (nthD l k).cells[i]? ∧ w.frozen? ⟨g, k * 12 + i, none⟩ = false := by
  have h1 := h.1
  rw [hn] at h1
  obtain ⟨u, hu⟩ : ∃ u, (nthD l k).cells[i]? = some u := ⟨(nthD l k).cells[i]'(by rw [doneS_cells]; exact hi), by simp [List.getElem?_eq_getElem, doneS_cells, hi]⟩
  have e := recs_at doneS_cells l k (nthD l k) (nthD_some (by omega)) i u hu
  rw [hu]
  obtain ⟨g', e1, -, -, e2⟩ := owns_at h1 (u := u) e
  simp only [Option.some.injEq, Addr.mk.injEq, and_true] at e1
  subst e1
  rw [Nat.zero_add] at e2
  exact ⟨e2, h1.frozenAt _⟩
end
theorem CfgIn.far {w W : World} {c : Cfg} {g i : Nat} (h : CfgIn w W c) (hg : w.heap.size < g) (u : Value) : CfgIn w (W.setCell ⟨g, i, none⟩ u) c := ⟨h.bel.setCell (p := ⟨g, i, none⟩) (Nat.le_of_lt hg) u, h.box.set_far (a := ⟨g, i, none⟩) (by show w.heap.size ≠ g; omega) u⟩
theorem fnd_lt_found {c : Cfg} {l : List DoneS} {q : List Nat} (h : foundB c l = some q) : ∀ i ∈ q, i < 12 := by
  have h12 := (found_fits h).2.2
  unfold foundB at h
  split at h
  · intro i hi
    have := fnd_lt (m := MdS.new) h i hi
    omega
  · cases h
theorem nthD_set {l : List DoneS} {k : Nat} (hk : k < l.length) (d : DoneS) : nthD (l.set k d) k = d := by unfold nthD; simp [hk]
end Go.Proofs.YtdjooacjjnjfmaaGreat
end
