/- Slices of records of plain cells: how the k-th one reads. -/
import Derived.Test.YtonldjkmbapjeaaObj
import Derived.Test.YtonldjkmbapjeaaFlat
namespace Go.Proofs.YtonldjkmbapjeaaMem
set_option linter.unusedVariables false
set_option linter.unusedSimpArgs false
open Go Go.RowKit Go.Proofs.YtonldjkmbapjeaaFlat

theorem recs_at {α : Type} {f : α → List Value} {s : Nat} (hf : ∀ x, (f x).length = s) : ∀ (l : List α) (k : Nat) (x : α), l[k]? = some x → ∀ i u, (f x)[i]? = some u → (l.flatMap f)[k * s + i]? = some u := by
  intro l
  induction l with
  | nil => intro k x h; simp at h
  | cons y l ih =>
    intro k x h i u hu
    rw [List.flatMap_cons]
    cases k with
    | zero =>
      simp at h; subst h
      have hi : i < (f y).length := (List.getElem?_eq_some_iff.1 hu).1
      rw [Nat.zero_mul, Nat.zero_add, List.getElem?_append_left hi]; exact hu
    | succ k =>
      simp at h
      rw [List.getElem?_append_right (by rw [hf, Nat.succ_mul]; omega), hf, show (k + 1) * s + i - s = k * s + i by rw [Nat.succ_mul]; omega]
      exact ih k x h i u hu
theorem recs_length {α : Type} {f : α → List Value} {s : Nat} (hf : ∀ x, (f x).length = s) (l : List α) : (l.flatMap f).length = l.length * s := by
  induction l with
  | nil => simp
  | cons x l ih => rw [List.flatMap_cons, List.length_append, hf, ih, List.length_cons, Nat.succ_mul]; omega

theorem rds_rec {α : Type} {f : α → List Value} {s : Nat} (hf : ∀ x, (f x).length = s) (hs : 0 < s) {w : World} {ao : Option Addr} {n cap : Nat} {l : List α} (h : RdS w ao n cap s (l.flatMap f)) {k : Nat} {x : α} (hx : l[k]? = some x) :
    ∃ b off, ao = some ⟨b, off, none⟩ ∧ b < w.heap.size ∧ ∀ w', Below w.heap.size w w' → ∀ i u, (f x)[i]? = some u → w'.cell? ⟨b, off + k * s + i, none⟩ = some u := by
  have h0 : ∃ u, (f x)[0]? = some u := ⟨(f x)[0]'(by rw [hf]; exact hs), by simp [hf, hs]⟩
  obtain ⟨u0, h0⟩ := h0
  obtain ⟨b, off, e, hb, _⟩ := h.at_ _ _ (recs_at hf l k x hx 0 u0 h0)
  refine ⟨b, off, e, hb, fun w' hbl i u hu => ?_⟩
  obtain ⟨b', off', e', hb', hc⟩ := h.at_ _ _ (recs_at hf l k x hx i u hu)
  rw [e] at e'
  simp only [Option.some.injEq, Addr.mk.injEq, and_true] at e'
  obtain ⟨rfl, rfl⟩ := e'
  have h2 := hbl.cell (p := ⟨b, off + (k * s + i), none⟩) hb
  rw [← Nat.add_assoc] at h2 hc
  exact h2.trans hc

theorem kd_one {k : Kd} {v : Value} (h : KdOk k v) : v.oneCell' = true := by
  cases k with
  | bool => obtain ⟨b, rfl⟩ := h; rfl
  | int q => obtain ⟨n, rfl, _⟩ := h; rfl
theorem flat_one : ∀ {ks : List Kd} {cs : List Value}, FlatOk ks cs → ∀ u ∈ cs, u.oneCell' = true
  | [], cs, h, u, hu => by cases h; cases hu
  | k :: ks, cs, h, u, hu => by
    obtain ⟨c, r, rfl, hc, hr⟩ := h
    rcases List.mem_cons.1 hu with rfl | hu
    · exact kd_one hc
    · exact flat_one hr u hu
theorem flatten_at {s : Nat} : ∀ (L : List (List Value)), (∀ l ∈ L, l.length = s) → 0 < s → ∀ j u, L.flatten[j]? = some u → ∃ i r l, j = i * s + r ∧ L[i]? = some l ∧ l[r]? = some u := by
  intro L
  induction L with
  | nil => intro _ _ j u h; simp at h
  | cons l L ih =>
    intro hL hs j u h
    have hl : l.length = s := hL l (List.mem_cons_self ..)
    rw [List.flatten_cons] at h
    by_cases hj : j < s
    · rw [List.getElem?_append_left (by omega)] at h
      exact ⟨0, j, l, by omega, rfl, h⟩
    · rw [List.getElem?_append_right (by omega), hl] at h
      obtain ⟨i, r, l', e1, e2, e3⟩ := ih (fun l' h' => hL l' (List.mem_cons_of_mem _ h')) hs _ u h
      exact ⟨i + 1, r, l', by rw [Nat.succ_mul]; omega, by simpa using e2, e3⟩
theorem isRows_rdS {w : World} {ks : List Kd} {ao : Option Addr} {n cap : Nat} {L : List (List Value)} (hk : 0 < ks.length) (h : IsRows w ks ao n cap L) : RdS w ao n cap ks.length L.flatten := by
  obtain ⟨hl, hc, hm, hn, hf, hat⟩ := h
  have hlen : ∀ l ∈ L, l.length = ks.length := fun l h => (hf l h).length
  refine ⟨?_, hc, hn, by unfold maxLen at hm; omega, ?_, ?_⟩
  · have : L.flatten = L.flatMap id := by simp [List.flatMap]
    rw [← hl]
    clear hat hf hn hl
    induction L with
    | nil => simp
    | cons l L ih =>
      rw [List.flatten_cons, List.length_append, List.length_cons, Nat.succ_mul, hlen l (List.mem_cons_self ..), ih (fun l' h' => hlen l' (List.mem_cons_of_mem _ h')) (by simp)]
      omega
  · intro u hu
    obtain ⟨l, hl, hu⟩ := List.mem_flatten.1 hu
    exact flat_one (hf l hl) u hu
  · intro j u hu
    obtain ⟨i, r, l, e1, e2, e3⟩ := flatten_at L hlen hk j u hu
    have hi : i < L.length := (List.getElem?_eq_some_iff.1 e2).1
    obtain ⟨b, off, he, hb, hcell⟩ := hat (by omega)
    exact ⟨b, off, he, hb, by rw [e1]; exact hcell i l e2 r u e3⟩
end Go.Proofs.YtonldjkmbapjeaaMem
