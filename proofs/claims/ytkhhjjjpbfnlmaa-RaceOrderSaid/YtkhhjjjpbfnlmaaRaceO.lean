/- A list of clocks in memory: how it reads, and one in memory of its own. -/
import Derived.Test.YtkhhjjjpbfnlmaaRaceS
namespace Go.Proofs.Ytkhhjjjpbfnlmaa
set_option linter.unusedVariables false
set_option linter.unusedSimpArgs false
open Go.RowKit Go.Proofs.YtkhhjjjpbfnlmaaMem Go.Proofs.YtkhhjjjpbfnlmaaFlat

def nthV (vs : List Value) (k : Nat) : Value := vs.getD k (.slice none 0 0)
theorem nthV_some {vs : List Value} {k : Nat} (h : k < vs.length) : vs[k]? = some (nthV vs k) := by simp [nthV, h]
theorem nthC_append_lt {cs ds : List (List Int)} {k : Nat} (h : k < cs.length) : nthC (cs ++ ds) k = nthC cs k := by
  simp only [nthC, List.getD_eq_getElem?_getD]; rw [List.getElem?_append_left h]
theorem nthC_append_at (cs : List (List Int)) (c : List Int) : nthC (cs ++ [c]) cs.length = c := by
  simp [nthC, List.getD_eq_getElem?_getD]
theorem nthV_append_lt {cs ds : List Value} {k : Nat} (h : k < cs.length) : nthV (cs ++ ds) k = nthV cs k := by
  simp only [nthV, List.getD_eq_getElem?_getD]; rw [List.getElem?_append_left h]
theorem nthV_append_at (cs : List Value) (c : Value) : nthV (cs ++ [c]) cs.length = c := by
  simp [nthV, List.getD_eq_getElem?_getD]

theorem EC : ElT Try.prog 30 23 (.slice none 0 0) 1 := ⟨Try.underlying30, ⟨24, by kernel_rfl, by omega⟩, rfl, by omega⟩

/-- What a slice of clocks reads as. -/
structure RdC (w : World) (ao : Option Addr) (n cap : Nat) (cs : List (List Int)) : Prop where
  len : cs.length = n
  le : n ≤ cap
  nil : ao = none → n = 0 ∧ cap = 0
  small : n ≤ 9223372036854775807
  at_ : ∀ k, k < n → ∃ b off a c, ao = some ⟨b, off, none⟩ ∧ b < w.heap.size ∧ w.cell? ⟨b, off + k, none⟩ = some (.slice a (nthC cs k).length c) ∧ RdI w a (nthC cs k).length c (nthC cs k)
theorem RdC.below {w w' : World} {ao : Option Addr} {n cap : Nat} {cs : List (List Int)} (h : RdC w ao n cap cs) (hb : Below w.heap.size w w') : RdC w' ao n cap cs :=
  ⟨h.len, h.le, h.nil, h.small, fun k hk => let ⟨b, off, a, c, e, hlt, hc, hr⟩ := h.at_ k hk; ⟨b, off, a, c, e, Nat.lt_of_lt_of_le hlt hb.size, (hb.cell (p := ⟨b, off + k, none⟩) hlt).trans hc, RdI.below (B := 0) hr hb⟩⟩
theorem nil_rdC (w : World) : RdC w none 0 0 [] := ⟨rfl, Nat.le_refl _, fun _ => ⟨rfl, rfl⟩, by omega, fun k hk => by omega⟩

/-- In memory of its own: the rows, and each clock; no two in one block. -/
def OwnCs (w : World) (base M : Nat) (v : Value) (cs : List (List Int)) : Prop :=
  ∃ vs : List Value, w.ownsRow base 23 1 v cs.length vs ∧
    (∀ i, i < cs.length → w.ownsRow base 3 1 (nthV vs i) (nthC cs i).length (ints (nthC cs i))) ∧
    (∀ i k, i < cs.length → (nthV vs i).ownBlock = some k → k < M) ∧
    (∀ i j k, i < cs.length → j < cs.length → i ≠ j → (nthV vs i).ownBlock = some k → (nthV vs j).ownBlock ≠ some k)
theorem own_heap {w : World} {base : Nat} {e : TypeId} {size : Nat} {v : Value} {n : Nat} {xs : List Value} (h : w.ownsRow base e size v n xs) {k : Nat} (hk : v.ownBlock = some k) : ∃ cur, w.heap[k]? = some (.cells cur e (0, 0)) := by
  rcases h.2 with ⟨rfl, _⟩ | ⟨g, cap, cur, rfl, _, hh, _⟩
  · cases hk
  · cases hk; exact ⟨cur, hh⟩
theorem tag_ne {w : World} {b1 b2 : Nat} {e1 e2 : TypeId} {s1 s2 n1 n2 : Nat} {v1 v2 : Value} {xs ys : List Value} (h1 : w.ownsRow b1 e1 s1 v1 n1 xs) (h2 : w.ownsRow b2 e2 s2 v2 n2 ys) (hne : e1 ≠ e2) : ∀ k, v2.ownBlock = some k → v1.ownBlock ≠ some k := by
  intro k h3 h4
  obtain ⟨c1, e⟩ := own_heap h1 h4
  obtain ⟨c2, e'⟩ := own_heap h2 h3
  rw [e] at e'
  simp only [Option.some.injEq, Obj.cells.injEq] at e'
  exact hne e'.2.1
theorem OwnCs.below {w w' : World} {base M : Nat} {v : Value} {cs : List (List Int)} (h : OwnCs w base M v cs) (hb : Below w.heap.size w w') : OwnCs w' base M v cs :=
  let ⟨vs, h1, h2, h3, h4⟩ := h
  ⟨vs, owns_below (B := 0) h1 hb, fun i hi => owns_below (B := 0) (h2 i hi) hb, h3, h4⟩
theorem OwnCs.mono {w : World} {base M M' : Nat} {v : Value} {cs : List (List Int)} (h : OwnCs w base M v cs) (hm : M ≤ M') : OwnCs w base M' v cs :=
  let ⟨vs, h1, h2, h3, h4⟩ := h
  ⟨vs, h1, h2, fun i k hi hk => Nat.lt_of_lt_of_le (h3 i k hi hk) hm, h4⟩
theorem OwnCs.nil (w : World) (base M : Nat) : OwnCs w base M (.slice none 0 0) [] :=
  ⟨[], World.ownsRow_nil _ _ _ _, fun i hi => by simp at hi, fun i k hi => by simp at hi, fun i j k hi => by simp at hi⟩
theorem OwnCs.slice {w : World} {base M : Nat} {v : Value} {cs : List (List Int)} (h : OwnCs w base M v cs) : ∃ ao cap, v = .slice ao cs.length cap := by
  obtain ⟨vs, h1, _⟩ := h
  exact owns_slice h1

/-- Appended to. -/
theorem OwnCs.push {w w' : World} {base M n m : Nat} {v v' vt : Value} {cs : List (List Int)} {c : List Int} {vs : List Value} (hn : cs.length = n) (hm : c.length = m)
    (h1 : w.ownsRow base 23 1 v n vs) (h2 : ∀ i, i < cs.length → w.ownsRow base 3 1 (nthV vs i) (nthC cs i).length (ints (nthC cs i)))
    (h3 : ∀ i k, i < cs.length → (nthV vs i).ownBlock = some k → k < M)
    (h4 : ∀ i j k, i < cs.length → j < cs.length → i ≠ j → (nthV vs i).ownBlock = some k → (nthV vs j).ownBlock ≠ some k)
    (hc : w.ownsRow M 3 1 vt m (ints c)) (hM : base ≤ M)
    (ho : w'.ownsRow base 23 1 v' (n + 1) (vs ++ [vt])) (hg : w.grownBy w' v.ownBlock) : OwnCs w' base w'.heap.size v' (cs ++ [c]) := by
  subst hn; subst hm
  have hl : vs.length = cs.length := by have := h1.1; omega
  have hne : 23 ≠ 3 := by decide
  have key : ∀ {b2 : Nat} {u : Value} {m : Nat} {ys : List Value}, w.ownsRow b2 3 1 u m ys → w'.ownsRow b2 3 1 u m ys := fun h => owns_grown h hg (tag_ne h1 h hne)
  have hat : nthV (vs ++ [vt]) cs.length = vt := by rw [← hl]; exact nthV_append_at vs vt
  refine ⟨vs ++ [vt], by simpa using ho, ?_, ?_, ?_⟩
  · intro i hi
    by_cases hlt : i < cs.length
    · rw [nthV_append_lt (by omega), nthC_append_lt hlt]; exact key (h2 i hlt)
    · have : i = cs.length := by simp at hi; omega
      subst this
      rw [hat, nthC_append_at]; exact owns_base (key hc) hM
  · intro i k hi hk
    by_cases hlt : i < cs.length
    · rw [nthV_append_lt (by omega)] at hk; exact Nat.lt_of_lt_of_le (owns_lt (h2 i hlt) k hk).2 hg.size
    · have : i = cs.length := by simp at hi; omega
      subst this
      rw [hat] at hk; exact (owns_lt (key hc) k hk).2
  · intro i j k hi hj hij hk hk'
    simp only [List.length_append, List.length_cons, List.length_nil] at hi hj
    by_cases hlt : i < cs.length
    · rw [nthV_append_lt (by omega)] at hk
      by_cases hjl : j < cs.length
      · rw [nthV_append_lt (by omega)] at hk'; exact h4 i j k hlt hjl hij hk hk'
      · have : j = cs.length := by omega
        subst this
        rw [hat] at hk'
        have := h3 i k hlt hk; have := (owns_lt hc k hk').1; omega
    · have : i = cs.length := by omega
      subst this
      rw [hat] at hk
      rw [nthV_append_lt (by omega)] at hk'
      have := h3 j k (by omega) hk'; have := (owns_lt hc k hk).1; omega

theorem OwnCs.at_ {w : World} {base M : Nat} {v : Value} {cs : List (List Int)} (h : OwnCs w base M v cs) (hf : ∀ c ∈ cs, ∀ z ∈ c, I64 z) {k : Nat} (hk : k < cs.length) :
    ∃ g cap a c, v = .slice (some ⟨g, 0, none⟩) cs.length cap ∧ g < w.heap.size ∧ w.cell? ⟨g, k, none⟩ = some (.slice a (nthC cs k).length c) ∧ RdI w a (nthC cs k).length c (nthC cs k) := by
  obtain ⟨vs, h1, h2, _, _⟩ := h
  obtain ⟨ao, cap, rfl⟩ := owns_slice h1
  have hl : vs.length = cs.length := by have := h1.1; omega
  obtain ⟨g, rfl, _, hlt, hc⟩ := owns_at h1 (nthV_some (show k < vs.length by omega))
  have hi := h2 k hk
  obtain ⟨a, c, e⟩ := owns_slice hi
  rw [e] at hi hc
  rw [Nat.zero_add] at hc
  refine ⟨g, cap, a, c, rfl, hlt, hc, owns_rdI hi (hf _ ?_)⟩
  rw [nthC_eq hk]; exact List.getElem_mem hk
theorem OwnCs.rd {w : World} {base M : Nat} {ao : Option Addr} {n cap : Nat} {cs : List (List Int)} (h : OwnCs w base M (.slice ao n cap) cs) (hf : ∀ c ∈ cs, ∀ z ∈ c, I64 z) : RdC w ao n cap cs := by
  have h' := h
  obtain ⟨vs, h1, h2, _, _⟩ := h'
  obtain ⟨e, hc1, hc2, hc3⟩ := owns_cap h1
  subst e
  refine ⟨rfl, hc1, hc3, by unfold maxLen at hc2; omega, fun k hk => ?_⟩
  obtain ⟨g, cap', a, c, hv, hlt, hc, hr⟩ := h.at_ hf hk
  simp only [Value.slice.injEq] at hv
  obtain ⟨rfl, _, _⟩ := hv
  exact ⟨g, 0, a, c, rfl, hlt, by rw [Nat.zero_add]; exact hc, hr⟩

/-- A call that hands back clocks in memory of its own. -/
def RetCs (w : World) (cs : List (List Int)) (en : Ending) (w' : World) : Prop := ∃ v, en = .returned v ∧ OwnCs w' w.heap.size w'.heap.size v cs ∧ Below w.heap.size w w'
end Go.Proofs.Ytkhhjjjpbfnlmaa
