/- A set of flows: who is first, whatever the order; one packet served, as plain data. -/
import Derived.Test.YtfgfjnlkgadkhaaSfq5
namespace Go.Proofs.Ytfgfjnlkgadkhaa
set_option linter.unusedVariables false
set_option linter.unusedSimpArgs false
set_option maxRecDepth 20000
open Go.RowKit Go.Proofs.YtfgfjnlkgadkhaaMem Go.Proofs.YtfgfjnlkgadkhaaMapK

theorem aheadE_total {a c : Int × Int} (h1 : aheadE a c = false) (h2 : aheadE c a = false) : a = c := by
  unfold aheadE aheadB at h1 h2
  simp only [decide_eq_false_iff_not] at h1 h2
  obtain ⟨k, i⟩ := a
  obtain ⟨l, j⟩ := c
  simp only at h1 h2
  have : k = l := by omega
  have : i = j := by omega
  simp [*]
theorem aheadE_trans {a c d : Int × Int} (h1 : aheadE a c = true) (h2 : aheadE c d = true) : aheadE a d = true := by
  unfold aheadE aheadB at *
  simp only [decide_eq_true_eq] at *
  omega
theorem aheadE_negtrans {a c d : Int × Int} (h1 : aheadE a c = true) (h2 : aheadE d c = false) : aheadE d a = false := by
  unfold aheadE aheadB at *
  simp only [decide_eq_true_eq, decide_eq_false_iff_not] at *
  omega
theorem nthE_mem {l : List (Int × Int)} {k : Nat} (hk : k < l.length) : nthE l k ∈ l := by
  unfold nthE
  rw [List.getD_eq_getElem?_getD, List.getElem?_eq_getElem hk]
  exact List.getElem_mem hk
/-- m is the first of l. -/
def IsFirst (l : List (Int × Int)) (m : Int × Int) : Prop := m ∈ l ∧ ∀ e ∈ l, aheadE e m = false
theorem IsFirst.unique {l : List (Int × Int)} {m m' : Int × Int} (h : IsFirst l m) (h' : IsFirst l m') : m = m' := aheadE_total (h'.2 m h.1) (h.2 m' h'.1)
theorem IsFirst.perm {l l' : List (Int × Int)} {m : Int × Int} (h : IsFirst l m) (hp : List.Perm l l') : IsFirst l' m := ⟨hp.mem_iff.1 h.1, fun e he => h.2 e (hp.mem_iff.2 he)⟩
theorem minK_first (l : List (Int × Int)) : ∀ k, k ≤ l.length → 0 < k → minK l k ∈ l ∧ ∀ j, j < k → aheadE (nthE l j) (minK l k) = false
  | 0, _, h => absurd h (Nat.lt_irrefl _)
  | 1, hk, _ => by
    rw [minK_one]
    refine ⟨nthE_mem (by omega), fun j hj => ?_⟩
    obtain rfl : j = 0 := by omega
    exact aheadE_irrefl _
  | k + 2, hk, _ => by
    obtain ⟨h1, h2⟩ := minK_first l (k + 1) (by omega) (by omega)
    have he : minK l (k + 2) = if aheadE (nthE l (k + 1)) (minK l (k + 1)) = true then nthE l (k + 1) else minK l (k + 1) := rfl
    rw [he]
    by_cases ha : aheadE (nthE l (k + 1)) (minK l (k + 1)) = true
    · rw [if_pos ha]
      refine ⟨nthE_mem (by omega), fun j hj => ?_⟩
      by_cases hj' : j = k + 1
      · subst hj'; exact aheadE_irrefl _
      · exact aheadE_negtrans ha (h2 j (by omega))
    · rw [if_neg ha]
      refine ⟨h1, fun j hj => ?_⟩
      by_cases hj' : j = k + 1
      · subst hj'; simpa using ha
      · exact h2 j (by omega)
theorem minK_isFirst {l : List (Int × Int)} (h : l ≠ []) : IsFirst l (minK l l.length) := by
  obtain ⟨h1, h2⟩ := minK_first l l.length (Nat.le_refl _) (List.length_pos_iff.2 h)
  refine ⟨h1, fun e he => ?_⟩
  obtain ⟨j, hj⟩ := List.getElem?_of_mem he
  have hj' : j < l.length := by
    rcases Nat.lt_or_ge j l.length with h | h
    · exact h
    · rw [List.getElem?_eq_none h] at hj; cases hj
  have := h2 j hj'
  unfold nthE at this
  rw [List.getD_eq_getElem?_getD, hj] at this
  exact this
theorem minK_perm {l l' : List (Int × Int)} (hp : List.Perm l l') (h : l ≠ []) : minK l l.length = minK l' l'.length :=
  ((minK_isFirst h).perm hp).unique (minK_isFirst fun e => h (by subst e; exact hp.eq_nil))

def SfS.first (s : SfS) : Int × Int := minK (entL s.fs) (entL s.fs).length
def SfS.serve (s : SfS) : SfS := if entL s.fs = [] then { s with v := max s.v s.most } else match getF s.fs s.first.2 with | none => s | some x => ⟨s.first.1, max s.most x.out, setF s.fs s.first.2 x.serve⟩
def SfS.has (s : SfS) : Bool := !(entL s.fs).isEmpty
def SfS.head (s : SfS) : Pk := if entL s.fs = [] then Pk.zero else match getF s.fs s.first.2 with | none => Pk.zero | some x => x.head
theorem entL_mem {fs : List (Int × FlS)} {p : Int × Int} (h : p ∈ entL fs) : ∃ e ∈ fs, e.2.has = true ∧ p = (e.2.start, e.1) := by
  unfold entL at h
  obtain ⟨e, he, rfl⟩ := List.mem_map.1 h
  obtain ⟨h1, h2⟩ := List.mem_filter.1 he
  exact ⟨e, h1, h2, rfl⟩
/-- Who is first is one of the flows, with a packet. -/
theorem SfqR.first {w : World} {b mb : Nat} {v most : Int} {l : List FlR} {F : Nat → Prop} (h : SfqR w b mb v most l F) (hne : entR l ≠ []) :
    ∃ e ∈ l, e.x.has = true ∧ minK (entR l) (entR l).length = (e.x.start, e.id) ∧ getR l e.id = some e := by
  obtain ⟨q, hq, h1, h2⟩ := entL_mem (minK_isFirst hne).1
  obtain ⟨e, he, rfl⟩ := List.mem_map.1 hq
  refine ⟨e, he, h1, h2, ?_⟩
  cases hg : getR l e.id with
  | none => exact absurd rfl (getR_none.1 hg e he)
  | some e' => obtain ⟨h3, h4⟩ := getR_some hg; rw [h.same h3 he h4]
end Go.Proofs.Ytfgfjnlkgadkhaa
