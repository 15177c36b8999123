/- The model: each packet names its flow; what serving does to the lengths. -/
import Derived.Test.YtfgfjnlkgadkhaaMod10
namespace Go.Proofs.Ytfgfjnlkgadkhaa
set_option linter.unusedVariables false
set_option linter.unusedSimpArgs false
set_option maxRecDepth 20000
open Go.RowKit Go.Proofs.YtfgfjnlkgadkhaaMem Go.Proofs.YtfgfjnlkgadkhaaMapK

def SfS.Tagged (s : SfS) : Prop := ∀ e ∈ s.fs, ∀ p ∈ e.2.l, p.flow = e.1
theorem SfS.Tagged.new : SfS.new.Tagged := fun e he => by cases he
theorem SfS.Tagged.add {s : SfS} (h : s.Tagged) (id r m : Int) : (s.add id r m).Tagged := by
  unfold SfS.add
  split
  · exact h
  · intro e he
    rcases List.mem_append.1 he with he | he
    · exact h e he
    · simp only [List.mem_singleton] at he
      subst he
      intro p hp
      cases hp
theorem setF_tag {s : SfS} (h : s.Tagged) {id v most : Int} {x y : FlS} (hg : getF s.fs id = some x) (hy : ∀ p ∈ y.l, p ∈ x.l ∨ p.flow = id) : SfS.Tagged ⟨v, most, setF s.fs id y⟩ := by
  intro e he p hp
  rcases setF_mem he with rfl | he
  · rcases hy p hp with hp | hp
    · exact h (id, x) (getF_mem hg) p hp
    · exact hp
  · exact h e he p hp
theorem SfS.Tagged.arrive {s : SfS} (h : s.Tagged) (p : Pk) : (s.arrive p).Tagged := by
  unfold SfS.arrive
  cases hg : getF s.fs p.flow with
  | none => exact h
  | some x =>
    refine setF_tag h hg fun q hq => ?_
    unfold FlS.arrive at hq
    split at hq
    · exact .inl hq
    · rcases List.mem_append.1 (show q ∈ x.l ++ [p] from hq) with hq | hq
      · exact .inl hq
      · simp only [List.mem_singleton] at hq; subst hq; exact .inr rfl
theorem SfS.Tagged.remove {s : SfS} (h : s.Tagged) (id : Int) : (s.remove id).Tagged := by
  unfold SfS.remove
  split
  · exact h
  · split
    · exact fun e he => h e (List.mem_filter.1 he).1
    · exact h
theorem FlS.serve_sub (x : FlS) : ∀ p ∈ x.serve.l, p ∈ x.l := by
  intro p hp
  unfold FlS.serve at hp
  cases hl : x.l with
  | nil => rw [hl] at hp; simp only at hp; rw [hl] at hp; exact hp
  | cons q r => rw [hl] at hp; exact List.mem_cons_of_mem _ hp
theorem SfS.Tagged.serve {s : SfS} (h : s.Tagged) : s.serve.Tagged := by
  unfold SfS.serve
  split
  · exact h
  · cases hg : getF s.fs s.first.2 with
    | none => exact h
    | some x => exact setF_tag h hg fun q hq => .inl (FlS.serve_sub x q hq)
theorem SfS.Tagged.reg {s : SfS} (h : s.Tagged) (c : Cfg) (d : CallS) : (s.reg c d).Tagged := by
  unfold SfS.reg
  split
  · exact h.add _ _ _
  · exact h
theorem SfS.Tagged.enq {s : SfS} (h : s.Tagged) (d : CallS) : (s.enq d).Tagged := by
  unfold SfS.enq
  split
  · exact h.arrive _
  · exact h
theorem tag_bat : ∀ (k : Nat) {m : MdS} (ps : List Pk) (h : m.s.Tagged), (m.bat k ps).1.s.Tagged
  | 0, m, ps, h => h
  | k + 1, m, ps, h => by
    unfold MdS.bat
    split
    · exact tag_bat k _ h.serve
    · exact h.serve
theorem SfS.Tagged.doo {m : MdS} (h : m.s.Tagged) (c : Cfg) (d : CallS) : (m.doo c d).1.s.Tagged := by
  unfold MdS.doo
  split
  · exact h.reg c d
  split
  · exact h.remove _
  split
  · exact h.enq _
  split
  · exact h.serve
  split
  · split
    · exact tag_bat _ _ h
    · exact h
  split
  · exact h
  · exact h
theorem has_get {s : SfS} (hn : (s.fs.map (·.1)).Nodup) (h : s.has = true) : entL s.fs ≠ [] ∧ ∃ x, getF s.fs s.first.2 = some x ∧ x.has = true := by
  have hne : entL s.fs ≠ [] := by
    intro e
    unfold SfS.has at h
    rw [e] at h
    cases h
  obtain ⟨e, he, h1, h2⟩ := entL_mem (minK_isFirst hne).1
  refine ⟨hne, e.2, ?_, h1⟩
  have h3 : s.first.2 = e.1 := by unfold SfS.first; rw [h2]
  rw [h3]
  exact (getF_iff hn).2 he
theorem serve_no {s : SfS} (h : s.has = false) : lensV s.serve = lensV s := by
  have hne : entL s.fs = [] := by
    unfold SfS.has at h
    cases he : entL s.fs with
    | nil => rfl
    | cons a l => rw [he] at h; cases h
  unfold SfS.serve
  rw [if_pos hne]
  rfl
theorem serve_yes {s : SfS} (hn : (s.fs.map (·.1)).Nodup) (ht : s.Tagged) (h : s.has = true) :
    ∃ x, getF s.fs s.head.flow = some x ∧ lensV s.serve = putM (lensV s) s.head.flow (.int .i64 ((x.l.length : Int) - 1)) ∧ 1 ≤ x.l.length := by
  obtain ⟨hne, x, hg, hx⟩ := has_get hn h
  cases hl : x.l with
  | nil => unfold FlS.has at hx; rw [hl] at hx; cases hx
  | cons q r =>
    have hh : s.head = q := by
      unfold SfS.head
      rw [if_neg hne, hg]
      show x.head = q
      unfold FlS.head
      rw [hl]
    have hf : q.flow = s.first.2 := ht (s.first.2, x) (getF_mem hg) q (by show q ∈ x.l; rw [hl]; exact List.mem_cons_self)
    rw [hh, hf]
    have hs : x.serve.l = r := by unfold FlS.serve; rw [hl]
    refine ⟨x, hg, ?_, by rw [hl]; simp⟩
    have hl2 : ((x.l.length : Int) - 1) = (x.serve.l.length : Int) := by rw [hs, hl]; simp
    unfold SfS.serve
    rw [if_neg hne, hg, hl2]
    exact (lens_set hg).symm
end Go.Proofs.Ytfgfjnlkgadkhaa
