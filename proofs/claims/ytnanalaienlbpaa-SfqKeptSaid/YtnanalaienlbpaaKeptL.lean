/- SfqKept, the plain law: what came is what was told, and what is there still. -/
import Derived.Test.YtnanalaienlbpaaSfqLeast
namespace Go.Proofs.Ytnanalaienlbpaa
set_option linter.unusedVariables false
set_option linter.unusedSimpArgs false
set_option maxRecDepth 20000
open Go.RowKit Go.Proofs.YtnanalaienlbpaaMem Go.Proofs.YtnanalaienlbpaaMapK

/-- How many packets there are. -/
def totF (fs : List (Int × FlS)) : Nat := (fs.map fun e => e.2.l.length).sum
theorem setF_out {fs : List (Int × FlS)} {id : Int} {y : FlS} (h : ∀ e ∈ fs, e.1 ≠ id) : setF fs id y = fs := by
  unfold setF
  conv => rhs; rw [← List.map_id fs]
  refine List.map_congr_left fun e he => ?_
  rw [if_neg (h e he)]; rfl
theorem tot_set {fs : List (Int × FlS)} (hn : (fs.map (·.1)).Nodup) {id : Int} {x : FlS} (hg : getF fs id = some x) (y : FlS) : totF fs + y.l.length = totF (setF fs id y) + x.l.length := by
  induction fs with
  | nil => cases hg
  | cons e l ih =>
    simp only [List.map_cons, List.nodup_cons] at hn
    unfold getF at hg
    rw [List.find?_cons] at hg
    by_cases he : e.1 = id
    · have hd : decide (e.1 = id) = true := decide_eq_true he
      rw [hd] at hg
      simp only [Option.map_some, Option.some.injEq] at hg
      subst hg
      have h2 : setF l id y = l := setF_out fun e' h' e1 => hn.1 (List.mem_map.2 ⟨e', h', by rw [e1, he]⟩)
      have h3 : setF (e :: l) id y = (id, y) :: setF l id y := by unfold setF; rw [List.map_cons, if_pos he]
      rw [h3, h2]
      simp only [totF, List.map_cons, List.sum_cons]
      omega
    · have hd : decide (e.1 = id) = false := decide_eq_false he
      rw [hd] at hg
      have h3 : setF (e :: l) id y = e :: setF l id y := by unfold setF; rw [List.map_cons, if_neg he]
      have := ih hn.2 hg
      rw [h3]
      simp only [totF, List.map_cons, List.sum_cons] at this ⊢
      omega
theorem setF_same {fs : List (Int × FlS)} (hn : (fs.map (·.1)).Nodup) {id : Int} {x : FlS} (hg : getF fs id = some x) : setF fs id x = fs := by
  unfold setF
  conv => rhs; rw [← List.map_id fs]
  refine List.map_congr_left fun e he => ?_
  by_cases h : e.1 = id
  · rw [if_pos h]
    have : getF fs id = some e.2 := (getF_iff hn).2 (by rw [← h]; exact he)
    rw [hg] at this
    cases this
    rw [← h]; rfl
  · rw [if_neg h]; rfl
theorem set_in {fs : List (Int × FlS)} (hn : (fs.map (·.1)).Nodup) {id : Int} {y : FlS} {e : Int × FlS} (he : e ∈ setF fs id y) : (e = (id, y)) ∨ (e ∈ fs ∧ e.1 ≠ id) := by
  unfold setF at he
  obtain ⟨e0, h1, h2⟩ := List.mem_map.1 he
  by_cases hi : e0.1 = id
  · rw [if_pos hi] at h2; exact .inl h2.symm
  · rw [if_neg hi] at h2; subst h2; exact .inr ⟨h1, hi⟩
theorem sum0 : ∀ l : List (Int × FlS), (l.map fun _ => (0 : Nat)).sum = 0
  | [] => rfl
  | _ :: l => by rw [List.map_cons, List.sum_cons, sum0 l]
def inF (l : List Pk) (f : Int) : List Pk := l.filter fun p => decide (p.flow = f)
theorem inF_append (a c : List Pk) (f : Int) : inF (a ++ c) f = inF a f ++ inF c f := List.filter_append ..
theorem inF_one (p : Pk) (f : Int) : inF [p] f = if p.flow = f then [p] else [] := by
  unfold inF
  rw [List.filter_cons]
  by_cases h : p.flow = f
  · simp [h]
  · simp [h]

structure Kept10 (s : SfS) (il ol : List Pk) : Prop where
  ids : s.fs.map (·.1) = [0, 1, 2, 3]
  eq : ∀ e ∈ s.fs, inF il e.1 = inF ol e.1 ++ e.2.l
  home : s.Home
  cnt : il.length = ol.length + totF s.fs
theorem Kept10.nodup {s : SfS} {il ol : List Pk} (h : Kept10 s il ol) : (s.fs.map (·.1)).Nodup := by rw [h.ids]; decide
theorem Kept10.start : Kept10 (someS 4) [] [] := by
  refine ⟨by decide, fun e he => ?_, someS_home 4, by decide⟩
  have : e.2.l = [] := by
    have key : ∀ k, ∀ e ∈ (someS k).fs, e.2.l = [] := by
      intro k
      induction k with
      | zero => intro e he; cases he
      | succ k ih =>
        intro e he
        unfold someS SfS.add at he
        split at he
        · exact ih e he
        · rcases List.mem_append.1 he with he | he
          · exact ih e he
          · simp only [List.mem_singleton] at he; subst he; rfl
    exact key 4 e he
  rw [this]; rfl
theorem Kept10.came {s : SfS} {il ol : List Pk} (h : Kept10 s il ol) (p : Pk) : (s.arriveE p ≠ 0 ∧ s.arrive p = s) ∨ (s.arriveE p = 0 ∧ Kept10 (s.arrive p) (il ++ [p]) ol) := by
  have hh := arrive_home h.home p
  unfold SfS.arriveE SfS.arrive at *
  cases hg : getF s.fs p.flow with
  | none => exact .inl ⟨by simp, rfl⟩
  | some x =>
    rw [hg] at hh
    simp only at hh ⊢
    by_cases hf : x.full = true
    · have : x.arrive s.v p = x := by unfold FlS.arrive; rw [if_pos hf]
      rw [if_pos hf, this, setF_same h.nodup hg]
      exact .inl ⟨by decide, rfl⟩
    · rw [if_neg hf]
      have hl : (x.arrive s.v p).l = x.l ++ [p] := by unfold FlS.arrive; rw [if_neg hf]; rfl
      refine .inr ⟨rfl, ⟨by show (setF s.fs p.flow _).map (·.1) = _; rw [setF_fst]; exact h.ids, fun e he => ?_, hh, ?_⟩⟩
      · rw [inF_append, inF_one]
        rcases set_in h.nodup he with rfl | ⟨he, hne⟩
        · rw [if_pos rfl, h.eq _ (getF_mem hg), hl, List.append_assoc]
        · rw [if_neg (fun e1 => hne e1.symm), List.append_nil]; exact h.eq e he
      · have := tot_set h.nodup hg (x.arrive s.v p)
        rw [hl] at this
        simp only [List.length_append, List.length_singleton] at this ⊢
        have h2 := h.cnt
        show il.length + 1 = ol.length + totF (setF s.fs p.flow (x.arrive s.v p))
        omega
theorem Kept10.served {s : SfS} {il ol : List Pk} (h : Kept10 s il ol) : (s.has = false ∧ totF s.fs = 0 ∧ Kept10 s.serve il ol) ∨ (s.has = true ∧ Kept10 s.serve il (ol ++ [s.head]) ∧ totF s.serve.fs + 1 = totF s.fs) := by
  have hh := serve_home h.home
  by_cases hn : entL s.fs = []
  · have e1 : s.has = false := by unfold SfS.has; rw [hn]; rfl
    have e2 : s.serve = { s with v := max s.v s.most } := by unfold SfS.serve; rw [if_pos hn]
    have hz : ∀ e ∈ s.fs, e.2.l = [] := fun e he => by
      cases hl : e.2.l with
      | nil => rfl
      | cons p r =>
        have : (e.2.start, e.1) ∈ entL s.fs := List.mem_map.2 ⟨e, List.mem_filter.2 ⟨he, has_l.2 (by rw [hl]; simp)⟩, rfl⟩
        rw [hn] at this; cases this
    have ht : totF s.fs = 0 := by
      unfold totF
      have : s.fs.map (fun e => e.2.l.length) = s.fs.map fun _ => 0 := List.map_congr_left fun e he => by rw [hz e he]; rfl
      rw [this]
      exact sum0 _
    refine .inl ⟨e1, ht, ?_⟩
    rw [e2]
    rw [e2] at hh
    exact ⟨h.ids, h.eq, hh, h.cnt⟩
  · obtain ⟨hm, hle⟩ := minK_isFirst hn
    obtain ⟨e, he, hhas, hf⟩ := entL_mem hm
    have hfirst : s.first = (e.2.start, e.1) := hf
    have hget : getF s.fs e.1 = some e.2 := (getF_iff h.nodup).2 he
    have e1 : s.has = true := by
      unfold SfS.has
      cases hx : entL s.fs with
      | nil => exact absurd hx hn
      | cons _ _ => rfl
    obtain ⟨p, rest, hl⟩ : ∃ p rest, e.2.l = p :: rest := by
      cases hl : e.2.l with
      | nil => exact absurd hl (has_l.1 hhas)
      | cons p rest => exact ⟨p, rest, rfl⟩
    have hp : p.flow = e.1 := h.home e he p (by rw [hl]; exact List.mem_cons_self ..)
    have e2 : s.head = p := by unfold SfS.head; rw [if_neg hn, hfirst]; simp only; rw [hget]; simp only; unfold FlS.head; rw [hl]
    have e3 : s.serve.fs = setF s.fs e.1 e.2.serve := by unfold SfS.serve; rw [if_neg hn, hfirst]; simp only; rw [hget]
    have e4 : e.2.serve.l = rest := by unfold FlS.serve; rw [hl]
    have ht := tot_set h.nodup hget e.2.serve
    rw [e4, hl] at ht
    simp only [List.length_cons] at ht
    refine .inr ⟨e1, ⟨by rw [e3, setF_fst]; exact h.ids, fun e' he' => ?_, hh, ?_⟩, by rw [e3]; omega⟩
    · rw [e3] at he'
      rw [e2, inF_append, inF_one]
      rcases set_in h.nodup he' with rfl | ⟨he', hne⟩
      · simp only
        rw [if_pos hp, h.eq e he, e4, hl, List.append_assoc]
        rfl
      · rw [if_neg (fun e5 => hne (by rw [← e5, hp])), List.append_nil]
        exact h.eq e' he'
    · rw [e3]
      have := h.cnt
      simp only [List.length_append, List.length_singleton]
      omega
theorem sum_zero : ∀ {l : List Nat}, l.sum = 0 → ∀ a ∈ l, a = 0
  | [], _, a, h => by cases h
  | x :: l, hs, a, h => by
    rw [List.sum_cons] at hs
    rcases List.mem_cons.1 h with rfl | h
    · omega
    · exact sum_zero (by omega) a h
theorem Kept10.done {s : SfS} {il ol : List Pk} (h : Kept10 s il ol) (ht : totF s.fs = 0) : il.length = ol.length ∧ s.starts = [] ∧ ∀ f : Nat, f < 4 → inF il f = inF ol f := by
  have hz : ∀ e ∈ s.fs, e.2.l = [] := fun e he => by
    unfold totF at ht
    have := sum_zero ht e.2.l.length (List.mem_map.2 ⟨e, he, rfl⟩)
    exact List.eq_nil_of_length_eq_zero this
  have hen : entL s.fs = [] := by
    unfold entL
    rw [List.map_eq_nil_iff, List.filter_eq_nil_iff]
    intro e he hh
    exact absurd (hz e he) (has_l.1 hh)
  refine ⟨by have := h.cnt; omega, by unfold SfS.starts; rw [hen]; simp [sortE], fun f hf => ?_⟩
  have hmem : (f : Int) ∈ s.fs.map (·.1) := by rw [h.ids]; simp; omega
  obtain ⟨e, he, hef⟩ := List.mem_map.1 hmem
  have := h.eq e he
  rw [hz e he, List.append_nil, hef] at this
  exact this
end Go.Proofs.Ytnanalaienlbpaa
