/- SfqFair, the plain law: two flows that are never without packets, served with a third. -/
import Derived.Test.YtnanalaienlbpaaSfq11
namespace Go.Proofs.Ytnanalaienlbpaa
set_option linter.unusedVariables false
set_option linter.unusedSimpArgs false
set_option maxRecDepth 20000
open Go.RowKit Go.Proofs.YtnanalaienlbpaaMem Go.Proofs.YtnanalaienlbpaaMapK

def upd {α : Type} (g : Nat → α) (i : Nat) (a : α) : Nat → α := fun j => if j = i then a else g j
theorem upd_same {α : Type} (g : Nat → α) (i : Nat) (a : α) : upd g i a i = a := if_pos rfl
theorem upd_ne {α : Type} (g : Nat → α) {i j : Nat} (a : α) (h : j ≠ i) : upd g i a j = g j := if_neg h

def fairS (v most : Int) (xs : Nat → FlS) : SfS := ⟨v, most, [(1, xs 1), (2, xs 2), (3, xs 3)]⟩
theorem fair_get {v most : Int} {xs : Nat → FlS} {f : Nat} (h1 : 1 ≤ f) (h3 : f ≤ 3) : getF (fairS v most xs).fs f = some (xs f) := by
  rcases (show f = 1 ∨ f = 2 ∨ f = 3 by omega) with rfl | rfl | rfl <;> rfl
theorem fair_set {v most v' most' : Int} {xs : Nat → FlS} {f : Nat} (h1 : 1 ≤ f) (h3 : f ≤ 3) (y : FlS) : SfS.mk v' most' (setF (fairS v most xs).fs f y) = fairS v' most' (upd xs f y) := by
  rcases (show f = 1 ∨ f = 2 ∨ f = 3 by omega) with rfl | rfl | rfl <;> rfl
theorem fair_arrive {v most : Int} {xs : Nat → FlS} {f : Nat} (h1 : 1 ≤ f) (h3 : f ≤ 3) (n k : Int) : (fairS v most xs).arrive ⟨f, n, k⟩ = fairS v most (upd xs f ((xs f).arrive v ⟨f, n, k⟩)) := by
  unfold SfS.arrive
  rw [fair_get h1 h3]
  exact fair_set h1 h3 _
theorem fair_arriveE {v most : Int} {xs : Nat → FlS} {f : Nat} (h1 : 1 ≤ f) (h3 : f ≤ 3) (n k : Int) : (fairS v most xs).arriveE ⟨f, n, k⟩ = if (xs f).full = true then 9 else 0 := by
  unfold SfS.arriveE
  rw [fair_get h1 h3]

/-- A flow that holds two, of a rate; c: what was told of it costs; d: its dearest packet. -/
structure FairF (x : FlS) (f r c d v : Int) : Prop where
  rate : x.r = r
  most : x.most = 2
  start : x.start = c
  nil : x.l = [] → v = 0 ∧ x.finish = 0 ∧ c = 0
  pk : ∀ p ∈ x.l, p.flow = f ∧ 1 ≤ p.len ∧ p.len ≤ 3000 ∧ p.len * r ≤ d

theorem FairF.full {x : FlS} {f r c d v : Int} (h : FairF x f r c d v) : x.full = decide (x.l.length = 2) := by
  unfold FlS.full
  rw [h.most]
  by_cases h2 : x.l.length = 2
  · rw [h2]; rfl
  · rw [decide_eq_false h2]
    exact decide_eq_false (by omega)
theorem FairF.came {x : FlS} {f r c d v n : Int} (h : FairF x f r c d v) (hf : x.full = false) (h1 : 1 ≤ n) (h2 : n ≤ 3000) :
    FairF (x.arrive v ⟨f, n, 0⟩) f r c (max d (n * r)) v ∧ (x.arrive v ⟨f, n, 0⟩).l.length = x.l.length + 1 := by
  unfold FlS.arrive
  rw [hf]
  refine ⟨⟨h.rate, h.most, ?_, fun he => ?_, fun p hp => ?_⟩, ?_⟩
  · show (if x.l = [] then max v x.finish else x.start) = c
    by_cases hl : x.l = []
    · rw [if_pos hl]; obtain ⟨a, b, c⟩ := h.nil hl; omega
    · rw [if_neg hl]; exact h.start
  · simp [FlS.put] at he
  · simp only [FlS.put, Bool.false_eq_true, if_false] at hp
    rcases List.mem_append.1 hp with hp | hp
    · obtain ⟨a, b, c, d⟩ := h.pk p hp; exact ⟨a, b, c, by omega⟩
    · simp only [List.mem_singleton] at hp; subst hp; exact ⟨rfl, h1, h2, by show n * r ≤ _; omega⟩
  · simp [FlS.put]
theorem FairF.kept {x : FlS} {f r c d v v' : Int} (h : FairF x f r c d v) (hl : x.l ≠ []) : FairF x f r c d v' := ⟨h.rate, h.most, h.start, fun e => absurd e hl, h.pk⟩
theorem costOf_mul {n r : Int} (h1 : 0 ≤ n) (h3 : n * r < 18446744073709551616) : costOf n r = n * r := by
  unfold costOf satMul
  rw [Int.max_eq_left h1, if_pos h3]
theorem FairF.served {x : FlS} {f r c d v v' : Int} (h : FairF x f r c d v) (hl : x.l.length = 2) (hr : 1 ≤ r) (hc : 0 ≤ c ∧ c ≤ 100000000000) (hd : d ≤ 300000000) :
    x.head.flow = f ∧ x.head.len * r = costOf x.head.len r ∧ 0 ≤ costOf x.head.len r ∧ costOf x.head.len r ≤ d ∧ x.has = true ∧ FairF x.serve f r (c + costOf x.head.len r) d v' ∧ x.serve.l.length = 1 := by
  obtain ⟨r', m, st, fi, l⟩ := x
  match l, hl with
  | [p, p'], _ =>
    obtain ⟨h1, h2, h3, h4, h5⟩ := h
    simp only at h1 h2 h3
    subst h1 h2 h3
    obtain ⟨a1, a2, a3, a4⟩ := h5 p (by simp)
    have hc1 : costOf p.len r' = p.len * r' := costOf_mul (by omega) (by omega)
    have hp : 0 ≤ p.len * r' := Int.mul_nonneg (by omega) (by omega)
    refine ⟨a1, hc1.symm, by show 0 ≤ costOf p.len r'; omega, by show costOf p.len r' ≤ d; omega, rfl, ⟨rfl, rfl, ?_, fun e => (by cases e), fun q hq => h5 q (by simp only [FlS.serve, List.mem_singleton] at hq; subst hq; simp)⟩, rfl⟩
    show satAdd st (costOf p.len r') = st + costOf p.len r'
    unfold satAdd
    rw [if_pos (by omega)]

/-- Who is served of the three. -/
theorem fair_serve {v most : Int} {xs : Nat → FlS} (h1 : (xs 1).has = true) (h2 : (xs 2).has = true) :
    (fairS v most xs).has = true ∧ ∃ g : Nat, 1 ≤ g ∧ g ≤ 3 ∧ (xs g).has = true ∧ (fairS v most xs).serve = fairS (xs g).start (max most (xs g).out) (upd xs g (xs g).serve) ∧ (fairS v most xs).head = (xs g).head ∧
      (xs g).start ≤ (xs 1).start ∧ (xs g).start ≤ (xs 2).start := by
  have m1 : ((xs 1).start, (1 : Int)) ∈ entL (fairS v most xs).fs := by
    exact List.mem_map.2 ⟨(1, xs 1), List.mem_filter.2 ⟨by simp [fairS], h1⟩, rfl⟩
  have m2 : ((xs 2).start, (2 : Int)) ∈ entL (fairS v most xs).fs := by
    exact List.mem_map.2 ⟨(2, xs 2), List.mem_filter.2 ⟨by simp [fairS], h2⟩, rfl⟩
  have hne : entL (fairS v most xs).fs ≠ [] := fun e => by rw [e] at m1; cases m1
  obtain ⟨hm, hle⟩ := minK_isFirst hne
  obtain ⟨e, he, hh, hfirst⟩ := entL_mem hm
  have hfirst : (fairS v most xs).first = (e.2.start, e.1) := hfirst
  have l1 := hle _ m1
  have l2 := hle _ m2
  have hfi : minK (entL (fairS v most xs).fs) (entL (fairS v most xs).fs).length = (e.2.start, e.1) := hfirst
  rw [hfi] at l1 l2
  simp only [aheadE, aheadB, decide_eq_false_iff_not] at l1 l2
  have hg : ∃ g : Nat, 1 ≤ g ∧ g ≤ 3 ∧ e = ((g : Int), xs g) := by
    simp only [fairS, List.mem_cons, List.not_mem_nil, or_false] at he
    rcases he with rfl | rfl | rfl
    · exact ⟨1, by omega, by omega, rfl⟩
    · exact ⟨2, by omega, by omega, rfl⟩
    · exact ⟨3, by omega, by omega, rfl⟩
  obtain ⟨g, g1, g3, rfl⟩ := hg
  simp only at hh hfirst l1 l2
  refine ⟨?_, g, g1, g3, hh, ?_, ?_, by omega, by omega⟩
  · unfold SfS.has
    cases hx : entL (fairS v most xs).fs with
    | nil => exact absurd hx hne
    | cons _ _ => rfl
  · unfold SfS.serve
    rw [if_neg hne, hfirst]
    simp only
    rw [fair_get g1 g3]
    exact fair_set g1 g3 _
  · unfold SfS.head
    rw [if_neg hne, hfirst]
    simp only
    rw [fair_get g1 g3]

/-- Behind so many rounds. -/
structure FairI (i : Nat) (rt : Nat → Int) (v : Int) (xs : Nat → FlS) (cs ds : Nat → Int) : Prop where
  two : ∀ f : Nat, 1 ≤ f → f ≤ 2 → FairF (xs f) f (rt f) (cs f) (ds f) v
  third : ∀ p ∈ (xs 3).l, p.flow = 3
  c : ∀ f : Nat, 0 ≤ cs f ∧ cs f ≤ 300000000 * i
  d : ∀ f : Nat, 0 ≤ ds f ∧ ds f ≤ 300000000
  c12 : cs 1 ≤ cs 2 + ds 1
  c21 : cs 2 ≤ cs 1 + ds 2
/-- A packet comes to one of the two. -/
theorem FairI.came {i : Nat} {rt : Nat → Int} {v : Int} {xs : Nat → FlS} {cs ds : Nat → Int} (h : FairI i rt v xs cs ds) {f : Nat} (f1 : 1 ≤ f) (f2 : f ≤ 2) {n : Int} (n1 : 1 ≤ n) (n2 : n ≤ 3000) (hr : n * rt f ≤ 300000000) (hf : (xs f).full = false) :
    FairI i rt v (upd xs f ((xs f).arrive v ⟨f, n, 0⟩)) cs (upd ds f (max (ds f) (n * rt f))) := by
  have hle : ∀ g, ds g ≤ upd ds f (max (ds f) (n * rt f)) g := fun g => by
    by_cases hg : g = f
    · subst hg; rw [upd_same]; omega
    · rw [upd_ne _ _ hg]; exact Int.le_refl _
  refine ⟨fun g g1 g2 => ?_, ?_, h.c, fun g => ?_, ?_, ?_⟩
  · by_cases hg : g = f
    · subst hg; rw [upd_same, upd_same]; exact ((h.two g g1 g2).came hf n1 n2).1
    · rw [upd_ne _ _ hg, upd_ne _ _ hg]; exact h.two g g1 g2
  · rw [upd_ne _ _ (by omega)]; exact h.third
  · have := h.d g
    have := h.d f
    by_cases hg : g = f
    · subst hg; rw [upd_same]; omega
    · rw [upd_ne _ _ hg]; exact h.d g
  · have := hle 1; have := h.c12; omega
  · have := hle 2; have := h.c21; omega
/-- A packet comes to the third. -/
theorem FairI.third_came {i : Nat} {rt : Nat → Int} {v : Int} {xs : Nat → FlS} {cs ds : Nat → Int} (h : FairI i rt v xs cs ds) (n k : Int) : FairI i rt v (upd xs 3 ((xs 3).arrive v ⟨3, n, k⟩)) cs ds := by
  refine ⟨fun g g1 g2 => ?_, ?_, h.c, h.d, h.c12, h.c21⟩
  · rw [upd_ne _ _ (by omega)]; exact h.two g g1 g2
  · rw [upd_same]
    intro p hp
    unfold FlS.arrive at hp
    split at hp
    · exact h.third p hp
    · simp only [FlS.put] at hp
      rcases List.mem_append.1 hp with hp | hp
      · exact h.third p hp
      · simp only [List.mem_singleton] at hp; subst hp; rfl
/-- The third is served. -/
theorem FairI.third_served {i : Nat} {rt : Nat → Int} {v v' : Int} {xs : Nat → FlS} {cs ds : Nat → Int} (h : FairI i rt v xs cs ds) (l1 : (xs 1).l.length = 2) (l2 : (xs 2).l.length = 2) (h3 : (xs 3).has = true) : FairI (i + 1) rt v' (upd xs 3 (xs 3).serve) cs ds ∧ (xs 3).head.flow = 3 := by
  obtain ⟨p, rest, hl⟩ : ∃ p rest, (xs 3).l = p :: rest := by
    cases hx : (xs 3).l with
    | nil => unfold FlS.has at h3; rw [hx] at h3; cases h3
    | cons p rest => exact ⟨p, rest, rfl⟩
  refine ⟨⟨fun g g1 g2 => ?_, ?_, fun f => ?_, h.d, h.c12, h.c21⟩, ?_⟩
  · rw [upd_ne _ _ (by omega)]
    refine (h.two g g1 g2).kept fun e => ?_
    rcases (show g = 1 ∨ g = 2 by omega) with rfl | rfl
    · rw [e] at l1; cases l1
    · rw [e] at l2; cases l2
  · rw [upd_same]
    intro q hq
    unfold FlS.serve at hq
    rw [hl] at hq
    exact h.third q (by rw [hl]; exact List.mem_cons_of_mem _ hq)
  · have := h.c f; omega
  · unfold FlS.head
    rw [hl]
    exact h.third p (by rw [hl]; exact List.mem_cons_self ..)
/-- One of the two is served. -/
theorem FairI.served {i : Nat} {rt : Nat → Int} {v v' : Int} {xs : Nat → FlS} {cs ds : Nat → Int} (h : FairI i rt v xs cs ds) (hi : i < 60) (l1 : (xs 1).l.length = 2) (l2 : (xs 2).l.length = 2) {g : Nat} (g1 : 1 ≤ g) (g2 : g ≤ 2) (hr : 1 ≤ rt g)
    (s1 : (xs g).start ≤ (xs 1).start) (s2 : (xs g).start ≤ (xs 2).start) :
    FairI (i + 1) rt v' (upd xs g (xs g).serve) (upd cs g (cs g + costOf (xs g).head.len (rt g))) ds ∧ (xs g).head.flow = g ∧ 0 ≤ costOf (xs g).head.len (rt g) ∧ costOf (xs g).head.len (rt g) ≤ 300000000 := by
  have hlg : (xs g).l.length = 2 := by rcases (show g = 1 ∨ g = 2 by omega) with rfl | rfl; exact l1; exact l2
  have hcg := h.c g
  have hdg := h.d g
  obtain ⟨a1, a2, a3, a4, a5, a6, a7⟩ := (h.two g g1 g2).served (v' := v') hlg hr ⟨hcg.1, by omega⟩ hdg.2
  have st1 := (h.two 1 (by omega) (by omega)).start
  have st2 := (h.two 2 (by omega) (by omega)).start
  have c12 := h.c12
  have c21 := h.c21
  have d1 := h.d 1
  have d2 := h.d 2
  refine ⟨⟨fun f f1 f2 => ?_, ?_, fun f => ?_, h.d, ?_, ?_⟩, a1, a3, by omega⟩
  · by_cases hg : f = g
    · subst hg; rw [upd_same, upd_same]; exact a6
    · rw [upd_ne _ _ hg, upd_ne _ _ hg]
      refine (h.two f f1 f2).kept fun e => ?_
      rcases (show f = 1 ∨ f = 2 by omega) with rfl | rfl
      · rw [e] at l1; cases l1
      · rw [e] at l2; cases l2
  · rw [upd_ne _ _ (by omega)]; exact h.third
  · have := h.c f
    by_cases hg : f = g
    · subst hg; rw [upd_same]; omega
    · rw [upd_ne _ _ hg]; omega
  · rcases (show g = 1 ∨ g = 2 by omega) with rfl | rfl
    · rw [upd_same, upd_ne _ _ (by omega)]; omega
    · rw [upd_same, upd_ne _ _ (by omega)]; omega
  · rcases (show g = 1 ∨ g = 2 by omega) with rfl | rfl
    · rw [upd_same, upd_ne _ _ (by omega)]; omega
    · rw [upd_same, upd_ne _ _ (by omega)]; omega
end Go.Proofs.Ytnanalaienlbpaa
