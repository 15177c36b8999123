/- Hands: the clocks of four events, by which one worker tells another what it wrote. -/
import Derived.Test.YtkhhjjjpbfnlmaaRaceQ
namespace Go.Proofs.Ytkhhjjjpbfnlmaa
set_option linter.unusedVariables false
set_option linter.unusedSimpArgs false
open Go.RowKit Go.Proofs.YtkhhjjjpbfnlmaaMem Go.Proofs.YtkhhjjjpbfnlmaaFlat Go.Proofs.YtkhhjjjpbfnlmaaMapK

def BoxE (w : World) (b : Nat) (x : EvS) : Prop := w.heap[b]? = some (.cells #[.int .i64 x.who, .int .i64 x.kind, .int .i64 x.loc.kind, .int .i64 x.loc.a, .int .i64 x.loc.b] 36 (0, 0))
theorem BoxE.cells {w : World} {b : Nat} {x : EvS} (h : BoxE w b x) : w.cell? ⟨b, 0, none⟩ = some (.int .i64 x.who) ∧ w.cell? ⟨b, 1, none⟩ = some (.int .i64 x.kind) ∧ w.cell? ⟨b, 2, none⟩ = some (.int .i64 x.loc.kind) ∧ w.cell? ⟨b, 3, none⟩ = some (.int .i64 x.loc.a) ∧ w.cell? ⟨b, 4, none⟩ = some (.int .i64 x.loc.b) := by
  have h := h
  unfold BoxE at h
  simp only [World.cell?, h]
  exact ⟨rfl, rfl, rfl, rfl, rfl⟩
theorem BoxE.frozen {w : World} {b : Nat} {x : EvS} (h : BoxE w b x) (o : Nat) : w.frozen? ⟨b, o, none⟩ = false := by
  unfold BoxE at h
  simp [World.frozen?, h]
theorem BoxE.lt {w : World} {b : Nat} {x : EvS} (h : BoxE w b x) : b < w.heap.size := (Array.getElem?_eq_some_iff.1 h).1
theorem BoxE.below {w w' : World} {b : Nat} {x : EvS} (h : BoxE w b x) (hb : Below w.heap.size w w') : BoxE w' b x := (hb.block b h.lt).trans h
theorem two_boxesE (w : World) (x y : EvS) : BoxE ((w.alloc (.cells #[.int .i64 x.who, .int .i64 x.kind, .int .i64 x.loc.kind, .int .i64 x.loc.a, .int .i64 x.loc.b] 36)).alloc (.cells #[.int .i64 y.who, .int .i64 y.kind, .int .i64 y.loc.kind, .int .i64 y.loc.a, .int .i64 y.loc.b] 36)) w.heap.size x ∧ BoxE ((w.alloc (.cells #[.int .i64 x.who, .int .i64 x.kind, .int .i64 x.loc.kind, .int .i64 x.loc.a, .int .i64 x.loc.b] 36)).alloc (.cells #[.int .i64 y.who, .int .i64 y.kind, .int .i64 y.loc.kind, .int .i64 y.loc.a, .int .i64 y.loc.b] 36)) (w.heap.size + 1) y := by
  refine ⟨(heap_alloc_old _ _ (by simp)).trans (heap_alloc_new w _), ?_⟩
  have e : (w.alloc (.cells #[.int .i64 x.who, .int .i64 x.kind, .int .i64 x.loc.kind, .int .i64 x.loc.a, .int .i64 x.loc.b] 36)).heap.size = w.heap.size + 1 := by simp
  have := heap_alloc_new (w.alloc (.cells #[.int .i64 x.who, .int .i64 x.kind, .int .i64 x.loc.kind, .int .i64 x.loc.a, .int .i64 x.loc.b] 36)) (.cells #[.int .i64 y.who, .int .i64 y.kind, .int .i64 y.loc.kind, .int .i64 y.loc.a, .int .i64 y.loc.b] 36)
  rw [e] at this
  exact this
theorem two_new (w : World) (x y : EvS) : Below w.heap.size w (((w.alloc (.cells #[.int .i64 x.who, .int .i64 x.kind, .int .i64 x.loc.kind, .int .i64 x.loc.a, .int .i64 x.loc.b] 36)).alloc (.cells #[.int .i64 y.who, .int .i64 y.kind, .int .i64 y.loc.kind, .int .i64 y.loc.a, .int .i64 y.loc.b] 36)).drew) := (below2 _ _ _).drew
theorem nthE_0 (a : EvS) (l : List EvS) : nthE (a :: l) 0 = a := rfl
theorem nthE_1 (a b : EvS) (l : List EvS) : nthE (a :: b :: l) 1 = b := rfl
theorem nthE_2 (a b c : EvS) (l : List EvS) : nthE (a :: b :: c :: l) 2 = c := rfl
theorem nthE_3 (a b c d : EvS) (l : List EvS) : nthE (a :: b :: c :: d :: l) 3 = d := rfl
theorem four_clks (l : List EvS) : clks l 4 = [clkE l [] 0, clkE l [clkE l [] 0] 1, clkE l [clkE l [] 0, clkE l [clkE l [] 0] 1] 2, clkE l [clkE l [] 0, clkE l [clkE l [] 0] 1, clkE l [clkE l [] 0, clkE l [clkE l [] 0] 1] 2] 3] := rfl

def l1 (u w : Nat) (x y : LocS) (tl hr kd : Int) : List EvS := [⟨u, 6, x⟩, ⟨u, tl, y⟩, ⟨w, hr, y⟩, ⟨w, kd, x⟩]
def l2 (u w : Nat) (x y : LocS) (tl hr kd : Int) : List EvS := [⟨u, 6, x⟩, ⟨w, hr, y⟩, ⟨u, tl, y⟩, ⟨w, kd, x⟩]
def l3 (u w : Nat) (x y : LocS) (tl hr kd : Int) : List EvS := [⟨u, tl, y⟩, ⟨w, hr, y⟩, ⟨u, 6, x⟩, ⟨w, kd, x⟩]

section
variable {u w : Nat} {x y : LocS} {tl hr kd : Int}
theorem l1_clks (ne : u ≠ w) (hxy : x ≠ y) (ht : tl = 2 ∨ tl = 3) (hh : hr = 1 ∨ hr = 3 ∨ hr = 4) (hk : kd = 5 ∨ kd = 6) :
    clks (l1 u w x y tl hr kd) 4 = [tickC [] u, tickC (tickC [] u) u, tickC (joinC [] (tickC (tickC [] u) u)) w, tickC (tickC (joinC [] (tickC (tickC [] u) u)) w) w] := by
  have h1 : ¬ ((u : Int) = (w : Int)) := by omega
  have h2 : ¬ ((w : Int) = (u : Int)) := by omega
  have h3 : ¬ y = x := fun e => hxy e.symm
  rw [four_clks]
  rcases ht with rfl | rfl <;> rcases hh with rfl | rfl | rfl <;> rcases hk with rfl | rfl <;>
    simp [l1, clkE, heardC, foundC, ownC, lastP, ownP, tellP, nthE_0, nthE_1, nthE_2, nthE_3, hearsB, tellsB, atO, nthC, h1, h2, h3, hxy]
theorem l2_clks (ne : u ≠ w) (hxy : x ≠ y) (ht : tl = 2 ∨ tl = 3) (hh : hr = 1 ∨ hr = 3 ∨ hr = 4) (hk : kd = 5 ∨ kd = 6) :
    ∃ t, clks (l2 u w x y tl hr kd) 4 = [tickC [] u, tickC [] w, t, tickC (tickC [] w) w] := by
  have h1 : ¬ ((u : Int) = (w : Int)) := by omega
  have h2 : ¬ ((w : Int) = (u : Int)) := by omega
  have h3 : ¬ y = x := fun e => hxy e.symm
  rw [four_clks]
  refine ⟨clkE (l2 u w x y tl hr kd) [tickC [] u, tickC [] w] 2, ?_⟩
  rcases ht with rfl | rfl <;> rcases hh with rfl | rfl | rfl <;> rcases hk with rfl | rfl <;>
    simp [l2, clkE, heardC, foundC, ownC, lastP, ownP, tellP, nthE_0, nthE_1, nthE_2, nthE_3, hearsB, tellsB, atO, nthC, h1, h2, h3, hxy]
theorem l3_clks (ne : u ≠ w) (hxy : x ≠ y) (ht : tl = 2 ∨ tl = 3) (hh : hr = 1 ∨ hr = 3 ∨ hr = 4) (hk : kd = 5 ∨ kd = 6) :
    clks (l3 u w x y tl hr kd) 4 = [tickC [] u, tickC (joinC [] (tickC [] u)) w, tickC (tickC [] u) u, tickC (tickC (joinC [] (tickC [] u)) w) w] := by
  have h1 : ¬ ((u : Int) = (w : Int)) := by omega
  have h2 : ¬ ((w : Int) = (u : Int)) := by omega
  have h3 : ¬ y = x := fun e => hxy e.symm
  rw [four_clks]
  rcases ht with rfl | rfl <;> rcases hh with rfl | rfl | rfl <;> rcases hk with rfl | rfl <;>
    simp [l3, clkE, heardC, foundC, ownC, lastP, ownP, tellP, nthE_0, nthE_1, nthE_2, nthE_3, hearsB, tellsB, atO, nthC, h1, h2, h3, hxy]

theorem l1_right (hu : u < 64) (hw : w < 64) (ht : tl = 2 ∨ tl = 3) (hh : hr = 1 ∨ hr = 3 ∨ hr = 4) (hk : kd = 5 ∨ kd = 6) : rightB (l1 u w x y tl hr kd) = true := by
  simp [rightB, l1, rightE]; omega
theorem l2_right (hu : u < 64) (hw : w < 64) (ht : tl = 2 ∨ tl = 3) (hh : hr = 1 ∨ hr = 3 ∨ hr = 4) (hk : kd = 5 ∨ kd = 6) : rightB (l2 u w x y tl hr kd) = true := by
  simp [rightB, l2, rightE]; omega
theorem l3_right (hu : u < 64) (hw : w < 64) (ht : tl = 2 ∨ tl = 3) (hh : hr = 1 ∨ hr = 3 ∨ hr = 4) (hk : kd = 5 ∨ kd = 6) : rightB (l3 u w x y tl hr kd) = true := by
  simp [rightB, l3, rightE]; omega

theorem atC_nil (i : Int) : atC [] i = 0 := by unfold atC; split <;> simp [nth]
theorem wrap_small {z : Int} (h : 0 ≤ z ∧ z ≤ 100) : wrap64 z = z := by unfold RowKit.wrap64; omega
theorem at_t0 (hu : u < 64) (i : Nat) : atC (tickC [] u) i = if i = u then 1 else 0 := by
  rw [atC_tick [] u i hu, atC_nil, atC_nil, wrap_small (by omega)]; rfl
theorem at_t1 (hu : u < 64) (i : Nat) : atC (tickC (tickC [] u) u) i = if i = u then 2 else 0 := by
  rw [atC_tick _ u i hu, at_t0 hu, at_t0 hu, if_pos rfl, wrap_small (by omega)]
  split <;> rfl
theorem l1_leq (ne : u ≠ w) (hu : u < 64) (hw : w < 64) : leqC (tickC [] u) (tickC (tickC (joinC [] (tickC (tickC [] u) u)) w) w) = true := by
  rw [leq_all]
  intro i
  rw [at_t0 hu, atC_tick _ w i hw]
  split
  · subst_vars
    rw [if_neg (by omega), atC_tick _ w _ hw, if_neg (by omega), atC_join, at_t1 hu, atC_nil, if_pos rfl]; omega
  · split
    · subst_vars
      rw [atC_tick _ _ _ hw, if_pos rfl, atC_join, at_t1 hu, atC_nil, if_neg (by omega)]
      rw [show wrap64 (max (0 : Int) 0 + 1) = 1 from by unfold RowKit.wrap64; omega, show wrap64 ((1 : Int) + 1) = 2 from by unfold RowKit.wrap64; omega]; omega
    · rw [atC_tick _ w i hw, if_neg (by omega), atC_join, at_t1 hu, atC_nil]; omega
theorem l2_not (ne : u ≠ w) (hu : u < 64) (hw : w < 64) : leqC (tickC [] u) (tickC (tickC [] w) w) = false := by
  rw [← Bool.not_eq_true]
  intro h
  have := (leq_all _ _).1 h u
  rw [at_t0 hu, at_t1 hw, if_pos rfl, if_neg ne] at this; omega
theorem l3_not (ne : u ≠ w) (hu : u < 64) (hw : w < 64) : leqC (tickC (tickC [] u) u) (tickC (tickC (joinC [] (tickC [] u)) w) w) = false := by
  rw [← Bool.not_eq_true]
  intro h
  have := (leq_all _ _).1 h u
  rw [at_t1 hu, if_pos rfl, atC_tick _ w u hw, if_neg ne, atC_tick _ w u hw, if_neg ne, atC_join, at_t0 hu, if_pos rfl, atC_nil] at this; omega

theorem below4 {j : Nat} (h : j < 4) : j = 0 ∨ j = 1 ∨ j = 2 ∨ j = 3 := by omega
theorem conf_who {a b : EvS} (h : a.who = b.who) : conflictB a b = false := by simp [conflictB, h]
theorem conf_loc {a b : EvS} (h : a.loc ≠ b.loc) : conflictB a b = false := by simp [conflictB, h]
theorem conf_at {a b : EvS} (h : plainB a.kind = false) (h' : plainB b.kind = false) : conflictB a b = false := by simp [conflictB, h, h']
theorem conf_yes {a b : EvS} (h1 : a.who ≠ b.who) (h2 : a.loc = b.loc) (h3 : a.kind = 6) : conflictB a b = true := by simp [conflictB, h1, h2, h3, plainB, writesB]

theorem l1_first (ne : u ≠ w) (hxy : x ≠ y) (hu : u < 64) (hw : w < 64) (ht : tl = 2 ∨ tl = 3) (hh : hr = 1 ∨ hr = 3 ∨ hr = 4) (hk : kd = 5 ∨ kd = 6) : firstR (l1 u w x y tl hr kd) = none ∧ beforeB (l1 u w x y tl hr kd) 0 3 = true := by
  have hr1 := l1_right (u := u) (w := w) (x := x) (y := y) hu hw ht hh hk
  have hc := l1_clks ne hxy ht hh hk
  have hA : allC (l1 u w x y tl hr kd) = clks (l1 u w x y tl hr kd) 4 := by unfold allC; rw [if_pos hr1]; rfl
  have hl : (allC (l1 u w x y tl hr kd)).length = 4 := by rw [hA, clks_length]
  have hq := l1_leq ne hu hw
  refine ⟨firstR_none fun j hj i hi => ?_, ?_⟩
  · rw [hl] at hj
    unfold raceB
    rw [hA, hc]
    rcases below4 hj with rfl | rfl | rfl | rfl
    · omega
    · obtain rfl : i = 0 := by omega
      rw [conf_who (by rfl)]; rfl
    · rcases (show i = 0 ∨ i = 1 by omega) with rfl | rfl
      · rw [conf_loc (by exact hxy)]; rfl
      · rw [conf_at (by show plainB tl = false; unfold plainB; simp; omega) (by show plainB hr = false; unfold plainB; simp; omega)]; rfl
    · rcases (show i = 0 ∨ i = 1 ∨ i = 2 by omega) with rfl | rfl | rfl
      · have : nthC [tickC [] (u : Int), tickC (tickC [] u) u, tickC (joinC [] (tickC (tickC [] u) u)) w, tickC (tickC (joinC [] (tickC (tickC [] u) u)) w) w] 0 = tickC [] u := rfl
        rw [this]
        have : nthC [tickC [] (u : Int), tickC (tickC [] u) u, tickC (joinC [] (tickC (tickC [] u) u)) w, tickC (tickC (joinC [] (tickC (tickC [] u) u)) w) w] 3 = tickC (tickC (joinC [] (tickC (tickC [] u) u)) w) w := rfl
        rw [this, hq]; simp
      · rw [conf_loc (by exact fun e => hxy e.symm)]; rfl
      · rw [conf_who (by rfl)]; rfl
  · unfold beforeB
    rw [hA, hc]
    exact hq
theorem l2_first (ne : u ≠ w) (hxy : x ≠ y) (hu : u < 64) (hw : w < 64) (ht : tl = 2 ∨ tl = 3) (hh : hr = 1 ∨ hr = 3 ∨ hr = 4) (hk : kd = 5 ∨ kd = 6) : firstR (l2 u w x y tl hr kd) = some (0, 3) ∧ beforeB (l2 u w x y tl hr kd) 0 3 = false := by
  have hr1 := l2_right (u := u) (w := w) (x := x) (y := y) hu hw ht hh hk
  obtain ⟨t, hc⟩ := l2_clks ne hxy ht hh hk
  have hA : allC (l2 u w x y tl hr kd) = clks (l2 u w x y tl hr kd) 4 := by unfold allC; rw [if_pos hr1]; rfl
  have hl : (allC (l2 u w x y tl hr kd)).length = 4 := by rw [hA, clks_length]
  have hq := l2_not ne hu hw
  have hw' : (u : Int) ≠ (w : Int) := by omega
  refine ⟨firstR_some (by rw [hl]; omega) (by omega) ?_ (fun i hi => by omega) fun j hj i hi => ?_, ?_⟩
  · unfold raceB
    rw [hA, hc, conf_yes (a := nthE (l2 u w x y tl hr kd) 0) (b := nthE (l2 u w x y tl hr kd) 3) hw' rfl rfl]
    show (true && !leqC (tickC [] u) (tickC (tickC [] w) w)) = true
    rw [hq]; rfl
  · unfold raceB
    rcases (show (j = 1 ∧ i = 0) ∨ (j = 2 ∧ i = 0) ∨ (j = 2 ∧ i = 1) by omega) with ⟨rfl, rfl⟩ | ⟨rfl, rfl⟩ | ⟨rfl, rfl⟩
    · rw [conf_loc (by exact hxy)]; rfl
    · rw [conf_who (by rfl)]; rfl
    · rw [conf_at (by show plainB hr = false; unfold plainB; simp; omega) (by show plainB tl = false; unfold plainB; simp; omega)]; rfl
  · unfold beforeB
    rw [hA, hc]
    show (true && (true && (true && (true && (true && leqC (tickC [] u) (tickC (tickC [] w) w)))))) = false
    rw [hq]; rfl
theorem l3_first (ne : u ≠ w) (hxy : x ≠ y) (hu : u < 64) (hw : w < 64) (ht : tl = 2 ∨ tl = 3) (hh : hr = 1 ∨ hr = 3 ∨ hr = 4) (hk : kd = 5 ∨ kd = 6) : firstR (l3 u w x y tl hr kd) = some (2, 3) := by
  have hr1 := l3_right (u := u) (w := w) (x := x) (y := y) hu hw ht hh hk
  have hc := l3_clks ne hxy ht hh hk
  have hA : allC (l3 u w x y tl hr kd) = clks (l3 u w x y tl hr kd) 4 := by unfold allC; rw [if_pos hr1]; rfl
  have hl : (allC (l3 u w x y tl hr kd)).length = 4 := by rw [hA, clks_length]
  have hq := l3_not ne hu hw
  have hw' : (u : Int) ≠ (w : Int) := by omega
  refine firstR_some (by rw [hl]; omega) (by omega) ?_ (fun i hi => ?_) fun j hj i hi => ?_
  · unfold raceB
    rw [hA, hc, conf_yes (a := nthE (l3 u w x y tl hr kd) 2) (b := nthE (l3 u w x y tl hr kd) 3) hw' rfl rfl]
    show (true && !leqC (tickC (tickC [] u) u) (tickC (tickC (joinC [] (tickC [] u)) w) w)) = true
    rw [hq]; rfl
  · unfold raceB
    rcases (show i = 0 ∨ i = 1 by omega) with rfl | rfl
    · rw [conf_loc (by exact fun e => hxy e.symm)]; rfl
    · rw [conf_who (by rfl)]; rfl
  · unfold raceB
    rcases (show (j = 1 ∧ i = 0) ∨ (j = 2 ∧ i = 0) ∨ (j = 2 ∧ i = 1) by omega) with ⟨rfl, rfl⟩ | ⟨rfl, rfl⟩ | ⟨rfl, rfl⟩
    · rw [conf_at (by show plainB tl = false; unfold plainB; simp; omega) (by show plainB hr = false; unfold plainB; simp; omega)]; rfl
    · rw [conf_who (by rfl)]; rfl
    · rw [conf_loc (by exact fun e => hxy e.symm)]; rfl
end
end Go.Proofs.Ytkhhjjjpbfnlmaa
