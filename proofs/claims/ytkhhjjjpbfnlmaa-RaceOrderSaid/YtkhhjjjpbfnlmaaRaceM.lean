/- What race.Clocks holds between two events: of each worker a clock, of each place a clock. -/
import Derived.Test.YtkhhjjjpbfnlmaaRaceK
namespace Go.Proofs.Ytkhhjjjpbfnlmaa
set_option linter.unusedVariables false
set_option linter.unusedSimpArgs false
open Go.RowKit Go.Proofs.YtkhhjjjpbfnlmaaMem Go.Proofs.YtkhhjjjpbfnlmaaFlat Go.Proofs.YtkhhjjjpbfnlmaaMapK

/-- 64 cells in a block of their own. -/
def ArrAt (w : World) (b : Nat) (f : Nat → Value) : Prop := ∃ cur : Array Value, w.heap[b]? = some (.cells cur 58 (0, 0)) ∧ ∀ u, u < 64 → cur[u]? = some (f u)
theorem ArrAt.of_eq {w w' : World} {b : Nat} {f : Nat → Value} (h : ArrAt w b f) (e : w'.heap[b]? = w.heap[b]?) : ArrAt w' b f :=
  let ⟨cur, h1, h2⟩ := h; ⟨cur, e.trans h1, h2⟩
theorem ArrAt.lt {w : World} {b : Nat} {f : Nat → Value} (h : ArrAt w b f) : b < w.heap.size := by
  obtain ⟨cur, h1, _⟩ := h
  exact (Array.getElem?_eq_some_iff.1 h1).1
theorem ArrAt.cell {w : World} {b : Nat} {f : Nat → Value} (h : ArrAt w b f) {u : Nat} (hu : u < 64) : w.cell? ⟨b, u, none⟩ = some (f u) := by
  obtain ⟨cur, h1, h2⟩ := h
  simp only [World.cell?, h1]; exact h2 u hu
theorem ArrAt.frozen {w : World} {b : Nat} {f : Nat → Value} (h : ArrAt w b f) (u : Nat) : w.frozen? ⟨b, u, none⟩ = false := by
  obtain ⟨cur, h1, _⟩ := h
  simp [World.frozen?, h1]
theorem ArrAt.set {w : World} {b : Nat} {f : Nat → Value} (h : ArrAt w b f) (u : Nat) (v : Value) : ArrAt (w.setCell ⟨b, u, none⟩ v) b (fun k => if k = u then v else f k) := by
  obtain ⟨cur, h1, h2⟩ := h
  refine ⟨cur.setIfInBounds u v, by simp [World.setCell, Array.getElem?_modify, h1], fun k hk => ?_⟩
  show _ = some (if k = u then v else f k)
  have := h2 k hk
  by_cases hku : k = u
  · subst hku
    have hlt := (Array.getElem?_eq_some_iff.1 this).1
    simp [hlt]
  · rw [if_neg hku, Array.getElem?_setIfInBounds_ne (fun e => hku e.symm)]; exact this
theorem grown_set (w : World) (b o : Nat) (v : Value) : w.grownBy (w.setCell ⟨b, o, none⟩ v) (some b) :=
  ⟨rfl, rfl, rfl, by simp [World.setCell], fun k _ hne => Below.heap_setCell w ⟨b, o, none⟩ v k (fun e => hne (by rw [e]))⟩

def Workers (w : World) (base b : Nat) (l : List EvS) (k : Nat) : Prop :=
  ∃ f, ArrAt w b f ∧ ∀ u : Nat, u < 64 → w.ownsRow base 3 1 (f u) (atO (clks l k) (lastP (ownP l u) k)).length (ints (atO (clks l k) (lastP (ownP l u) k)))
def Places (w : World) (base b : Nat) (l : List EvS) (k : Nat) : Prop :=
  ∃ m, IsMapAt w b LocS.val m ∧ ∀ x, (lastP (tellP l x) k = none ∧ getM m x = none) ∨ ∃ j v, lastP (tellP l x) k = some j ∧ getM m x = some v ∧ w.ownsRow base 3 1 v (nthC (clks l k) j).length (ints (nthC (clks l k) j))
/-- Rows of numbers from a base on are kept. -/
def RowsKept (base : Nat) (w w' : World) : Prop := ∀ (v : Value) (n : Nat) (xs : List Value), w.ownsRow base 3 1 v n xs → w'.ownsRow base 3 1 v n xs
theorem RowsKept.grown {base b : Nat} {w w' : World} (hg : w.grownBy w' (some b)) (hb : b < base) : RowsKept base w w' := fun v n xs h =>
  owns_grown h hg fun k hk e => by cases e; have := (owns_lt h b hk).1; omega
theorem RowsKept.tag {base base' : Nat} {w w' : World} {v : Value} {n size : Nat} {e : TypeId} {xs : List Value} (ho : w.ownsRow base' e size v n xs) (hne : e ≠ 3) (hg : w.grownBy w' v.ownBlock) : RowsKept base w w' := fun v' n' xs' h =>
  owns_grown h hg (tag_ne ho h hne)
theorem RowsKept.below {base : Nat} {w w' : World} (hb : Below w.heap.size w w') : RowsKept base w w' := fun v n xs h => owns_below (B := 0) h hb
theorem Workers.keep {w w' : World} {base b : Nat} {l : List EvS} {k : Nat} (h : Workers w base b l k) (hk : RowsKept base w w') (hb : w'.heap[b]? = w.heap[b]?) : Workers w' base b l k :=
  let ⟨f, h1, h2⟩ := h; ⟨f, h1.of_eq hb, fun u hu => hk _ _ _ (h2 u hu)⟩
theorem Places.keep {w w' : World} {base b : Nat} {l : List EvS} {k : Nat} (h : Places w base b l k) (hk : RowsKept base w w') (hb : w'.heap[b]? = w.heap[b]?) : Places w' base b l k := by
  obtain ⟨m, h1, h2⟩ := h
  refine ⟨m, h1.of_eq hb, fun x => ?_⟩
  rcases h2 x with h | ⟨j, v, h3, h4, h5⟩
  · exact .inl h
  · exact .inr ⟨j, v, h3, h4, hk _ _ _ h5⟩
theorem lastP_lt {p : Nat → Bool} {i k : Nat} (h : lastP p i = some k) : k < i := (lastP_some h).1
theorem atO_next (l : List EvS) (p : Nat → Bool) (k : Nat) : atO (clks l (k + 1)) (lastP p k) = atO (clks l k) (lastP p k) :=
  atO_stay l (fun i hi => lastP_lt hi) (Nat.le_succ k)
/-- The worker's clock was written. -/
theorem Workers.next {w : World} {base b : Nat} {l : List EvS} {k u : Nat} {v : Value} (h : Workers w base b l k) (hb : b < base) (hu : (nthE l k).who = u)
    (hv : w.ownsRow base 3 1 v (clkE l (clks l k) k).length (ints (clkE l (clks l k) k))) : Workers (w.setCell ⟨b, u, none⟩ v) base b l (k + 1) := by
  obtain ⟨f, h1, h2⟩ := h
  have hkp := RowsKept.grown (base := base) (grown_set w b u v) hb
  refine ⟨_, h1.set u v, fun t ht => ?_⟩
  by_cases htu : t = u
  · subst htu
    have e : lastP (ownP l t) (k + 1) = some k := by unfold lastP; rw [if_pos (by simp [ownP, hu])]
    rw [e, if_pos rfl]
    show _ ; simp only [atO]
    rw [clks_nth l (Nat.lt_succ_self k)]
    exact hkp _ _ _ hv
  · have e : lastP (ownP l t) (k + 1) = lastP (ownP l t) k := by
      rw [lastP, if_neg (by simp only [ownP, hu, decide_eq_true_eq]; omega)]
    rw [e, if_neg htu, atO_next]
    exact hkp _ _ _ (h2 t ht)
theorem Places.stays {w : World} {base b : Nat} {l : List EvS} {k : Nat} (h : Places w base b l k) (ht : tellsB (nthE l k).kind = false) : Places w base b l (k + 1) := by
  obtain ⟨m, h1, h2⟩ := h
  refine ⟨m, h1, fun x => ?_⟩
  have e : lastP (tellP l x) (k + 1) = lastP (tellP l x) k := by
    rw [lastP, if_neg (by simp [tellP, ht])]
  rw [e]
  rcases h2 x with h | ⟨j, v, h3, h4, h5⟩
  · exact .inl h
  · exact .inr ⟨j, v, h3, h4, by rw [clks_stay l (lastP_lt h3) (Nat.le_succ k)]; exact h5⟩
/-- The place's clock was written. -/
theorem Places.next {w w' : World} {base b : Nat} {l : List EvS} {k : Nat} {v : Value} {m : List (LocS × Value)} 
    (h2 : ∀ x, (lastP (tellP l x) k = none ∧ getM m x = none) ∨ ∃ j v, lastP (tellP l x) k = some j ∧ getM m x = some v ∧ w.ownsRow base 3 1 v (nthC (clks l k) j).length (ints (nthC (clks l k) j)))
    (ht : tellsB (nthE l k).kind = true) (hm : IsMapAt w' b LocS.val (putM m (nthE l k).loc v)) (hk : RowsKept base w w')
    (hv : w.ownsRow base 3 1 v (clkE l (clks l k) k).length (ints (clkE l (clks l k) k))) : Places w' base b l (k + 1) := by
  refine ⟨_, hm, fun x => ?_⟩
  by_cases hx : (nthE l k).loc = x
  · have e : lastP (tellP l x) (k + 1) = some k := by rw [lastP, if_pos (by simp [tellP, ht, hx])]
    refine .inr ⟨k, v, e, by rw [getM_put, if_pos hx.symm], ?_⟩
    rw [clks_nth l (Nat.lt_succ_self k)]; exact hk _ _ _ hv
  · have e : lastP (tellP l x) (k + 1) = lastP (tellP l x) k := by rw [lastP, if_neg (by simp [tellP, hx])]
    rw [e, getM_put, if_neg (fun e => hx e.symm)]
    rcases h2 x with h | ⟨j, v, h3, h4, h5⟩
    · exact .inl h
    · exact .inr ⟨j, v, h3, h4, by rw [clks_stay l (lastP_lt h3) (Nat.le_succ k)]; exact hk _ _ _ h5⟩

structure ClkSt (w wx : World) (base B3 B4 : Nat) (l : List EvS) (k : Nat) (v : Value) : Prop where
  work : Workers wx base B3 l k
  place : Places wx base B4 l k
  out : OwnCs wx base wx.heap.size v (clks l k)
  bel : Below w.heap.size w wx
  b3 : B3 < base
  b4 : B4 < base
  bw3 : w.heap.size ≤ B3
  bw4 : w.heap.size ≤ B4
  ne : B3 ≠ B4
  bs : base ≤ wx.heap.size
theorem ClkSt.below {w wx wx' : World} {base B3 B4 : Nat} {l : List EvS} {k : Nat} {v : Value} (h : ClkSt w wx base B3 B4 l k v) (hb : Below wx.heap.size wx wx') : ClkSt w wx' base B3 B4 l k v :=
  ⟨h.work.keep (RowsKept.below hb) (hb.block _ (by have := h.b3; have := h.bs; omega)), h.place.keep (RowsKept.below hb) (hb.block _ (by have := h.b4; have := h.bs; omega)), (h.out.below hb).mono hb.size, h.bel.trans (hb.mono h.bel.size), h.b3, h.b4, h.bw3, h.bw4, h.ne, Nat.le_trans h.bs hb.size⟩

theorem makeMap_run (w : World) : (Instr.makeMap 53 none).run Try.prog w = .ok (.map (some w.heap.size)) (w.alloc (.map #[] 0)) := rfl
theorem under_map : Try.prog.underlying 53 = some (.map 34 23) := Try.underlying53
theorem zero_map (w : World) : (zeroValue 23).run Try.prog w = .ok (.slice none 0 0) w := by
  have := Try.underlying23
  rfl
end Go.Proofs.Ytkhhjjjpbfnlmaa
