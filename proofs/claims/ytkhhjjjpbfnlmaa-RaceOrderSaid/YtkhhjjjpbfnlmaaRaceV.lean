/- What a clock counts; who is before another one stands ahead of it. -/
import Derived.Test.YtkhhjjjpbfnlmaaRaceQ
namespace Go.Proofs.Ytkhhjjjpbfnlmaa
set_option linter.unusedVariables false
set_option linter.unusedSimpArgs false
open Go.RowKit Go.Proofs.YtkhhjjjpbfnlmaaMem Go.Proofs.YtkhhjjjpbfnlmaaFlat Go.Proofs.YtkhhjjjpbfnlmaaMapK

theorem lastP_non {p : Nat → Bool} : ∀ {i : Nat}, lastP p i = none → ∀ j, j < i → p j = false := by
  intro i
  induction i with
  | zero => intro _ j hj; omega
  | succ i ih =>
    intro h j hj
    unfold lastP at h
    split at h
    · cases h
    · rename_i hp
      by_cases hji : j = i
      · subst hji; simpa using hp
      · exact ih h j (by omega)
/-- How many events of a worker there are ahead of a place. -/
def cntE (l : List EvS) (u : Int) : Nat → Nat
  | 0 => 0
  | i + 1 => cntE l u i + if (nthE l i).who = u then 1 else 0
theorem cntE_le (l : List EvS) (u : Int) : ∀ i, cntE l u i ≤ i := by
  intro i; induction i with
  | zero => exact Nat.le_refl _
  | succ i ih => unfold cntE; split <;> omega
theorem cntE_mono (l : List EvS) (u : Int) {i : Nat} : ∀ {j : Nat}, i ≤ j → cntE l u i ≤ cntE l u j := by
  intro j
  induction j with
  | zero => intro h; obtain rfl : i = 0 := by omega
            exact Nat.le_refl _
  | succ j ih =>
    intro h
    by_cases hi : i = j + 1
    · subst hi; exact Nat.le_refl _
    · have := ih (by omega)
      simp only [cntE]; omega
theorem cntE_still (l : List EvS) (u : Int) {i : Nat} : ∀ {j : Nat}, i ≤ j → (∀ k, i ≤ k → k < j → (nthE l k).who ≠ u) → cntE l u j = cntE l u i := by
  intro j
  induction j with
  | zero => intro h _; obtain rfl : i = 0 := by omega
            rfl
  | succ j ih =>
    intro h hn
    by_cases hi : i = j + 1
    · subst hi; rfl
    · simp only [cntE]
      rw [ih (by omega) fun k h1 h2 => hn k h1 (by omega), if_neg (hn j (by omega) (by omega))]; rfl

section
variable {l : List EvS} {m : Nat}
theorem who_nat (hr : rightB l = true) {i : Nat} (hi : i < l.length) : ∃ t : Nat, (nthE l i).who = t ∧ t < 64 := by
  obtain ⟨h1, h2, _, _⟩ := right_nth hr hi
  exact ⟨(nthE l i).who.toNat, by omega, by omega⟩
/-- The clock of an event. -/
def ck (l : List EvS) (i : Nat) : List Int := clkE l (clks l i) i
theorem ck_nth {k i : Nat} (h : i < k) : nthC (clks l k) i = ck l i := clks_nth l h
theorem own_ck (i : Nat) {k : Nat} (h : lastP (ownP l (nthE l i).who) i = some k) : ownC l (clks l i) i = ck l k := by
  unfold ownC; rw [h]; exact ck_nth (lastP_some h).1
theorem heard_bd (i : Nat) (hi : i ≤ 1000) : Bd i (heardC l (clks l i) i) := Bd.heard (l := l) (clks_bd l i (by omega)) (by omega) i
theorem tick_at (hr : rightB l = true) {i : Nat} (hi : i < l.length) (hl : l.length ≤ 1000) (u : Nat) : atC (ck l i) u = if (nthE l i).who = u then atC (heardC l (clks l i) i) u + 1 else atC (heardC l (clks l i) i) u := by
  obtain ⟨t, ht, h64⟩ := who_nat hr hi
  unfold ck clkE
  rw [ht, atC_tick _ t u h64]
  by_cases hu : u = t
  · subst hu
    rw [if_pos rfl, if_pos rfl]
    have := (heard_bd (l := l) i (by omega)).at (by omega) (u : Int)
    unfold RowKit.wrap64; omega
  · rw [if_neg hu, if_neg (by omega)]
theorem heard_parts (i : Nat) (u : Nat) : atC (heardC l (clks l i) i) u = atC (ownC l (clks l i) i) u ∨ ∃ k, foundC l i = some k ∧ k < i ∧ atC (heardC l (clks l i) i) u = max (atC (ownC l (clks l i) i) u) (atC (ck l k) u) := by
  unfold heardC
  cases h : foundC l i with
  | none => exact .inl rfl
  | some k =>
    have hk : k < i := by
      unfold foundC at h
      split at h
      · exact (lastP_some h).1
      · cases h
    refine .inr ⟨k, rfl, hk, ?_⟩
    simp only
    rw [atC_join, ck_nth hk]
theorem atC_nil' (i : Int) : atC [] i = 0 := by unfold atC; split <;> simp [nth]
/-- No clock counts more of a worker's events than there were; the worker's own counts all. -/
theorem counts (hr : rightB l = true) (hl : l.length ≤ 1000) : ∀ i, i < l.length → (∀ u : Nat, atC (ck l i) u ≤ cntE l u (i + 1)) ∧ (∀ u : Nat, (nthE l i).who = u → atC (ck l i) u = cntE l u (i + 1)) := by
  intro i
  induction i using Nat.strongRecOn with
  | ind i ih =>
    intro hi
    have hown : ∀ u : Nat, atC (ownC l (clks l i) i) u ≤ cntE l u i ∧ ((nthE l i).who = u → atC (ownC l (clks l i) i) u = cntE l u i) := by
      intro u
      cases h : lastP (ownP l (nthE l i).who) i with
      | none =>
        have e : ownC l (clks l i) i = [] := by unfold ownC; rw [h]; rfl
        rw [e, atC_nil']
        refine ⟨by omega, fun hu => ?_⟩
        have hno : ∀ k, 0 ≤ k → k < i → (nthE l k).who ≠ u := by
          intro k _ hk hw
          have := lastP_non h k hk
          simp [ownP, hw, hu] at this
        have := cntE_still l u (Nat.zero_le i) hno
        rw [this]; rfl
      | some k =>
        obtain ⟨hk, hp, hn⟩ := lastP_some h
        rw [own_ck i h]
        have h1 := ih k hk (by omega)
        refine ⟨Int.le_trans (h1.1 u) (by have := cntE_mono l u (show k + 1 ≤ i by omega); omega), fun hu => ?_⟩
        have hwk : (nthE l k).who = u := by have : (nthE l k).who = (nthE l i).who := by simpa [ownP] using hp
                                            rw [this]; exact hu
        rw [h1.2 u hwk, cntE_still l u (show k + 1 ≤ i by omega) fun q h2 h3 hw => ?_]
        have := hn q (by omega) h3
        simp [ownP, hw, hu] at this
    have hheard : ∀ u : Nat, atC (heardC l (clks l i) i) u ≤ cntE l u i ∧ ((nthE l i).who = u → atC (heardC l (clks l i) i) u = cntE l u i) := by
      intro u
      rcases heard_parts (l := l) i u with e | ⟨k, _, hk, e⟩
      · rw [e]; exact hown u
      · have h1 := (ih k hk (by omega)).1 u
        have h2 := cntE_mono l u (show k + 1 ≤ i by omega)
        have h3 := hown u
        rw [e]
        refine ⟨by omega, fun hu => ?_⟩
        have := h3.2 hu
        omega
    refine ⟨fun u => ?_, fun u hu => ?_⟩
    · rw [tick_at hr hi hl u]
      have := (hheard u).1
      simp only [cntE]
      split <;> omega
    · rw [tick_at hr hi hl u, if_pos hu, (hheard u).2 hu]
      simp only [cntE]
      rw [if_pos hu]; omega
theorem allC_ck (hr : rightB l = true) {i : Nat} (hi : i < l.length) : nthC (allC l) i = ck l i := by
  unfold allC; rw [if_pos hr]; exact ck_nth hi
/-- Who is before another one stands ahead of it. -/
theorem before_ahead (hr : rightB l = true) (hl : l.length ≤ 1000) {i j : Nat} (hi : i < l.length) (hj : j < l.length) (hij : i ≠ j) (h : leqC (ck l i) (ck l j) = true) : i < j := by
  rcases Nat.lt_trichotomy i j with h1 | h1 | h1
  · exact h1
  · exact absurd h1 hij
  · exfalso
    obtain ⟨t, ht, _⟩ := who_nat hr hi
    have h2 := (leq_all _ _).1 h t
    rw [(counts hr hl i hi).2 t ht] at h2
    have h3 := (counts hr hl j hj).1 t
    have h4 := cntE_mono l t (show j + 1 ≤ i by omega)
    simp only [cntE] at h2 h3 h4
    rw [if_pos ht] at h2
    omega
theorem own_leq (hr : rightB l = true) (hl : l.length ≤ 1000) {i k : Nat} (hi : i < l.length) (h : lastP (ownP l (nthE l i).who) i = some k) : leqC (ck l k) (ck l i) = true := by
  rw [leq_all]
  intro u
  rw [tick_at hr hi hl u, ← own_ck i h]
  rcases heard_parts (l := l) i u with e | ⟨k2, _, hk, e⟩
  · rw [e]; split <;> omega
  · rw [e]; split <;> omega
/-- Two of one worker are in order. -/
theorem same_before (hr : rightB l = true) (hl : l.length ≤ 1000) : ∀ j i : Nat, j < l.length → i < j → (nthE l i).who = (nthE l j).who → leqC (ck l i) (ck l j) = true := by
  intro j
  induction j using Nat.strongRecOn with
  | ind j ih =>
    intro i hj hi hw
    cases h : lastP (ownP l (nthE l j).who) j with
    | none =>
      have := lastP_non h i hi
      simp [ownP, hw] at this
    | some k =>
      obtain ⟨hk, hp, hn⟩ := lastP_some h
      have hk1 := own_leq hr hl hj h
      rcases Nat.lt_trichotomy i k with h1 | h1 | h1
      · have hwk : (nthE l k).who = (nthE l j).who := by simpa [ownP] using hp
        exact leq_trans (ih k hk i (by omega) h1 (by rw [hw, hwk])) hk1
      · subst h1; exact hk1
      · have := hn i h1 hi
        simp [ownP, hw] at this
/-- Which of two is before the other, as the law asks for it. -/
def bB (l : List EvS) (i j : Nat) : Bool := beforeB l i j
theorem bB_eq (hr : rightB l = true) {i j : Nat} (hi : i < l.length) (hj : j < l.length) : bB l i j = (decide (i ≠ j) && leqC (ck l i) (ck l j)) := by
  have hf : (allC l).length = l.length := by rw [allC_length, if_pos hr]
  unfold bB beforeB
  have h1 : decide ((0 : Int) ≤ (i : Int)) = true := by simp
  have h2 : decide ((0 : Int) ≤ (j : Int)) = true := by simp
  have h3 : decide ((i : Int) < ((allC l).length : Int)) = true := by simp; omega
  have h4 : decide ((j : Int) < ((allC l).length : Int)) = true := by simp; omega
  have h5 : decide ((i : Int) ≠ (j : Int)) = decide (i ≠ j) := by congr 1; simp only [ne_eq, eq_iff_iff]; omega
  rw [h1, h2, h3, h4, h5]
  simp only [Bool.true_and, Int.toNat_natCast]
  rw [allC_ck hr hi, allC_ck hr hj]
theorem bB_ahead (hr : rightB l = true) (hl : l.length ≤ 1000) {i j : Nat} (hi : i < l.length) (hj : j < l.length) (h : bB l i j = true) : i < j := by
  rw [bB_eq hr hi hj] at h
  simp only [Bool.and_eq_true, decide_eq_true_eq] at h
  exact before_ahead hr hl hi hj h.1 h.2
theorem bB_same (hr : rightB l = true) (hl : l.length ≤ 1000) {i j : Nat} (hi : i < j) (hj : j < l.length) (hw : (nthE l i).who = (nthE l j).who) : bB l i j = true := by
  rw [bB_eq hr (by omega) hj, same_before hr hl j i hj hi hw]
  simp; omega
theorem bB_trans (hr : rightB l = true) (hl : l.length ≤ 1000) {i j k : Nat} (hi : i < l.length) (hj : j < l.length) (hk : k < l.length) (h1 : bB l i j = true) (h2 : bB l j k = true) : bB l i k = true := by
  have a1 := bB_ahead hr hl hi hj h1
  have a2 := bB_ahead hr hl hj hk h2
  rw [bB_eq hr hi hj] at h1
  rw [bB_eq hr hj hk] at h2
  rw [bB_eq hr hi hk]
  simp only [Bool.and_eq_true, decide_eq_true_eq] at h1 h2 ⊢
  exact ⟨by omega, leq_trans h1.2 h2.2⟩
end
end Go.Proofs.Ytkhhjjjpbfnlmaa
