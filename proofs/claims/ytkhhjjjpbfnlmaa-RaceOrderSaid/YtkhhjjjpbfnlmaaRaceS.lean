/- The clocks of events as plain lists, and what follows of them. -/
import Derived.Test.YtkhhjjjpbfnlmaaEv
namespace Go.Proofs.Ytkhhjjjpbfnlmaa
set_option linter.unusedVariables false
set_option linter.unusedSimpArgs false
open Go.RowKit Go.Proofs.YtkhhjjjpbfnlmaaMem Go.Proofs.YtkhhjjjpbfnlmaaFlat

theorem nth_I64 {zs : List Int} (h : ∀ z ∈ zs, I64 z) (k : Nat) : I64 (nth zs k) := by
  by_cases hk : k < zs.length
  · rw [nth_eq hk]; exact h _ (List.getElem_mem hk)
  · have : nth zs k = 0 := by simp [nth, List.getD_eq_getElem?_getD, List.getElem?_eq_none (show zs.length ≤ k by omega)]
    rw [this]; decide
theorem atC_I64 {zs : List Int} (h : ∀ z ∈ zs, I64 z) (i : Int) : I64 (atC zs i) := by
  unfold atC; split
  · exact nth_I64 h _
  · decide
theorem join_fits {x y : List Int} (h : ∀ z ∈ x, I64 z) (h' : ∀ z ∈ y, I64 z) : ∀ z ∈ joinC x y, I64 z := by
  intro z hz
  simp only [joinC, row, List.mem_map] at hz
  obtain ⟨j, _, rfl⟩ := hz
  have := atC_I64 h j
  have := atC_I64 h' j
  unfold more I64 at *; omega
theorem wrap64_I64 (z : Int) : I64 (wrap64 z) := by unfold wrap64 I64; omega
theorem tick_fits {x : List Int} (h : ∀ z ∈ x, I64 z) (i : Int) : ∀ z ∈ tickC x i, I64 z := by
  intro z hz
  unfold tickC at hz
  split at hz
  · rcases List.mem_or_eq_of_mem_set hz with hz | rfl
    · simp only [padC, List.mem_append, List.mem_replicate] at hz
      rcases hz with hz | ⟨_, rfl⟩
      · exact h z hz
      · decide
    · exact wrap64_I64 _
  · exact h z hz
theorem atC_join (x y : List Int) (i : Nat) : atC (joinC x y) i = max (atC x i) (atC y i) := by
  by_cases h : i < maxN x.length y.length
  · have hl : i < (joinC x y).length := by simp [joinC, row_length, h]
    rw [atC_lt hl, nth_eq hl]
    simp [joinC, row, more]
  · have h1 : x.length ≤ i := by unfold maxN at h; omega
    have h2 : y.length ≤ i := by unfold maxN at h; omega
    have h3 : (joinC x y).length ≤ i := by simp [joinC, row_length]; omega
    rw [atC_ge h1, atC_ge h2, atC_ge h3]; omega
theorem leq_all (x y : List Int) : leqC x y = true ↔ ∀ i : Nat, atC x i ≤ atC y i := by
  rw [leq_iff]
  refine ⟨fun h i => ?_, fun h i _ => h i⟩
  by_cases hi : i < maxN x.length y.length
  · exact h i hi
  · rw [atC_ge (show x.length ≤ i by unfold maxN at hi; omega), atC_ge (show y.length ≤ i by unfold maxN at hi; omega)]; omega
theorem leq_refl (x : List Int) : leqC x x = true := (leq_all x x).2 fun i => by omega
theorem leq_trans {x y z : List Int} (h : leqC x y = true) (h' : leqC y z = true) : leqC x z = true :=
  (leq_all x z).2 fun i => by have := (leq_all x y).1 h i; have := (leq_all y z).1 h' i; omega
theorem leq_join_left (x y : List Int) : leqC x (joinC x y) = true := (leq_all _ _).2 fun i => by rw [atC_join]; omega
theorem leq_join_right (x y : List Int) : leqC y (joinC x y) = true := (leq_all _ _).2 fun i => by rw [atC_join]; omega
theorem nth_append_zeros (zs : List Int) (m j : Nat) : nth (zs ++ List.replicate m 0) j = nth zs j := by
  simp only [nth, List.getD_eq_getElem?_getD, List.getElem?_append]
  by_cases h : j < zs.length
  · rw [if_pos h]
  · rw [if_neg h, List.getElem?_replicate, List.getElem?_eq_none (show zs.length ≤ j by omega)]
    split <;> rfl
theorem atC_nth (zs : List Int) (j : Nat) : atC zs j = nth zs j := by
  by_cases h : j < zs.length
  · exact atC_lt h
  · rw [atC_ge (by omega)]; simp [nth, List.getD_eq_getElem?_getD, List.getElem?_eq_none (show zs.length ≤ j by omega)]
theorem atC_tick (zs : List Int) (k j : Nat) (hk : k < 64) : atC (tickC zs k) j = if j = k then wrap64 (atC zs k + 1) else atC zs j := by
  have e : tickC zs k = (padC zs k).set k (wrap64 (nth (padC zs k) k + 1)) := by unfold tickC; rw [if_pos (by omega)]; simp
  have hl : k < (padC zs k).length := by unfold padC; simp; omega
  rw [e, atC_nth, atC_nth, atC_nth]
  unfold padC at *
  rw [nth_append_zeros]
  by_cases hj : j = k
  · subst hj
    rw [if_pos rfl]
    simp only [nth, List.getD_eq_getElem?_getD]
    rw [List.getElem?_set_self hl]; rfl
  · rw [if_neg hj]
    have : nth ((zs ++ List.replicate (k + 1 - zs.length) 0).set k (wrap64 (nth zs k + 1))) j = nth (zs ++ List.replicate (k + 1 - zs.length) 0) j := by
      simp only [nth, List.getD_eq_getElem?_getD]
      rw [List.getElem?_set_ne (fun h => hj h.symm)]
    rw [this, nth_append_zeros]

/-! ### Events and their clocks -/
def rightE (e : EvS) : Bool := decide (0 ≤ e.who ∧ e.who ≤ 63 ∧ 1 ≤ e.kind ∧ e.kind ≤ 6)
def rightB (l : List EvS) : Bool := l.all rightE
theorem right_nth {l : List EvS} (h : rightB l = true) {k : Nat} (hk : k < l.length) : 0 ≤ (nthE l k).who ∧ (nthE l k).who ≤ 63 ∧ 1 ≤ (nthE l k).kind ∧ (nthE l k).kind ≤ 6 := by
  rw [nthE_eq hk]
  have := List.all_eq_true.1 h _ (List.getElem_mem hk)
  simpa [rightE] using this

def lastP (p : Nat → Bool) : Nat → Option Nat
  | 0 => none
  | i + 1 => if p i = true then some i else lastP p i
theorem lastP_some {p : Nat → Bool} : ∀ {i k : Nat}, lastP p i = some k → k < i ∧ p k = true ∧ ∀ j, k < j → j < i → p j = false := by
  intro i
  induction i with
  | zero => intro k h; simp [lastP] at h
  | succ i ih =>
    intro k h
    unfold lastP at h
    split at h
    · rename_i hp
      simp only [Option.some.injEq] at h; subst h
      exact ⟨by omega, hp, fun j h1 h2 => by omega⟩
    · rename_i hp
      obtain ⟨h1, h2, h3⟩ := ih h
      refine ⟨by omega, h2, fun j h4 h5 => ?_⟩
      by_cases hj : j = i
      · subst hj; simpa using hp
      · exact h3 j h4 (by omega)
theorem lastP_none {p : Nat → Bool} : ∀ {i : Nat}, (∀ j, j < i → p j = false) → lastP p i = none := by
  intro i
  induction i with
  | zero => intro _; rfl
  | succ i ih =>
    intro h
    unfold lastP
    rw [if_neg (by rw [h i (by omega)]; simp)]
    exact ih fun j hj => h j (by omega)
theorem lastP_eq {p : Nat → Bool} : ∀ {i k : Nat}, k < i → p k = true → (∀ j, k < j → j < i → p j = false) → lastP p i = some k := by
  intro i
  induction i with
  | zero => intro k h; omega
  | succ i ih =>
    intro k h hp hn
    unfold lastP
    by_cases hk : k = i
    · subst hk; rw [if_pos hp]
    · rw [if_neg (by rw [hn i (by omega) (by omega)]; simp)]
      exact ih (by omega) hp fun j h1 h2 => hn j h1 (by omega)
theorem lastP_congr {p q : Nat → Bool} : ∀ {i : Nat}, (∀ j, j < i → p j = q j) → lastP p i = lastP q i := by
  intro i
  induction i with
  | zero => intro _; rfl
  | succ i ih => intro h; unfold lastP; rw [h i (by omega), ih fun j hj => h j (by omega)]

def ownP (l : List EvS) (u : Int) (k : Nat) : Bool := decide ((nthE l k).who = u)
def tellP (l : List EvS) (x : LocS) (k : Nat) : Bool := decide ((nthE l k).loc = x) && tellsB (nthE l k).kind
def nthC (cs : List (List Int)) (k : Nat) : List Int := cs.getD k []
def atO (cs : List (List Int)) : Option Nat → List Int
  | some k => nthC cs k
  | none => []
def ownC (l : List EvS) (cs : List (List Int)) (i : Nat) : List Int := atO cs (lastP (ownP l (nthE l i).who) i)
def foundC (l : List EvS) (i : Nat) : Option Nat := if hearsB (nthE l i).kind = true then lastP (tellP l (nthE l i).loc) i else none
def heardC (l : List EvS) (cs : List (List Int)) (i : Nat) : List Int :=
  match foundC l i with
  | some k => joinC (ownC l cs i) (nthC cs k)
  | none => ownC l cs i
def clkE (l : List EvS) (cs : List (List Int)) (i : Nat) : List Int := tickC (heardC l cs i) (nthE l i).who
def clks (l : List EvS) : Nat → List (List Int)
  | 0 => []
  | i + 1 => clks l i ++ [clkE l (clks l i) i]
theorem clks_length (l : List EvS) : ∀ k, (clks l k).length = k := by
  intro k; induction k with
  | zero => rfl
  | succ k ih => simp [clks, ih]
theorem nthC_eq {cs : List (List Int)} {k : Nat} (h : k < cs.length) : nthC cs k = cs[k] := by simp [nthC, h]
theorem clks_nth (l : List EvS) : ∀ {k i : Nat}, i < k → nthC (clks l k) i = clkE l (clks l i) i := by
  intro k
  induction k with
  | zero => intro i h; omega
  | succ k ih =>
    intro i h
    by_cases hi : i < k
    · rw [← ih hi]
      simp only [nthC, clks, List.getD_eq_getElem?_getD]
      rw [List.getElem?_append_left (by rw [clks_length]; exact hi)]
    · have : i = k := by omega
      subst this
      simp only [nthC, clks, List.getD_eq_getElem?_getD]
      rw [List.getElem?_append_right (by rw [clks_length]; exact Nat.le_refl _), clks_length]
      simp
theorem clks_stay (l : List EvS) {k m i : Nat} (h : i < k) (h' : k ≤ m) : nthC (clks l m) i = nthC (clks l k) i := by
  rw [clks_nth l h, clks_nth l (show i < m by omega)]
theorem atO_stay (l : List EvS) {k m : Nat} {o : Option Nat} (h : ∀ i, o = some i → i < k) (h' : k ≤ m) : atO (clks l m) o = atO (clks l k) o := by
  cases o with
  | none => rfl
  | some i => exact clks_stay l (h i rfl) h'
/-- The clock of an event. -/
def clkAt (l : List EvS) (i : Nat) : List Int := nthC (clks l l.length) i

theorem mem_nthC {cs : List (List Int)} {k : Nat} {z : Int} (h : z ∈ nthC cs k) : nthC cs k ∈ cs := by
  by_cases hk : k < cs.length
  · rw [nthC_eq hk]; exact List.getElem_mem hk
  · have : nthC cs k = [] := by simp [nthC, List.getD_eq_getElem?_getD, List.getElem?_eq_none (show cs.length ≤ k by omega)]
    rw [this] at h; cases h
theorem nthC_length {cs : List (List Int)} {m : Nat} (h : ∀ c ∈ cs, c.length ≤ m) (k : Nat) : (nthC cs k).length ≤ m := by
  by_cases hk : k < cs.length
  · rw [nthC_eq hk]; exact h _ (List.getElem_mem hk)
  · have : nthC cs k = [] := by simp [nthC, List.getD_eq_getElem?_getD, List.getElem?_eq_none (show cs.length ≤ k by omega)]
    rw [this]; simp

/-- Numbers between 0 and a bound. -/
def Bd (m : Int) (c : List Int) : Prop := ∀ z ∈ c, 0 ≤ z ∧ z ≤ m
theorem Bd.at {m : Int} {c : List Int} (h : Bd m c) (hm : 0 ≤ m) (i : Int) : 0 ≤ atC c i ∧ atC c i ≤ m := by
  unfold atC; split
  · rename_i hi
    rw [nth_eq (by omega)]; exact h _ (List.getElem_mem _)
  · omega
theorem Bd.join {m : Int} {x y : List Int} (h : Bd m x) (h' : Bd m y) (hm : 0 ≤ m) : Bd m (joinC x y) := by
  intro z hz
  simp only [joinC, row, List.mem_map] at hz
  obtain ⟨j, _, rfl⟩ := hz
  have := h.at hm j
  have := h'.at hm j
  unfold more; omega
theorem Bd.tick {m : Int} {x : List Int} (h : Bd m x) (hm : 0 ≤ m) (hs : m ≤ 1000000) (i : Int) : Bd (m + 1) (tickC x i) := by
  intro z hz
  unfold tickC at hz
  split at hz
  · rcases List.mem_or_eq_of_mem_set hz with hz | rfl
    · simp only [padC, List.mem_append, List.mem_replicate] at hz
      rcases hz with hz | ⟨_, rfl⟩
      · have := h z hz; omega
      · omega
    · have e : nth (padC x i.toNat) i.toNat = atC x i.toNat := by rw [atC_nth]; unfold padC; rw [nth_append_zeros]
      rw [e]
      have := h.at hm i.toNat
      unfold wrap64; omega
  · have := h z hz; omega
theorem Bd.nthC {m : Int} {cs : List (List Int)} (h : ∀ c ∈ cs, Bd m c) (k : Nat) : Bd m (nthC cs k) := fun z hz => h _ (mem_nthC hz) z hz
theorem Bd.atO {m : Int} {cs : List (List Int)} (h : ∀ c ∈ cs, Bd m c) (o : Option Nat) : Bd m (atO cs o) := by
  cases o with
  | none => intro z hz; cases hz
  | some k => exact Bd.nthC h k
theorem Bd.heard {m : Int} {l : List EvS} {cs : List (List Int)} (h : ∀ c ∈ cs, Bd m c) (hm : 0 ≤ m) (i : Nat) : Bd m (heardC l cs i) := by
  unfold heardC
  split
  · exact Bd.join (Bd.atO h _) (Bd.nthC h _) hm
  · exact Bd.atO h _
theorem clks_bd (l : List EvS) : ∀ k : Nat, k ≤ 1000000 → ∀ c ∈ clks l k, Bd k c := by
  intro k
  induction k with
  | zero => intro _ c hc; cases hc
  | succ k ih =>
    intro hk c hc
    have ih := ih (by omega)
    simp only [clks, List.mem_append, List.mem_singleton] at hc
    rcases hc with hc | rfl
    · intro z hz; have := ih c hc z hz; omega
    · have h1 := Bd.tick (Bd.heard (l := l) ih (by omega) k) (by omega) (by omega) (nthE l k).who
      intro z hz
      have h2 := h1 z hz
      omega
theorem maxN_le {a b m : Nat} (h : a ≤ m) (h' : b ≤ m) : maxN a b ≤ m := by unfold maxN; omega
theorem join_length (x y : List Int) : (joinC x y).length = maxN x.length y.length := by simp [joinC, row_length]
theorem tickN_le {n : Nat} (h : n ≤ 64) (i : Int) : tickN n i ≤ 64 := by unfold tickN; split <;> omega
theorem atO_length {cs : List (List Int)} {m : Nat} (h : ∀ c ∈ cs, c.length ≤ m) (o : Option Nat) : (atO cs o).length ≤ m := by
  cases o with
  | none => exact Nat.zero_le _
  | some k => exact nthC_length h k
theorem heard_length {l : List EvS} {cs : List (List Int)} {m : Nat} (h : ∀ c ∈ cs, c.length ≤ m) (i : Nat) : (heardC l cs i).length ≤ m := by
  unfold heardC
  split
  · rw [join_length]; exact maxN_le (atO_length h _) (nthC_length h _)
  · exact atO_length h _
theorem clks_64 (l : List EvS) : ∀ k : Nat, ∀ c ∈ clks l k, c.length ≤ 64 := by
  intro k
  induction k with
  | zero => intro c hc; cases hc
  | succ k ih =>
    intro c hc
    simp only [clks, List.mem_append, List.mem_singleton] at hc
    rcases hc with hc | rfl
    · exact ih c hc
    · unfold clkE; rw [tickC_length]; exact tickN_le (heard_length (l := l) ih k) _
theorem Bd.fits {m : Int} {c : List Int} (h : Bd m c) (hm : m ≤ 1000001) : ∀ z ∈ c, I64 z := fun z hz => by have := h z hz; unfold I64; omega
/-- Joined with nothing a clock stays. -/
theorem join_nil {m : Int} {c : List Int} (h : Bd m c) (hm : 0 ≤ m) : joinC c [] = c := by
  apply List.ext_getElem
  · rw [join_length]; unfold maxN; simp
  · intro i h1 h2
    have e : atC c i = c[i] := by rw [atC_lt h2, nth_eq h2]
    have := h.at hm i
    simp only [joinC, row, List.getElem_map, List.getElem_range]
    unfold more
    rw [atC_ge (zs := []) (by simp), e] at *
    omega
end Go.Proofs.Ytkhhjjjpbfnlmaa
