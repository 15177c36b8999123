/- A history that was laid, in plain Lean: it may be; what is ahead of what; how many are under way at once. -/
import Derived.Test.YtonldjkmbapjeaaLaid2
namespace Go.Proofs.Ytonldjkmbapjeaa
set_option linter.unusedVariables false
set_option linter.unusedSimpArgs false
open Go.RowKit Go.Proofs.YtonldjkmbapjeaaMem Go.Proofs.YtonldjkmbapjeaaFlat

theorem ahead_iff (a b : DoneS) : aheadB a b = true ↔ a.to ≠ -1 ∧ a.to < b.fr := by
  unfold aheadB endedB; simp
theorem right_iff (d : DoneS) : rightD d = true ↔ 0 ≤ d.who ∧ 0 ≤ d.place ∧ 0 ≤ d.fr ∧ (d.to = -1 ∨ d.fr ≤ d.to) := by
  unfold rightD; simp
theorem under_iff (b d : DoneS) : underB b d = true ↔ b.fr ≤ d.fr ∧ (b.to = -1 ∨ d.fr ≤ b.to) := by
  unfold underB endedB; simp
theorem apart_iff (a b : DoneS) : apartB a b = true ↔ a.who ≠ b.who ∨ (a.place < b.place ∧ aheadB a b = true) ∨ (b.place < a.place ∧ aheadB b a = true) := by
  unfold apartB
  by_cases hw : a.who = b.who
  · by_cases h1 : a.place < b.place
    · have : ¬ b.place < a.place := by omega
      simp [hw, h1, this]
    · by_cases h2 : b.place < a.place
      · simp [hw, h1, h2]
      · simp [hw, h1, h2]
  · simp [hw]
theorem apart_symm (a b : DoneS) (h : apartB a b = true) : apartB b a = true := by
  rw [apart_iff] at h ⊢
  rcases h with h | h | h
  · exact .inl fun e => h e.symm
  · exact .inr (.inr h)
  · exact .inr (.inl h)
/-- Calls that may be, as a relation of any two of them. -/
def MayH (l : List DoneS) : Prop := (∀ d ∈ l, rightD d = true) ∧ l.Pairwise (fun a b => apartB a b = true)
theorem MayH.right {l : List DoneS} (h : MayH l) : rightH l = true := by
  unfold rightH
  rw [all_frontD l fun k hk => by rw [nthD_eq hk]; exact h.1 _ (List.getElem_mem hk), pairs_true fun i hi k hk => ?_]
  · rfl
  · have := List.pairwise_iff_getElem.1 h.2 k i (by omega) hi hk
    rw [nthD_eq hi, nthD_eq (show k < l.length by omega)]
    exact apart_symm _ _ this
theorem MayH.perm {l m : List DoneS} (h : MayH l) (p : l.Perm m) : MayH m :=
  ⟨fun d hd => h.1 d (p.mem_iff.2 hd), (p.pairwise_iff fun {a b} h => apart_symm a b h).1 h.2⟩
theorem MayH.at_ {l : List DoneS} (h : MayH l) {i k : Nat} (hi : i < l.length) (hk : k < l.length) (hne : i ≠ k) : apartB (nthD l i) (nthD l k) = true := by
  rw [nthD_eq hi, nthD_eq hk]
  rcases Nat.lt_or_ge i k with hlt | hge
  · exact List.pairwise_iff_getElem.1 h.2 i k hi hk hlt
  · exact apart_symm _ _ (List.pairwise_iff_getElem.1 h.2 k i hk hi (by omega))
theorem MayH.nth {l : List DoneS} (h : MayH l) {i : Nat} (hi : i < l.length) : rightD (nthD l i) = true := by
  rw [nthD_eq hi]; exact h.1 _ (List.getElem_mem hi)

/-! ### What is laid may be -/
structure LInv (s : LdS) : Prop where
  may : MayH s.out
  at_ : ∀ d ∈ s.out, ∃ q, q < 4 ∧ d.who = (q : Nat) ∧ d.place < s.n q ∧ (d.to = -1 → s.op q = true) ∧ (d.to ≠ -1 → d.to < s.a q)
  a0 : ∀ q, 0 ≤ s.a q
  n0 : ∀ q, 0 ≤ s.n q
theorem LInv.step {s : LdS} (h : LInv s) (x : DoneS) : LInv (ldStep s x) := by
  unfold ldStep
  split
  · exact h
  · rename_i hop
    have hq := who4_lt x
    have b1 := modZ_bd x.fr (n := 4) (by omega)
    have b2 := modZ_bd x.to (n := 9) (by omega)
    have a0 := h.a0 (who4 x)
    have n0 := h.n0 (who4 x)
    have hfr : ldFr s x = s.a (who4 x) + modZ x.fr 4 := rfl
    have hto : ldTo s x = ldFr s x + modZ x.to 9 := rfl
    have hdto : (ldD s x).to = if ldLast x = true then -1 else ldTo s x := rfl
    refine ⟨⟨?_, ?_⟩, ?_, ?_, ?_⟩
    · intro d hd
      rcases List.mem_append.1 hd with hd | hd
      · exact h.may.1 d hd
      · rw [List.mem_singleton] at hd
        subst hd
        rw [right_iff]
        refine ⟨by simp [ldD], n0, by simp only [ldD]; omega, ?_⟩
        rw [hdto]
        simp only [ldD]
        split
        · exact .inl rfl
        · exact .inr (by omega)
    · refine List.pairwise_append.2 ⟨h.may.2, by simp, fun d hd e he => ?_⟩
      rw [List.mem_singleton] at he
      subst he
      rw [apart_iff]
      obtain ⟨q, hq4, hw, hp, ho, ht⟩ := h.at_ d hd
      by_cases hqe : q = who4 x
      · subst hqe
        have hne : d.to ≠ -1 := fun e => by rw [ho e] at hop; simp at hop
        have := ht hne
        exact .inr (.inl ⟨hp, (ahead_iff _ _).2 ⟨hne, by simp only [ldD]; omega⟩⟩)
      · exact .inl (by simp only [ldD]; omega)
    · intro d hd
      rcases List.mem_append.1 hd with hd | hd
      · obtain ⟨q, hq4, hw, hp, ho, ht⟩ := h.at_ d hd
        refine ⟨q, hq4, hw, ?_, fun e => ?_, fun e => ?_⟩
        · simp only [updI]; split
          · rename_i e; subst e; omega
          · exact hp
        · simp only []
          split
          · simp only [updB]; split
            · rfl
            · exact ho e
          · exact ho e
        · have := ht e
          simp only [updI]; split
          · rename_i e; subst e; omega
          · exact this
      · rw [List.mem_singleton] at hd
        subst hd
        refine ⟨who4 x, hq, rfl, by simp only [ldD, updI, if_true]; omega, fun e => ?_, fun e => ?_⟩
        · rw [hdto] at e
          by_cases hl : ldLast x = true
          · simp [hl, updB]
          · rw [if_neg hl] at e; omega
        · rw [hdto] at e ⊢
          by_cases hl : ldLast x = true
          · rw [if_pos hl] at e; exact absurd rfl e
          · rw [if_neg hl]; simp only [updI, if_true]; omega
    · intro q; have := h.a0 q; simp only [updI]; split <;> omega
    · intro q; have := h.n0 q; simp only [updI]; split <;> omega
theorem laid_foldl : ∀ (l : List DoneS) (s : LdS), LInv s → LInv (l.foldl ldStep s)
  | [], s, h => h
  | x :: l, s, h => laid_foldl l _ (h.step x)
theorem ldAll_inv (l : List DoneS) : LInv (ldAll l) :=
  laid_foldl l ld0 ⟨⟨fun d hd => (by cases hd), List.Pairwise.nil⟩, fun d hd => (by cases hd), fun q => Int.le_refl _, fun q => Int.le_refl _⟩
theorem laid_may (l : List DoneS) : MayH (laidD l) := (ldAll_inv _).may
theorem laid_who (l : List DoneS) : ∀ d ∈ laidD l, ∃ q : Nat, q < 4 ∧ d.who = (q : Int) := fun d hd => by
  obtain ⟨q, h1, h2, _⟩ := (ldAll_inv (l.take 40)).at_ d hd
  exact ⟨q, h1, h2⟩
theorem laid_place (l : List DoneS) : ∀ d ∈ laidD l, d.place < 100 := fun d hd => by
  obtain ⟨q, h1, h2, h3, _⟩ := (ldAll_inv (l.take 40)).at_ d hd
  have hb := (ldAll_bd (l.take 40).length (l.take 40)).2.1 q
  rw [List.take_length] at hb
  have : (l.take 40).length ≤ 40 := by rw [List.length_take]; omega
  omega
theorem laidD_length (l : List DoneS) : (laidD l).length ≤ 40 := (ldAll_bd 40 l).2.2

theorem ldD_good {w : World} {s : LdS} {x : DoneS} (hx : x.Ok ∧ RdK w x.ao x.len x.cap x.l) (ha : ∀ q, 0 ≤ s.a q ∧ s.a q ≤ 1000000) (hn : ∀ q, 0 ≤ s.n q ∧ s.n q ≤ 1000000) : (ldD s x).Ok ∧ RdK w (ldD s x).ao (ldD s x).len (ldD s x).cap (ldD s x).l := by
  obtain ⟨e1, e2, e3, e4⟩ := nearD_packets x
  obtain ⟨h0, h1, h2, h3, h4, h5, h6, h7, h8, h9, h10⟩ := nearD_ok hx.1
  have hq := who4_lt x
  have a1 := ha (who4 x)
  have n1 := hn (who4 x)
  have b1 := modZ_bd x.fr (n := 4) (by omega)
  have b2 := modZ_bd x.to (n := 9) (by omega)
  refine ⟨⟨?_, ?_, h2, h3, h4, h5, h6, h7, h8, ?_, ?_⟩, by simp only [ldD]; rw [e1, e2, e3, e4]; exact hx.2⟩
  · show I64 (who4 x : Int); unfold I64; omega
  · show I64 (s.n (who4 x)); unfold I64; omega
  · show I64 (s.a (who4 x) + modZ x.fr 4); unfold I64; omega
  · show I64 (if ldLast x then -1 else s.a (who4 x) + modZ x.fr 4 + modZ x.to 9); unfold I64; split <;> omega
theorem ldAll_good {w : World} {l : List DoneS} (h : GoodD w l) : ∀ k, k ≤ 40 → GoodD w (ldAll (l.take k)).out := by
  intro k
  induction k with
  | zero => intro _ d hd; simp [ldAll, ld0] at hd
  | succ k ih =>
    intro hk
    by_cases hl : k < l.length
    · rw [ldAll_snoc hl]
      obtain ⟨b1, b2, b3⟩ := ldAll_bd k l
      have ih' := ih (by omega)
      generalize ldAll (l.take k) = s at *
      intro d hd
      unfold ldStep at hd
      split at hd
      · exact ih' d hd
      · rcases List.mem_append.1 hd with hd | hd
        · exact ih' d hd
        · rw [List.mem_singleton] at hd
          subst hd
          exact ldD_good (h _ (by rw [nthD_eq hl]; exact List.getElem_mem _)) (fun q => by have := b1 q; omega) (fun q => by have := b2 q; omega)
    · have : l.take (k + 1) = l.take k := by rw [List.take_of_length_le (by omega), List.take_of_length_le (by omega)]
      rw [this]; exact ih (by omega)
theorem laid_good {w : World} {l : List DoneS} (h : GoodD w l) : GoodD w (laidD l) := ldAll_good h 40 (Nat.le_refl _)

/-! ### Ahead is an order -/
theorem MayH.irrefl {l : List DoneS} (h : MayH l) {i : Nat} (hi : i < l.length) : aheadB (nthD l i) (nthD l i) = false := by
  have := (right_iff _).1 (h.nth hi)
  rw [← Bool.not_eq_true, ahead_iff]; omega
theorem MayH.asymm {l : List DoneS} (h : MayH l) {i k : Nat} (hi : i < l.length) (hk : k < l.length) (ha : aheadB (nthD l i) (nthD l k) = true) : aheadB (nthD l k) (nthD l i) = false := by
  have h1 := (right_iff _).1 (h.nth hi)
  have h2 := (right_iff _).1 (h.nth hk)
  have h3 := (ahead_iff _ _).1 ha
  rw [← Bool.not_eq_true, ahead_iff]; omega
theorem MayH.trans {l : List DoneS} (h : MayH l) {i k j : Nat} (hk : k < l.length) (ha : aheadB (nthD l i) (nthD l k) = true) (hb : aheadB (nthD l k) (nthD l j) = true) : aheadB (nthD l i) (nthD l j) = true := by
  have h2 := (right_iff _).1 (h.nth hk)
  have h3 := (ahead_iff _ _).1 ha
  have h4 := (ahead_iff _ _).1 hb
  rw [ahead_iff]; omega
theorem MayH.total {l : List DoneS} (h : MayH l) {i k : Nat} (hi : i < l.length) (hk : k < l.length) (hne : i ≠ k) (hw : (nthD l i).who = (nthD l k).who) (hn : aheadB (nthD l i) (nthD l k) = false) : aheadB (nthD l k) (nthD l i) = true := by
  rcases (apart_iff _ _).1 (h.at_ hi hk hne) with e | ⟨_, e⟩ | ⟨_, e⟩
  · exact absurd hw e
  · rw [hn] at e; cases e
  · exact e

/-! ### How many are under way -/
theorem cntU_mono (l : List DoneS) (i : Nat) : ∀ {a b : Nat}, a ≤ b → cntU l i a ≤ cntU l i b := by
  intro a b h
  induction b with
  | zero => have : a = 0 := by omega
            subst this; exact Nat.le_refl _
  | succ b ih =>
    by_cases e : a = b + 1
    · subst e; exact Nat.le_refl _
    · have := ih (by omega); simp only [cntU]; omega
theorem cntU_at {l : List DoneS} {i k : Nat} (h : underB (nthD l k) (nthD l i) = true) : cntU l i (k + 1) = cntU l i k + 1 := by simp [cntU, h]
theorem under_self {l : List DoneS} (h : MayH l) {i : Nat} (hi : i < l.length) : underB (nthD l i) (nthD l i) = true := by
  have := (right_iff _).1 (h.nth hi)
  rw [under_iff]; omega
theorem cntU_pos {l : List DoneS} (h : MayH l) {i : Nat} (hi : i < l.length) : 1 ≤ cntU l i l.length := by
  have h1 := cntU_at (under_self h hi)
  have h2 := cntU_mono l i (show i + 1 ≤ l.length by omega)
  omega
theorem mostL_ge (l : List DoneS) : ∀ (n i : Nat), i < n → cntU l i l.length ≤ mostL l n := by
  intro n
  induction n with
  | zero => intro i hi; omega
  | succ n ih =>
    intro i hi
    simp only [mostL]
    by_cases e : i = n
    · subst e; omega
    · have := ih i (by omega); omega
theorem mostL_bd {l : List DoneS} {c : Nat} : ∀ n, (∀ i, i < n → cntU l i l.length ≤ c) → mostL l n ≤ c := by
  intro n
  induction n with
  | zero => intro _; exact Nat.zero_le _
  | succ n ih =>
    intro h
    simp only [mostL]
    have := ih fun i hi => h i (by omega)
    have := h n (by omega)
    omega
theorem most_zero {l : List DoneS} (h : MayH l) : mostD l = 0 ↔ l.length = 0 := by
  refine ⟨fun e => ?_, fun e => ?_⟩
  · rcases Nat.eq_zero_or_pos l.length with h0 | h0
    · exact h0
    · have h1 := cntU_pos h h0
      have h2 := mostL_ge l l.length 0 h0
      unfold mostD at e; omega
  · have := mostL_le l l.length; unfold mostD; omega

/-- Of any two the one is ahead of the other. -/
def LineH (l : List DoneS) : Prop := ∀ i, i < l.length → ∀ k, k < i → aheadB (nthD l i) (nthD l k) = true ∨ aheadB (nthD l k) (nthD l i) = true
theorem no_two {l : List DoneS} {a b i : Nat} (ha : underB (nthD l a) (nthD l i) = true) (hb : underB (nthD l b) (nthD l i) = true) : aheadB (nthD l a) (nthD l b) = false := by
  have h1 := (under_iff _ _).1 ha
  have h2 := (under_iff _ _).1 hb
  rw [← Bool.not_eq_true, ahead_iff]; omega
theorem cntU_line {l : List DoneS} (h : LineH l) (i : Nat) : ∀ n, n ≤ l.length → cntU l i n ≤ 1 ∧ (1 ≤ cntU l i n → ∃ j, j < n ∧ underB (nthD l j) (nthD l i) = true) := by
  intro n
  induction n with
  | zero => intro _; exact ⟨by simp [cntU], fun e => by simp [cntU] at e⟩
  | succ n ih =>
    intro hn
    obtain ⟨h1, h2⟩ := ih (by omega)
    by_cases hu : underB (nthD l n) (nthD l i) = true
    · rw [cntU_at hu]
      have : cntU l i n = 0 := by
        rcases Nat.eq_zero_or_pos (cntU l i n) with e | e
        · exact e
        · obtain ⟨j, hj, hj2⟩ := h2 e
          rcases h n (by omega) j hj with h3 | h3
          · rw [no_two hu hj2] at h3; cases h3
          · rw [no_two hj2 hu] at h3; cases h3
      exact ⟨by omega, fun _ => ⟨n, by omega, hu⟩⟩
    · have e : cntU l i (n + 1) = cntU l i n := by simp [cntU, hu]
      rw [e]
      exact ⟨h1, fun e => let ⟨j, hj, hj2⟩ := h2 e; ⟨j, by omega, hj2⟩⟩
theorem most_line {l : List DoneS} (h : MayH l) (h0 : 0 < l.length) : mostD l = 1 ↔ LineH l := by
  have hp := cntU_pos h h0
  have hg := mostL_ge l l.length 0 h0
  refine ⟨fun e => ?_, fun hl => ?_⟩
  · intro i hi k hk
    have hkl : k < l.length := by omega
    have two : ∀ a b, a < l.length → b < l.length → a ≠ b → underB (nthD l a) (nthD l b) = true → False := by
      intro a b ha hb hne hu
      have hs := under_self h hb
      have hm := mostL_ge l l.length b hb
      unfold mostD at e
      rcases Nat.lt_or_ge a b with hlt | hge
      · have h1 := cntU_at hu
        have h2 := cntU_at hs
        have h3 := cntU_mono l b (show a + 1 ≤ b by omega)
        have h4 := cntU_mono l b (show b + 1 ≤ l.length by omega)
        omega
      · have h1 := cntU_at hu
        have h2 := cntU_at hs
        have h3 := cntU_mono l b (show b + 1 ≤ a by omega)
        have h4 := cntU_mono l b (show a + 1 ≤ l.length by omega)
        omega
    by_cases h1 : aheadB (nthD l i) (nthD l k) = true
    · exact .inl h1
    · by_cases h2 : aheadB (nthD l k) (nthD l i) = true
      · exact .inr h2
      · exfalso
        rw [ahead_iff] at h1 h2
        rcases Int.le_total (nthD l k).fr (nthD l i).fr with hle | hle
        · exact two k i hkl hi (by omega) ((under_iff _ _).2 ⟨hle, by omega⟩)
        · exact two i k hi hkl (by omega) ((under_iff _ _).2 ⟨hle, by omega⟩)
  · have := mostL_bd (l := l) (c := 1) l.length fun i hi => (cntU_line hl i l.length (Nat.le_refl _)).1
    unfold mostD; omega

/-! ### Workers -/
def b2n (b : Bool) : Nat := if b = true then 1 else 0
def cnt4 (f : Nat → Bool) : Nat := b2n (f 0) + b2n (f 1) + b2n (f 2) + b2n (f 3)
theorem cnt4_upd {f : Nat → Bool} {q : Nat} (hq : q < 4) (h : f q = false) : cnt4 (updB f q true) = cnt4 f + 1 := by
  rcases (show q = 0 ∨ q = 1 ∨ q = 2 ∨ q = 3 by omega) with rfl | rfl | rfl | rfl <;> simp [cnt4, updB, b2n, h] <;> omega
theorem cnt4_mono {f g : Nat → Bool} (h : ∀ q, f q = true → g q = true) : cnt4 f ≤ cnt4 g := by
  have key : ∀ q, b2n (f q) ≤ b2n (g q) := by
    intro q
    cases hf : f q
    · simp [b2n]
    · rw [h q hf]; exact Nat.le_refl _
  have := key 0; have := key 1; have := key 2; have := key 3
  unfold cnt4; omega
def whoF (l : List DoneS) : Nat → Nat → Bool
  | 0 => fun _ => false
  | k + 1 => if (whoF l k (nthD l k).who.toNat) = true then whoF l k else updB (whoF l k) (nthD l k).who.toNat true
theorem whoF_step (l : List DoneS) (k q : Nat) : whoF l k q = true → whoF l (k + 1) q = true := by
  intro h
  simp only [whoF]
  split
  · exact h
  · simp only [updB]; split
    · rfl
    · exact h
theorem whoF_mono (l : List DoneS) (q : Nat) : ∀ {a b : Nat}, a ≤ b → whoF l a q = true → whoF l b q = true := by
  intro a b h
  induction b with
  | zero => intro h2; have : a = 0 := by omega
            subst this; exact h2
  | succ b ih =>
    intro h2
    by_cases e : a = b + 1
    · subst e; exact h2
    · exact whoF_step l b q (ih (by omega) h2)
theorem whoF_at (l : List DoneS) (k : Nat) : whoF l (k + 1) (nthD l k).who.toNat = true := by
  simp only [whoF]
  split
  · assumption
  · simp [updB]
/-- The workers of those that are under way. -/
def undF (l : List DoneS) (i : Nat) : Nat → Nat → Bool
  | 0 => fun _ => false
  | k + 1 => if underB (nthD l k) (nthD l i) = true then updB (undF l i k) (nthD l k).who.toNat true else undF l i k
theorem undF_some {l : List DoneS} {i : Nat} : ∀ {k q : Nat}, undF l i k q = true → ∃ j, j < k ∧ underB (nthD l j) (nthD l i) = true ∧ (nthD l j).who.toNat = q := by
  intro k
  induction k with
  | zero => intro q h; simp [undF] at h
  | succ k ih =>
    intro q h
    simp only [undF] at h
    by_cases hu : underB (nthD l k) (nthD l i) = true
    · rw [if_pos hu] at h
      simp only [updB] at h
      by_cases hq : q = (nthD l k).who.toNat
      · exact ⟨k, by omega, hu, hq.symm⟩
      · rw [if_neg hq] at h
        obtain ⟨j, h1, h2, h3⟩ := ih h
        exact ⟨j, by omega, h2, h3⟩
    · rw [if_neg hu] at h
      obtain ⟨j, h1, h2, h3⟩ := ih h
      exact ⟨j, by omega, h2, h3⟩
theorem cntU_und {l : List DoneS} (h : MayH l) (hw : ∀ k, k < l.length → (nthD l k).who.toNat < 4) (i : Nat) : ∀ n, n ≤ l.length → cntU l i n = cnt4 (undF l i n) := by
  intro n
  induction n with
  | zero => intro _; rfl
  | succ n ih =>
    intro hn
    by_cases hu : underB (nthD l n) (nthD l i) = true
    · rw [cntU_at hu, ih (by omega)]
      have hf : undF l i n (nthD l n).who.toNat = false := by
        rw [← Bool.not_eq_true]
        intro hc
        obtain ⟨j, hj, hj2, hj3⟩ := undF_some hc
        have hr1 := (right_iff _).1 (h.nth (show j < l.length by omega))
        have hr2 := (right_iff _).1 (h.nth (show n < l.length by omega))
        have hwe : (nthD l j).who = (nthD l n).who := by omega
        cases ha : aheadB (nthD l j) (nthD l n)
        · have := h.total (show j < l.length by omega) (show n < l.length by omega) (by omega) hwe ha
          rw [no_two hu hj2] at this; cases this
        · rw [no_two hj2 hu] at ha; cases ha
      simp only [undF]
      rw [if_pos hu, cnt4_upd (hw n (by omega)) hf]
    · have e : cntU l i (n + 1) = cntU l i n := by simp [cntU, hu]
      rw [e, ih (by omega)]
      simp only [undF]
      rw [if_neg hu]
theorem most_who {l : List DoneS} (h : MayH l) (hw : ∀ k, k < l.length → (nthD l k).who.toNat < 4) : mostD l ≤ cnt4 (whoF l l.length) := by
  refine mostL_bd l.length fun i hi => ?_
  rw [cntU_und h hw i l.length (Nat.le_refl _)]
  refine cnt4_mono fun q hq => ?_
  obtain ⟨j, hj, _, rfl⟩ := undF_some hq
  exact whoF_mono l _ (show j + 1 ≤ l.length by omega) (whoF_at l j)
end Go.Proofs.Ytonldjkmbapjeaa
