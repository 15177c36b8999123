/- The first two events that race: the reference. -/
import Derived.Test.YtkhhjjjpbfnlmaaRaceB
namespace Go.Proofs.Ytkhhjjjpbfnlmaa
set_option linter.unusedVariables false
set_option linter.unusedSimpArgs false
open Go.RowKit Go.Proofs.YtkhhjjjpbfnlmaaMem Go.Proofs.YtkhhjjjpbfnlmaaFlat Go.Proofs.YtkhhjjjpbfnlmaaMapK

def raceB (l : List EvS) (i j : Nat) : Bool := conflictB (nthE l i) (nthE l j) && !leqC (nthC (allC l) i) (nthC (allC l) j)
def firstI (p : Nat → Bool) : Nat → Option Nat
  | 0 => none
  | n + 1 => match firstI p n with
    | some i => some i
    | none => if p n = true then some n else none
theorem firstI_spec (p : Nat → Bool) : ∀ n, (∃ i, firstI p n = some i ∧ i < n ∧ p i = true ∧ ∀ k, k < i → p k = false) ∨ (firstI p n = none ∧ ∀ k, k < n → p k = false) := by
  intro n
  induction n with
  | zero => exact .inr ⟨rfl, fun k hk => by omega⟩
  | succ n ih =>
    rcases ih with ⟨i, h1, h2, h3, h4⟩ | ⟨h1, h2⟩
    · exact .inl ⟨i, by simp [firstI, h1], by omega, h3, h4⟩
    · cases hp : p n
      · refine .inr ⟨by simp [firstI, h1, hp], fun k hk => ?_⟩
        by_cases hkn : k = n
        · subst hkn; exact hp
        · exact h2 k (by omega)
      · exact .inl ⟨n, by simp [firstI, h1, hp], by omega, hp, h2⟩
def firstJ (q : Nat → Option Nat) : Nat → Option (Nat × Nat)
  | 0 => none
  | n + 1 => match firstJ q n with
    | some r => some r
    | none => (q n).map fun i => (i, n)
theorem firstJ_spec (q : Nat → Option Nat) : ∀ n, (∃ i j, firstJ q n = some (i, j) ∧ j < n ∧ q j = some i ∧ ∀ k, k < j → q k = none) ∨ (firstJ q n = none ∧ ∀ k, k < n → q k = none) := by
  intro n
  induction n with
  | zero => exact .inr ⟨rfl, fun k hk => by omega⟩
  | succ n ih =>
    rcases ih with ⟨i, j, h1, h2, h3, h4⟩ | ⟨h1, h2⟩
    · exact .inl ⟨i, j, by simp [firstJ, h1], by omega, h3, h4⟩
    · cases hp : q n with
      | none =>
        refine .inr ⟨by simp [firstJ, h1, hp], fun k hk => ?_⟩
        by_cases hkn : k = n
        · subst hkn; exact hp
        · exact h2 k (by omega)
      | some i => exact .inl ⟨i, n, by simp [firstJ, h1, hp], by omega, hp, h2⟩
/-- The first two that race. -/
def firstR (l : List EvS) : Option (Nat × Nat) := firstJ (fun j => firstI (fun i => raceB l i j) j) (allC l).length
theorem firstR_spec (l : List EvS) : (∃ i j, firstR l = some (i, j) ∧ j < (allC l).length ∧ i < j ∧ raceB l i j = true ∧ (∀ i', i' < i → raceB l i' j = false) ∧ ∀ j', j' < j → ∀ i', i' < j' → raceB l i' j' = false) ∨ (firstR l = none ∧ ∀ j', j' < (allC l).length → ∀ i', i' < j' → raceB l i' j' = false) := by
  have key : ∀ j, firstI (fun i => raceB l i j) j = none → ∀ i', i' < j → raceB l i' j = false := by
    intro j h
    rcases firstI_spec (fun i => raceB l i j) j with ⟨i, h1, _⟩ | ⟨_, h2⟩
    · rw [h] at h1; cases h1
    · exact h2
  rcases firstJ_spec (fun j => firstI (fun i => raceB l i j) j) (allC l).length with ⟨i, j, h1, h2, h3, h4⟩ | ⟨h1, h2⟩
  · refine .inl ⟨i, j, h1, h2, ?_⟩
    rcases firstI_spec (fun i => raceB l i j) j with ⟨i', g1, g2, g3, g4⟩ | ⟨g1, _⟩
    · rw [h3] at g1; cases g1
      exact ⟨g2, g3, g4, fun j' hj' => key j' (h4 j' hj')⟩
    · rw [h3] at g1; cases g1
  · exact .inr ⟨h1, fun j' hj' => key j' (h2 j' hj')⟩
theorem firstR_some {l : List EvS} {i j : Nat} (hj : j < (allC l).length) (hi : i < j) (hr : raceB l i j = true) (h1 : ∀ i', i' < i → raceB l i' j = false) (h2 : ∀ j', j' < j → ∀ i', i' < j' → raceB l i' j' = false) : firstR l = some (i, j) := by
  rcases firstR_spec l with ⟨a, b, e, g1, g2, g3, g4, g5⟩ | ⟨_, g⟩
  · have hbj : b = j := by
      rcases Nat.lt_trichotomy b j with hlt | heq | hgt
      · have := h2 b hlt a g2; rw [g3] at this; cases this
      · exact heq
      · have := g5 j hgt i hi; rw [hr] at this; cases this
    subst hbj
    have hai : a = i := by
      rcases Nat.lt_trichotomy a i with hlt | heq | hgt
      · have := h1 a hlt; rw [g3] at this; cases this
      · exact heq
      · have := g4 i hgt; rw [hr] at this; cases this
    subst hai
    exact e
  · have := g j hj i hi; rw [hr] at this; cases this
theorem firstR_none {l : List EvS} (h : ∀ j', j' < (allC l).length → ∀ i', i' < j' → raceB l i' j' = false) : firstR l = none := by
  rcases firstR_spec l with ⟨a, b, e, g1, g2, g3, _⟩ | ⟨e, _⟩
  · have := h b g1 a g2; rw [g3] at this; cases this
  · exact e
def resF : Option (Nat × Nat) → Value
  | some r => .tuple #[.int .i64 r.1, .int .i64 r.2, .bool true]
  | none => .tuple #[.int .i64 0, .int .i64 0, .bool false]
theorem allC_le (l : List EvS) : (allC l).length ≤ l.length := by rw [allC_length]; split <;> omega
theorem allC_right {l : List EvS} {j : Nat} (h : j < (allC l).length) : rightB l = true := by
  cases hr : rightB l
  · rw [allC_length, if_neg (by rw [hr]; simp)] at h; omega
  · rfl

set_option maxHeartbeats 4000000 in
theorem refFirst_any (ao : Option Addr) (n cap : Nat) (l : List EvS) (w : World) (h : RdE w ao n cap l) (hn : n ≤ 1000) :
    Calls Try.prog 13 #[.slice ao n cap] w fun e w' => e = .returned (resF (firstR l)) ∧ Below w.heap.size w w' := by
  have hfit := Lib.hid (allC_fits l (by rw [h.len]; exact hn))
  have h64 := Lib.hid (allC_64 l)
  have hmn := allC_le l
  rw [h.len] at hmn
  obtain ⟨m, hm⟩ : ∃ m, (allC l).length = m := ⟨_, rfl⟩
  rw [hm] at hmn
  have HM := Lib.hid hm
  have L0 := Lib.hid h.len
  clear hm
  go_enter Try.func13, Try.ntmps13
  go_wp2_with fail
  refine (refClocks_any ao n cap l _ h hn).mono ?_
  rintro e W ⟨v, rfl, hown, hbW⟩
  obtain ⟨ao', cap', rfl⟩ := hown.slice
  have rd := hown.rd hfit.out
  rw [HM.out] at rd ⊢
  clear hown
  have hW := h.below hbW
  go_wp2_with fail
  go_loopw [6, 7] (fun v6 v7 wr => ∃ j : Nat, j ≤ m ∧ v6 = .int .i64 j ∧ (∀ j', j' < j → ∀ i', i' < j' → raceB l i' j' = false) ∧ Below W.heap.size W wr) (fun v6 _ _ => m - (intOf v6).toNat)
  case atStart => exact ⟨0, Nat.zero_le _, rfl, fun j' hj' => absurd hj' (Nat.not_lt_zero _), Below.refl _ _⟩
  case round =>
    obtain ⟨j, hj, rfl, hq, hbr⟩ := hrel
    have HQ := Lib.hid hq
    clear hq
    by_cases hl : j < m
    · have hrt := Lib.hid (allC_right (l := l) (j := j) (by rw [HM.out]; exact hl))
      go_wp2_with fail
      go_loopw [7] (fun v7 wr => ∃ i : Nat, i ≤ j ∧ v7 = .int .i64 i ∧ (∀ i', i' < i → raceB l i' j = false) ∧ Below W.heap.size W wr) (fun v7 _ => j - (intOf v7).toNat)
      case atStart => exact ⟨0, Nat.zero_le _, rfl, fun i' hi' => absurd hi' (Nat.not_lt_zero _), hbr⟩
      case round =>
        obtain ⟨i, hi, rfl, hq, hbr2⟩ := hrel
        have HI := Lib.hid hq
        clear hq hbr
        by_cases hl2 : i < j
        · obtain ⟨b, o, rfl, hlt, hci⟩ := hW.cells (show i < n by omega)
          obtain ⟨b', o', e', _, hcj⟩ := hW.cells (show j < n by omega)
          simp only [Option.some.injEq, Addr.mk.injEq, and_true] at e'
          obtain ⟨rfl, rfl⟩ := e'
          obtain ⟨g, off, a1, c1, rfl, hltg, hc1, hr1⟩ := rd.at_ i (by omega)
          obtain ⟨g', off', a2, c2, e', _, hc2, hr2⟩ := rd.at_ j (by omega)
          simp only [Option.some.injEq, Addr.mk.injEq, and_true] at e'
          obtain ⟨rfl, rfl⟩ := e'
          obtain ⟨i0, i1, i2, i3, i4⟩ := hci W (Below.refl _ _)
          obtain ⟨j0, j1, j2, j3, j4⟩ := hcj W (Below.refl _ _)
          clear hci hcj
          have l1 := nthC_length h64.out i
          have l2 := nthC_length h64.out j
          have kin : (i : Int) < n := by omega
          have kjn : (j : Int) < n := by omega
          have kim : (i : Int) < m := by omega
          have kjm : (j : Int) < m := by omega
          have kij : (i : Int) < j := by omega
          have hcq : conf2B (nthE l i) (nthE l j) = conflictB (nthE l i) (nthE l j) :=
            conf2_eq (right_nth hrt.out (show i < l.length by rw [L0.out]; omega)).2.2.2 (right_nth hrt.out (show j < l.length by rw [L0.out]; omega)).2.2.2
          cases hcf : conf2B (nthE l i) (nthE l j)
          · have E : Hid (raceB l i j = false) := by unfold Hid raceB; rw [← hcq, hcf]; rfl
            clear hcq
            go_wp2_with fail
            refine wp_region_held_drew (S := fun w' => Below W.heap.size W w' ∧ (∀ b o, b < W.heap.size → w'.cell? ⟨b, o, none⟩ = W.cell? ⟨b, o, none⟩)) (by kernel_rfl) ?_ (fun hHeld => ?_)
            · exact hs_refl hbr2.drew
            refine wpAnyH_take (i := 0) (v := ?_) rfl (by kernel_rfl) (by kernel_rfl) (by kernel_rfl) (fun _ _ _ h => h) (Or.inl ⟨by rfl, ?_⟩) (by assumption) ?_
            rotate_left
            · intro w hSw
              (try dsimp only at hSw)
              first | (go_simp; done) | (go_simp; with_reducible rfl)
            try simp only [List.getElem_toArray, List.getElem_cons_succ, List.getElem_cons_zero, Act.put, List.setIfInBounds_toArray, List.set_cons_zero, List.set_cons_succ]
            refine wpAnyH_take (i := 1) (v := ?_) rfl (by kernel_rfl) (by kernel_rfl) (by kernel_rfl) (fun _ _ _ h => h) (Or.inl ⟨by rfl, ?_⟩) (by assumption) ?_
            rotate_left
            · intro w hSw
              (try dsimp only at hSw)
              first | (go_simp; done) | (go_simp; with_reducible rfl)
            try simp only [List.getElem_toArray, List.getElem_cons_succ, List.getElem_cons_zero, Act.put, List.setIfInBounds_toArray, List.set_cons_zero, List.set_cons_succ]
            refine wpAnyH_take (i := 2) (v := ?_) rfl (by kernel_rfl) (by kernel_rfl) (by kernel_rfl) (fun _ _ _ h => h) (Or.inl ⟨by rfl, ?_⟩) (by assumption) ?_
            rotate_left
            · intro w hSw
              (try dsimp only at hSw)
              first | (go_simp; done) | (go_simp; with_reducible rfl)
            try simp only [List.getElem_toArray, List.getElem_cons_succ, List.getElem_cons_zero, Act.put, List.setIfInBounds_toArray, List.set_cons_zero, List.set_cons_succ]
            refine wpAnyH_take (i := 3) (v := ?_) rfl (by kernel_rfl) (by kernel_rfl) (by kernel_rfl) (fun _ _ _ h => h) (Or.inl ⟨by rfl, ?_⟩) (by assumption) ?_
            rotate_left
            · intro w hSw
              (try dsimp only at hSw)
              first | (go_simp; done) | (go_simp; with_reducible rfl)
            try simp only [List.getElem_toArray, List.getElem_cons_succ, List.getElem_cons_zero, Act.put, List.setIfInBounds_toArray, List.set_cons_zero, List.set_cons_succ]
            refine wpAnyH_take (i := 4) (v := ?_) rfl (by kernel_rfl) (by kernel_rfl) (by kernel_rfl) (fun _ _ _ h => h) (Or.inl ⟨by rfl, ?_⟩) (by assumption) ?_
            rotate_left
            · intro w hSw
              (try dsimp only at hSw)
              first | (go_simp; done) | (go_simp; with_reducible rfl)
            try simp only [List.getElem_toArray, List.getElem_cons_succ, List.getElem_cons_zero, Act.put, List.setIfInBounds_toArray, List.set_cons_zero, List.set_cons_succ]
            refine wpAnyH_take (i := 5) (v := ?_) rfl (by kernel_rfl) (by kernel_rfl) (by kernel_rfl) (fun _ _ _ h => h) (Or.inl ⟨by rfl, ?_⟩) (by assumption) ?_
            rotate_left
            · intro w hSw
              (try dsimp only at hSw)
              first | (go_simp; done) | (go_simp; with_reducible rfl)
            try simp only [List.getElem_toArray, List.getElem_cons_succ, List.getElem_cons_zero, Act.put, List.setIfInBounds_toArray, List.set_cons_zero, List.set_cons_succ]
            refine wpAnyH_take (i := 6) (v := ?_) rfl (by kernel_rfl) (by kernel_rfl) (by kernel_rfl) (fun _ _ _ h => h) (Or.inl ⟨by rfl, ?_⟩) (by assumption) ?_
            rotate_left
            · intro w hSw
              (try dsimp only at hSw)
              first | (go_simp; done) | (go_simp; with_reducible rfl)
            try simp only [List.getElem_toArray, List.getElem_cons_succ, List.getElem_cons_zero, Act.put, List.setIfInBounds_toArray, List.set_cons_zero, List.set_cons_succ]
            refine wpAnyH_take (i := 7) (v := ?_) rfl (by kernel_rfl) (by kernel_rfl) (by kernel_rfl) (fun _ _ _ h => h) (Or.inl ⟨by rfl, ?_⟩) (by assumption) ?_
            rotate_left
            · intro w hSw
              (try dsimp only at hSw)
              first | (go_simp; done) | (go_simp; with_reducible rfl)
            try simp only [List.getElem_toArray, List.getElem_cons_succ, List.getElem_cons_zero, Act.put, List.setIfInBounds_toArray, List.set_cons_zero, List.set_cons_succ]
            refine wpAnyH_ready (rs := [8]) (by kernel_rfl) (by simp) ?_
            refine AllReadyH.cons rfl (fun K hK => ?_) AllReadyH.nil
            go_simp
            (go_at_call 23; refine (refConflict_any (nthE l i) (nthE l j) _).mono ?_; rw [hcf]; rintro e w' ⟨rfl, hb'⟩; go_wp2_with fail)
            refine hK.out _ _ ?_ (fun hHeld => ?_)
            · exact hs_step hHeld hb'
            clear hK K
            try simp only [List.getElem_toArray, List.getElem_cons_succ, List.getElem_cons_zero, Act.put, List.setIfInBounds_toArray, List.set_cons_zero, List.set_cons_succ]
            refine wpAnyH_take (i := 9) (v := ?_) rfl (by kernel_rfl) (by kernel_rfl) (by kernel_rfl) (fun _ _ _ h => h) (Or.inl ⟨by rfl, ?_⟩) (by assumption) ?_
            rotate_left
            · intro w hSw
              (try dsimp only at hSw)
              first | (go_simp; done) | (go_simp; with_reducible rfl)
            try simp only [List.getElem_toArray, List.getElem_cons_succ, List.getElem_cons_zero, Act.put, List.setIfInBounds_toArray, List.set_cons_zero, List.set_cons_succ]
            refine wpAnyH_take (i := 10) (v := undef) rfl (by kernel_rfl) (by kernel_rfl) (by kernel_rfl) (fun _ _ _ h => h) (Or.inr ⟨by rfl, rfl⟩) (by assumption) ?_
            try simp only [List.getElem_toArray, List.getElem_cons_succ, List.getElem_cons_zero, Act.put, List.setIfInBounds_toArray, List.set_cons_zero, List.set_cons_succ]
            refine wpAnyH_take (i := 11) (v := undef) rfl (by kernel_rfl) (by kernel_rfl) (by kernel_rfl) (fun _ _ _ h => h) (Or.inr ⟨by rfl, rfl⟩) (by assumption) ?_
            try simp only [List.getElem_toArray, List.getElem_cons_succ, List.getElem_cons_zero, Act.put, List.setIfInBounds_toArray, List.set_cons_zero, List.set_cons_succ]
            refine wpAnyH_take (i := 12) (v := undef) rfl (by kernel_rfl) (by kernel_rfl) (by kernel_rfl) (fun _ _ _ h => h) (Or.inr ⟨by rfl, rfl⟩) (by assumption) ?_
            try simp only [List.getElem_toArray, List.getElem_cons_succ, List.getElem_cons_zero, Act.put, List.setIfInBounds_toArray, List.set_cons_zero, List.set_cons_succ]
            refine wpAnyH_take (i := 13) (v := undef) rfl (by kernel_rfl) (by kernel_rfl) (by kernel_rfl) (fun _ _ _ h => h) (Or.inr ⟨by rfl, rfl⟩) (by assumption) ?_
            try simp only [List.getElem_toArray, List.getElem_cons_succ, List.getElem_cons_zero, Act.put, List.setIfInBounds_toArray, List.set_cons_zero, List.set_cons_succ]
            refine wpAnyH_take (i := 14) (v := undef) rfl (by kernel_rfl) (by kernel_rfl) (by kernel_rfl) (fun _ _ _ h => h) (Or.inr ⟨by rfl, rfl⟩) (by assumption) ?_
            try simp only [List.getElem_toArray, List.getElem_cons_succ, List.getElem_cons_zero, Act.put, List.setIfInBounds_toArray, List.set_cons_zero, List.set_cons_succ]
            refine wpAnyH_take (i := 15) (v := undef) rfl (by kernel_rfl) (by kernel_rfl) (by kernel_rfl) (fun _ _ _ h => h) (Or.inr ⟨by rfl, rfl⟩) (by assumption) ?_
            try simp only [List.getElem_toArray, List.getElem_cons_succ, List.getElem_cons_zero, Act.put, List.setIfInBounds_toArray, List.set_cons_zero, List.set_cons_succ]
            refine wpAnyH_take (i := 16) (v := undef) rfl (by kernel_rfl) (by kernel_rfl) (by kernel_rfl) (fun _ _ _ h => h) (Or.inr ⟨by rfl, rfl⟩) (by assumption) ?_
            try simp only [List.getElem_toArray, List.getElem_cons_succ, List.getElem_cons_zero, Act.put, List.setIfInBounds_toArray, List.set_cons_zero, List.set_cons_succ]
            refine wpAnyH_take (i := 17) (v := undef) rfl (by kernel_rfl) (by kernel_rfl) (by kernel_rfl) (fun _ _ _ h => h) (Or.inr ⟨by rfl, rfl⟩) (by assumption) ?_
            try simp only [List.getElem_toArray, List.getElem_cons_succ, List.getElem_cons_zero, Act.put, List.setIfInBounds_toArray, List.set_cons_zero, List.set_cons_succ]
            refine wpAnyH_take (i := 18) (v := undef) rfl (by kernel_rfl) (by kernel_rfl) (by kernel_rfl) (fun _ _ _ h => h) (Or.inr ⟨by rfl, rfl⟩) (by assumption) ?_
            try simp only [List.getElem_toArray, List.getElem_cons_succ, List.getElem_cons_zero, Act.put, List.setIfInBounds_toArray, List.set_cons_zero, List.set_cons_succ]
            refine wpAnyH_take (i := 19) (v := undef) rfl (by kernel_rfl) (by kernel_rfl) (by kernel_rfl) (fun _ _ _ h => h) (Or.inr ⟨by rfl, rfl⟩) (by assumption) ?_
            try simp only [List.getElem_toArray, List.getElem_cons_succ, List.getElem_cons_zero, Act.put, List.setIfInBounds_toArray, List.set_cons_zero, List.set_cons_succ]
            refine wpAnyH_take (i := 20) (v := ?_) rfl (by kernel_rfl) (by kernel_rfl) (by kernel_rfl) (fun _ _ _ h => h) (Or.inl ⟨by rfl, ?_⟩) (by assumption) ?_
            rotate_left
            · intro w hSw
              (try dsimp only at hSw)
              first | (go_simp; done) | (go_simp; with_reducible rfl)
            try simp only [List.getElem_toArray, List.getElem_cons_succ, List.getElem_cons_zero, Act.put, List.setIfInBounds_toArray, List.set_cons_zero, List.set_cons_succ]
            refine wpAnyH_done (by kernel_rfl) ?_ _
            go_wp2
            go_roundw
            case rel => exact ⟨i + 1, by omega, by go_num, fun i' hi' => by
              by_cases hii : i' = i
              · subst hii; exact E.out
              · exact HI.out i' (by omega), (‹Below W.heap.size W _ ∧ _›).1⟩
            case measure => simp [intOf]; omega
          · cases r : leqC (nthC (allC l) i) (nthC (allC l) j)
            · have E : Hid (firstR l = some (i, j)) := firstR_some (by rw [HM.out]; exact hl) hl2 (by unfold raceB; rw [← hcq, hcf, r]; rfl) HI.out HQ.out
              clear hcq
              go_wp2_with fail
              go_region_held3 (fun w' => Below W.heap.size W w' ∧ (∀ b o, b < W.heap.size → w'.cell? ⟨b, o, none⟩ = W.cell? ⟨b, o, none⟩)) (first | exact hs_refl hbr2.drew | assumption | exact hs_step (by assumption) (by assumption))
                (first
                  | (go_at_call 23; (with_reducible refine (refConflict_any (nthE l i) (nthE l j) _).mono ?_); rw [hcf]; rintro e w' ⟨rfl, hb'⟩)
                  | (go_at_call 25; (with_reducible refine (refLeq_any a1 a2 _ c1 _ c2 _ _ _ (hr1.held (by assumption)) (hr2.held (by assumption))).mono ?_); rw [r]; rintro e w' ⟨rfl, rfl⟩))
              go_wp2
              refine bodyPost_ret (v := .tuple #[.int .i64 i, .int .i64 j, .bool true]) (by simp [results, Try.results13, go_sem]) rfl ?_
              exact ⟨by rw [E.out]; rfl, below_step hbW (‹Below W.heap.size W _ ∧ _›).1⟩
            · have E : Hid (raceB l i j = false) := by unfold Hid raceB; rw [r]; simp
              clear hcq
              go_wp2_with fail
              go_region_held3 (fun w' => Below W.heap.size W w' ∧ (∀ b o, b < W.heap.size → w'.cell? ⟨b, o, none⟩ = W.cell? ⟨b, o, none⟩)) (first | exact hs_refl hbr2.drew | assumption | exact hs_step (by assumption) (by assumption))
                (first
                  | (go_at_call 23; (with_reducible refine (refConflict_any (nthE l i) (nthE l j) _).mono ?_); rw [hcf]; rintro e w' ⟨rfl, hb'⟩)
                  | (go_at_call 25; (with_reducible refine (refLeq_any a1 a2 _ c1 _ c2 _ _ _ (hr1.held (by assumption)) (hr2.held (by assumption))).mono ?_); rw [r]; rintro e w' ⟨rfl, rfl⟩))
              go_wp2
              go_roundw
              case rel => exact ⟨i + 1, by omega, by go_num, fun i' hi' => by
                by_cases hii : i' = i
                · subst hii; exact E.out
                · exact HI.out i' (by omega), (‹Below W.heap.size W _ ∧ _›).1⟩
              case measure => simp [intOf]; omega
        · obtain rfl : i = j := by omega
          go_wp2
          go_roundw
          case rel => exact ⟨i + 1, by omega, by go_num, fun j' hj' => by
            by_cases hjj : j' = i
            · subst hjj; exact HI.out
            · exact HQ.out j' (by omega), hbr2⟩
          case measure => simp [intOf]; omega
    · obtain rfl : j = m := by omega
      have E : Hid (firstR l = none) := firstR_none (by rw [HM.out]; exact HQ.out)
      go_wp2
      refine bodyPost_ret (v := .tuple #[.int .i64 0, .int .i64 0, .bool false]) (by simp [results, Try.results13, go_sem]) rfl ?_
      exact ⟨by rw [E.out]; rfl, below_step hbW hbr⟩
end Go.Proofs.Ytkhhjjjpbfnlmaa
