/- The first two events that race: the program. -/
import Derived.Test.YtkhhjjjpbfnlmaaRaceG
namespace Go.Proofs.Ytkhhjjjpbfnlmaa
set_option linter.unusedVariables false
set_option linter.unusedSimpArgs false
open Go.RowKit Go.Proofs.YtkhhjjjpbfnlmaaMem Go.Proofs.YtkhhjjjpbfnlmaaFlat Go.Proofs.YtkhhjjjpbfnlmaaMapK

/-- Who came to a place so far. -/
def idxN (l : List EvS) (x : LocS) (j : Nat) : List Nat := (List.range j).filter fun i => decide ((nthE l i).loc = x)
def idxI (l : List EvS) (x : LocS) (j : Nat) : List Int := (idxN l x j).map fun i : Nat => (i : Int)
theorem idxN_mem {l : List EvS} {x : LocS} {j i : Nat} : i ∈ idxN l x j ↔ i < j ∧ (nthE l i).loc = x := by simp [idxN]
theorem idxI_len (l : List EvS) (x : LocS) (j : Nat) : (idxI l x j).length = (idxN l x j).length := by simp [idxI]
theorem idxN_le (l : List EvS) (x : LocS) (j : Nat) : (idxN l x j).length ≤ j := by
  have := List.length_filter_le (fun i => decide ((nthE l i).loc = x)) (List.range j)
  simpa [idxN] using this
theorem idxI_same (l : List EvS) (j : Nat) : idxI l (nthE l j).loc (j + 1) = idxI l (nthE l j).loc j ++ [(j : Int)] := by
  simp [idxI, idxN, List.range_succ, List.filter_append]
theorem idxI_other {l : List EvS} {j : Nat} {x : LocS} (h : (nthE l j).loc ≠ x) : idxI l x (j + 1) = idxI l x j := by
  simp [idxI, idxN, List.range_succ, List.filter_append, h]
theorem idxI_fits (l : List EvS) (x : LocS) {j : Nat} (hj : j ≤ 1000000) : ∀ z ∈ idxI l x j, I64 z := by
  intro z hz
  simp only [idxI, List.mem_map] at hz
  obtain ⟨i, hi, rfl⟩ := hz
  have := (idxN_mem.1 hi).1
  unfold I64; omega
theorem idx_at {l : List EvS} {x : LocS} {j k : Nat} (hk : k < (idxN l x j).length) : ∃ i, (idxN l x j)[k]? = some i ∧ nth (idxI l x j) k = (i : Int) ∧ i < j ∧ (nthE l i).loc = x := by
  have hm := idxN_mem.1 (List.getElem_mem hk)
  refine ⟨(idxN l x j)[k], by simp [hk], ?_, hm.1, hm.2⟩
  rw [nth_eq (by rw [idxI_len]; exact hk)]; simp [idxI]
theorem idx_lt {l : List EvS} {x : LocS} {j k k' i i' : Nat} (h : (idxN l x j)[k]? = some i) (h' : (idxN l x j)[k']? = some i') (hlt : i' < i) : k' < k := by
  have hp : (idxN l x j).Pairwise (· < ·) := List.Pairwise.filter _ List.pairwise_lt_range
  rw [List.pairwise_iff_getElem] at hp
  obtain ⟨hk, e⟩ := List.getElem?_eq_some_iff.1 h
  obtain ⟨hk', e'⟩ := List.getElem?_eq_some_iff.1 h'
  rcases Nat.lt_trichotomy k' k with h1 | h1 | h1
  · exact h1
  · subst h1; omega
  · have := hp k k' hk hk' h1; omega
/-- So far nobody who came to the place races. -/
def Calm (l : List EvS) (j k : Nat) : Prop := ∀ k' i, k' < k → (idxN l (nthE l j).loc j)[k']? = some i → raceB l i j = false
theorem race_loc {l : List EvS} {i j : Nat} (h : (nthE l i).loc ≠ (nthE l j).loc) : raceB l i j = false := by simp [raceB, conflictB, h]
theorem calm_before {l : List EvS} {j k i : Nat} (h : Calm l j k) (hi : (idxN l (nthE l j).loc j)[k]? = some i) : ∀ i', i' < i → raceB l i' j = false := by
  intro i' hlt
  by_cases hl : (nthE l i').loc = (nthE l j).loc
  · have hij := (idxN_mem.1 (List.mem_of_getElem? hi)).1
    obtain ⟨k', hk'⟩ := List.mem_iff_getElem?.1 (idxN_mem.2 ⟨show i' < j by omega, hl⟩)
    exact h k' i' (idx_lt hi hk' hlt) hk'
  · exact race_loc hl
theorem calm_all {l : List EvS} {j : Nat} (h : Calm l j (idxN l (nthE l j).loc j).length) : ∀ i', i' < j → raceB l i' j = false := by
  intro i' hlt
  by_cases hl : (nthE l i').loc = (nthE l j).loc
  · obtain ⟨k', hk'⟩ := List.mem_iff_getElem?.1 (idxN_mem.2 ⟨hlt, hl⟩)
    exact h k' i' (List.getElem?_eq_some_iff.1 hk').1 hk'
  · exact race_loc hl
theorem calm_next {l : List EvS} {j k i : Nat} (h : Calm l j k) (hi : (idxN l (nthE l j).loc j)[k]? = some i) (hr : raceB l i j = false) : Calm l j (k + 1) := by
  intro k' i' hk' hi'
  by_cases hkk : k' = k
  · subst hkk; rw [hi] at hi'; cases hi'; exact hr
  · exact h k' i' (by omega) hi'

/-- What First holds between two events. -/
def IdxSt (w : World) (base b : Nat) (l : List EvS) (j : Nat) : Prop :=
  ∃ m, IsMapAt w b LocS.val m ∧ (∀ x, (getM m x = none ∧ idxI l x j = []) ∨ ∃ v, getM m x = some v ∧ w.ownsRow base 3 1 v (idxI l x j).length (ints (idxI l x j))) ∧
    (∀ x y v v' q, x ≠ y → getM m x = some v → getM m y = some v' → v.ownBlock = some q → v'.ownBlock ≠ some q)
theorem IdxSt.below {w w' : World} {base b : Nat} {l : List EvS} {j : Nat} (h : IdxSt w base b l j) (hb : Below w.heap.size w w') : IdxSt w' base b l j := by
  obtain ⟨m, h1, h2, h3⟩ := h
  refine ⟨m, h1.of_eq (hb.block _ h1.lt), fun x => ?_, h3⟩
  rcases h2 x with h | ⟨v, h4, h5⟩
  · exact .inl h
  · exact .inr ⟨v, h4, owns_below (B := 0) h5 hb⟩
theorem idx_start (w : World) (base : Nat) (l : List EvS) : IdxSt (w.alloc (.map #[] 0)) base w.heap.size l 0 :=
  ⟨[], IsMapAt.made w _, fun x => .inl ⟨rfl, rfl⟩, fun x y v v' q _ h => by cases h⟩
theorem getM_with {κ : Type} [DecidableEq κ] (m : List (κ × Value)) (k x : κ) (z : Value) (h : x ≠ k) : getM (withM m k z) x = getM m x := by
  unfold withM; split
  · rfl
  · have : ¬ k = x := fun e => h e.symm
    rw [getM_append]; simp [getM, this]
/-- One more came. -/
theorem idx_next {w w1 w2 w3 : World} {base b : Nat} {l : List EvS} {j : Nat} {m : List (LocS × Value)} {v v' : Value}
    (h2 : ∀ x, (getM m x = none ∧ idxI l x j = []) ∨ ∃ v, getM m x = some v ∧ w.ownsRow base 3 1 v (idxI l x j).length (ints (idxI l x j)))
    (h3 : ∀ x y v v' q, x ≠ y → getM m x = some v → getM m y = some v' → v.ownBlock = some q → v'.ownBlock ≠ some q)
    (hv : (getM m (nthE l j).loc).getD (.slice none 0 0) = v) (g1 : w.grownBy w1 (some b)) (g2 : w1.grownBy w2 v.ownBlock) (g3 : w2.grownBy w3 (some b)) (hb : b < base)
    (hf : FreshOr w1 v v') (ho : w2.ownsRow base 3 1 v' ((idxI l (nthE l j).loc j).length + 1) (ints (idxI l (nthE l j).loc j ++ [(j : Int)])))
    (hm : IsMapAt w3 b LocS.val (putM (withM m (nthE l j).loc (.slice none 0 0)) (nthE l j).loc v')) : IdxSt w3 base b l (j + 1) := by
  have k1 : ∀ {u : Value} {n : Nat} {xs : List Value}, w.ownsRow base 3 1 u n xs → w1.ownsRow base 3 1 u n xs := fun h =>
    owns_grown h g1 fun q hq e => by cases e; have := (owns_lt h _ hq).1; omega
  have k3 : ∀ {u : Value} {n : Nat} {xs : List Value}, w2.ownsRow base 3 1 u n xs → w3.ownsRow base 3 1 u n xs := fun h =>
    owns_grown h g3 fun q hq e => by cases e; have := (owns_lt h _ hq).1; omega
  have hmine : ∀ q, v.ownBlock = some q → getM m (nthE l j).loc = some v := by
    intro q hq
    cases hg : getM m (nthE l j).loc with
    | none => rw [hg] at hv; simp at hv; subst hv; cases hq
    | some u => rw [hg] at hv; simp at hv; subst hv; rfl
  refine ⟨_, hm, fun x => ?_, ?_⟩
  · by_cases hx : x = (nthE l j).loc
    · subst hx
      refine .inr ⟨v', by rw [getM_put, if_pos rfl], ?_⟩
      rw [idxI_same]
      have := k3 ho
      simpa using this
    · rw [getM_put, if_neg hx, getM_with _ _ _ _ hx, idxI_other (fun e => hx e.symm)]
      rcases h2 x with h | ⟨u, h4, h5⟩
      · exact .inl h
      · refine .inr ⟨u, h4, k3 (owns_grown (k1 h5) g2 fun q hq e => ?_)⟩
        exact h3 (nthE l j).loc x v u q (fun e => hx e.symm) (hmine q e) h4 e hq
  · intro x y u u' q hxy hx hy hq
    have old : ∀ z t, z ≠ (nthE l j).loc → getM m z = some t → v'.ownBlock = some q → t.ownBlock ≠ some q := by
      intro z t hz ht hq' hq2
      rcases h2 z with ⟨e, _⟩ | ⟨t', e, ho'⟩
      · rw [ht] at e; cases e
      · rw [ht] at e; cases e
        rcases hf with hf | hf
        · exact h3 (nthE l j).loc z v t q (fun e => hz e.symm) (hmine q (hf ▸ hq')) ht (hf ▸ hq') hq2
        · have := hf q hq'
          have := (owns_lt ho' q hq2).2
          have := g1.size; omega
    rw [getM_put] at hx hy
    by_cases hxk : x = (nthE l j).loc
    · rw [if_pos hxk] at hx; cases hx
      have hyk : y ≠ (nthE l j).loc := fun e => hxy (hxk.trans e.symm)
      rw [if_neg hyk, getM_with _ _ _ _ hyk] at hy
      exact old y u' hyk hy hq
    · rw [if_neg hxk, getM_with _ _ _ _ hxk] at hx
      by_cases hyk : y = (nthE l j).loc
      · rw [if_pos hyk] at hy; cases hy
        intro hq2
        exact old x u hxk hx hq2 hq
      · rw [if_neg hyk, getM_with _ _ _ _ hyk] at hy
        exact h3 x y u u' q hxy hx hy hq

set_option maxHeartbeats 4000000 in
theorem first_any (ao : Option Addr) (n cap : Nat) (l : List EvS) (w : World) (h : RdE w ao n cap l) (hn : n ≤ 1000) :
    Calls Try.prog 12 #[.slice ao n cap] w fun e w' => e = .returned (resF (firstR l)) ∧ Below w.heap.size w w' := by
  have hfit := Lib.hid (allC_fits l (by rw [h.len]; exact hn))
  have h64 := Lib.hid (allC_64 l)
  have hmn := allC_le l
  rw [h.len] at hmn
  obtain ⟨m, hm⟩ : ∃ m, (allC l).length = m := ⟨_, rfl⟩
  rw [hm] at hmn
  have HM := Lib.hid hm
  have L0 := Lib.hid h.len
  have hmm := makeMap_run
  clear hm
  go_enter Try.func12, Try.ntmps12
  go_wp2_with fail
  refine (clocks_any ao n cap l _ h hn).mono ?_
  rintro e W ⟨v, rfl, hown, hbW⟩
  obtain ⟨ao', cap', rfl⟩ := hown.slice
  have rd := hown.rd hfit.out
  rw [HM.out] at rd ⊢
  clear hown
  have hW := h.below hbW
  go_upto_region 3 with fail
  have hst0 := idx_start W (W.heap.size + 1) l
  have hbst : Below W.heap.size W (W.alloc (.map #[] 0)) := below1 _ _
  have hsz0 : (W.alloc (.map #[] 0)).heap.size = W.heap.size + 1 := by simp
  generalize hWm : W.alloc (.map #[] 0) = Wm at *
  generalize hB : W.heap.size = B at *
  go_wp2_with fail
  go_loopw [7, 9, 15] (fun v7 v9 v15 wr => ∃ j : Nat, j ≤ m ∧ v15 = .int .i64 j ∧ (∀ j', j' < j → ∀ i', i' < j' → raceB l i' j' = false) ∧ Below B W wr ∧ B + 1 ≤ wr.heap.size ∧ IdxSt wr (B + 1) B l j) (fun _ _ v15 _ => m - (intOf v15).toNat)
  case atStart => exact ⟨0, Nat.zero_le _, rfl, fun j' hj' => absurd hj' (Nat.not_lt_zero _), hbst, by omega, hst0⟩
  case round =>
    obtain ⟨j, hj, rfl, hq, hbr, hsz, hst⟩ := hrel
    generalize wr = w1 at *
    have HQ := Lib.hid hq
    clear hq hst0 hbst hsz0
    by_cases hl : j < m
    · have hrt := Lib.hid (allC_right (l := l) (j := j) (by rw [HM.out]; exact hl))
      obtain ⟨b, o, rfl, hlt, hcj⟩ := hW.cells (show j < n by omega)
      rw [hB] at hcj
      have HCJ := Lib.hid hcj
      clear hcj
      obtain ⟨_, _, f2, f3, f4⟩ := HCJ.out w1 hbr
      have hst' := hst
      obtain ⟨mp, hmp, hp2, hp3⟩ := hst'
      have HP2 := Lib.hid hp2
      have HP3 := Lib.hid hp3
      have hlk := run_lookup locKey under_map (zero_map w1) hmp (nthE l j).loc
      obtain ⟨vv, hvv⟩ : ∃ vv, (getM mp (nthE l j).loc).getD (.slice none 0 0) = vv := ⟨_, rfl⟩
      have HVV := Lib.hid hvv
      have hov : w1.ownsRow (B + 1) 3 1 vv (idxN l (nthE l j).loc j).length (ints (idxI l (nthE l j).loc j)) := by
        rw [← idxI_len]
        rcases hp2 (nthE l j).loc with ⟨e1, e2⟩ | ⟨v, e1, e2⟩
        · rw [e1] at hvv; simp at hvv; subst hvv; rw [e2]; exact World.ownsRow_nil _ _ _ _
        · rw [e1] at hvv; simp at hvv; subst hvv; exact e2
      rw [hvv] at hlk
      clear hvv hp2 hp3
      obtain ⟨av, cv, rfl⟩ := owns_slice hov
      have hrv := owns_rdI hov (idxI_fits l _ (show j ≤ 1000000 by omega))
      have hle := idxN_le l (nthE l j).loc j
      obtain ⟨q, hq⟩ : ∃ q, (idxN l (nthE l j).loc j).length = q := ⟨_, rfl⟩
      have HQL := Lib.hid hq
      rw [hq] at hlk hov hrv hle
      clear hq hmp
      have HLK := Lib.hid hlk
      simp only [LocS.val] at hlk
      go_wp2_with fail
      go_loopw [9, 26] (fun v9 v26 wr2 => ∃ k : Nat, k ≤ q ∧ v26 = .int .i64 k ∧ Calm l j k ∧ Below w1.heap.size w1 wr2) (fun _ v26 _ => q - (intOf v26).toNat)
      case atStart => exact ⟨0, Nat.zero_le _, rfl, fun k' i hk' => absurd hk' (Nat.not_lt_zero _), Below.refl _ _⟩
      case round =>
        obtain ⟨k, hk, rfl, hcalm, hbr2⟩ := hrel
        have HC := Lib.hid hcalm
        clear hcalm
        by_cases hl2 : k < q
        · obtain ⟨i, hik, hnth, hij, hloc⟩ := idx_at (l := l) (x := (nthE l j).loc) (j := j) (k := k) (by rw [HQL.out]; exact hl2)
          obtain ⟨bv, ov, rfl, hltv, hcv⟩ := hrv.at_ k hl2
          rw [hnth] at hcv
          have hcv2 := (hbr2.cell (p := ⟨bv, ov + k, none⟩) hltv).trans hcv
          have HIK := Lib.hid hik
          clear hnth hik hcv hloc
          subst hB
          have hE1 := hW.below hbr
          have rd1 := rd.below hbr
          obtain ⟨b', o', e', hltb, hci⟩ := hE1.cells (show i < n by omega)
          simp only [Option.some.injEq, Addr.mk.injEq, and_true] at e'
          obtain ⟨rfl, rfl⟩ := e'
          obtain ⟨g, off, a1, c1, rfl, hltg, hc1, hr1⟩ := rd1.at_ i (by omega)
          obtain ⟨g', off', a2, c2, e', _, hc2, hr2⟩ := rd1.at_ j (by omega)
          simp only [Option.some.injEq, Addr.mk.injEq, and_true] at e'
          obtain ⟨rfl, rfl⟩ := e'
          obtain ⟨i0, i1, i2, i3, i4⟩ := hci w1 (Below.refl _ _)
          obtain ⟨j0, j1, j2, j3, j4⟩ := HCJ.out w1 hbr
          clear hci
          have l1 := nthC_length h64.out i
          have l2 := nthC_length h64.out j
          have kin : (i : Int) < n := by omega
          have kjn : (j : Int) < n := by omega
          have kim : (i : Int) < m := by omega
          have kjm : (j : Int) < m := by omega
          cases hcf : conflictB (nthE l i) (nthE l j)
          · have E : Hid (raceB l i j = false) := by unfold Hid raceB; rw [hcf]; rfl
            go_wp2_with fail
            refine wp_region_held_drew (S := fun w' => Below w1.heap.size w1 w' ∧ (∀ b o, b < w1.heap.size → w'.cell? ⟨b, o, none⟩ = w1.cell? ⟨b, o, none⟩)) (by kernel_rfl) ?_ (fun hHeld => ?_)
            · exact hs_refl hbr2.drew
            refine wpAnyH_take (i := 0) (v := ?_) rfl (by kernel_rfl) (by kernel_rfl) (by kernel_rfl) (fun _ _ _ h => h) (Or.inl ⟨by rfl, ?_⟩) (by assumption) ?_
            rotate_left
            · intro w hSw
              (try dsimp only at hSw)
              first | (go_simp; done) | (go_simp; with_reducible rfl)
            try simp only [List.getElem_toArray, List.getElem_cons_succ, List.getElem_cons_zero, Act.put, List.setIfInBounds_toArray, List.set_cons_zero, List.set_cons_succ]
            refine wpAnyH_take (i := 1) (v := ?_) rfl (by kernel_rfl) (by kernel_rfl) (by kernel_rfl) (fun _ _ _ h => h) (Or.inl ⟨by rfl, ?_⟩) (by assumption) ?_
            rotate_left
            · intro w hSw
              (try dsimp only at hSw)
              first | (go_simp; done) | (go_simp; with_reducible rfl)
            try simp only [List.getElem_toArray, List.getElem_cons_succ, List.getElem_cons_zero, Act.put, List.setIfInBounds_toArray, List.set_cons_zero, List.set_cons_succ]
            refine wpAnyH_take (i := 2) (v := ?_) rfl (by kernel_rfl) (by kernel_rfl) (by kernel_rfl) (fun _ _ _ h => h) (Or.inl ⟨by rfl, ?_⟩) (by assumption) ?_
            rotate_left
            · intro w hSw
              (try dsimp only at hSw)
              first | (go_simp; done) | (go_simp; with_reducible rfl)
            try simp only [List.getElem_toArray, List.getElem_cons_succ, List.getElem_cons_zero, Act.put, List.setIfInBounds_toArray, List.set_cons_zero, List.set_cons_succ]
            refine wpAnyH_take (i := 3) (v := ?_) rfl (by kernel_rfl) (by kernel_rfl) (by kernel_rfl) (fun _ _ _ h => h) (Or.inl ⟨by rfl, ?_⟩) (by assumption) ?_
            rotate_left
            · intro w hSw
              (try dsimp only at hSw)
              first | (go_simp; done) | (go_simp; with_reducible rfl)
            try simp only [List.getElem_toArray, List.getElem_cons_succ, List.getElem_cons_zero, Act.put, List.setIfInBounds_toArray, List.set_cons_zero, List.set_cons_succ]
            refine wpAnyH_take (i := 4) (v := ?_) rfl (by kernel_rfl) (by kernel_rfl) (by kernel_rfl) (fun _ _ _ h => h) (Or.inl ⟨by rfl, ?_⟩) (by assumption) ?_
            rotate_left
            · intro w hSw
              (try dsimp only at hSw)
              first | (go_simp; done) | (go_simp; with_reducible rfl)
            try simp only [List.getElem_toArray, List.getElem_cons_succ, List.getElem_cons_zero, Act.put, List.setIfInBounds_toArray, List.set_cons_zero, List.set_cons_succ]
            refine wpAnyH_take (i := 5) (v := ?_) rfl (by kernel_rfl) (by kernel_rfl) (by kernel_rfl) (fun _ _ _ h => h) (Or.inl ⟨by rfl, ?_⟩) (by assumption) ?_
            rotate_left
            · intro w hSw
              (try dsimp only at hSw)
              first | (go_simp; done) | (go_simp; with_reducible rfl)
            try simp only [List.getElem_toArray, List.getElem_cons_succ, List.getElem_cons_zero, Act.put, List.setIfInBounds_toArray, List.set_cons_zero, List.set_cons_succ]
            refine wpAnyH_take (i := 6) (v := ?_) rfl (by kernel_rfl) (by kernel_rfl) (by kernel_rfl) (fun _ _ _ h => h) (Or.inl ⟨by rfl, ?_⟩) (by assumption) ?_
            rotate_left
            · intro w hSw
              (try dsimp only at hSw)
              first | (go_simp; done) | (go_simp; with_reducible rfl)
            try simp only [List.getElem_toArray, List.getElem_cons_succ, List.getElem_cons_zero, Act.put, List.setIfInBounds_toArray, List.set_cons_zero, List.set_cons_succ]
            refine wpAnyH_take (i := 7) (v := ?_) rfl (by kernel_rfl) (by kernel_rfl) (by kernel_rfl) (fun _ _ _ h => h) (Or.inl ⟨by rfl, ?_⟩) (by assumption) ?_
            rotate_left
            · intro w hSw
              (try dsimp only at hSw)
              first | (go_simp; done) | (go_simp; with_reducible rfl)
            try simp only [List.getElem_toArray, List.getElem_cons_succ, List.getElem_cons_zero, Act.put, List.setIfInBounds_toArray, List.set_cons_zero, List.set_cons_succ]
            refine wpAnyH_ready (rs := [8]) (by kernel_rfl) (by simp) ?_
            refine AllReadyH.cons rfl (fun K hK => ?_) AllReadyH.nil
            go_simp
            (go_at_call 22; refine (conflict_any (nthE l i) (nthE l j) _).mono ?_; rw [hcf]; rintro e w' ⟨rfl, hb'⟩; go_wp2_with fail)
            refine hK.out _ _ ?_ (fun hHeld => ?_)
            · exact hs_step hHeld hb'
            clear hK K
            try simp only [List.getElem_toArray, List.getElem_cons_succ, List.getElem_cons_zero, Act.put, List.setIfInBounds_toArray, List.set_cons_zero, List.set_cons_succ]
            refine wpAnyH_take (i := 9) (v := ?_) rfl (by kernel_rfl) (by kernel_rfl) (by kernel_rfl) (fun _ _ _ h => h) (Or.inl ⟨by rfl, ?_⟩) (by assumption) ?_
            rotate_left
            · intro w hSw
              (try dsimp only at hSw)
              first | (go_simp; done) | (go_simp; with_reducible rfl)
            try simp only [List.getElem_toArray, List.getElem_cons_succ, List.getElem_cons_zero, Act.put, List.setIfInBounds_toArray, List.set_cons_zero, List.set_cons_succ]
            refine wpAnyH_take (i := 10) (v := undef) rfl (by kernel_rfl) (by kernel_rfl) (by kernel_rfl) (fun _ _ _ h => h) (Or.inr ⟨by rfl, rfl⟩) (by assumption) ?_
            try simp only [List.getElem_toArray, List.getElem_cons_succ, List.getElem_cons_zero, Act.put, List.setIfInBounds_toArray, List.set_cons_zero, List.set_cons_succ]
            refine wpAnyH_take (i := 11) (v := undef) rfl (by kernel_rfl) (by kernel_rfl) (by kernel_rfl) (fun _ _ _ h => h) (Or.inr ⟨by rfl, rfl⟩) (by assumption) ?_
            try simp only [List.getElem_toArray, List.getElem_cons_succ, List.getElem_cons_zero, Act.put, List.setIfInBounds_toArray, List.set_cons_zero, List.set_cons_succ]
            refine wpAnyH_take (i := 12) (v := undef) rfl (by kernel_rfl) (by kernel_rfl) (by kernel_rfl) (fun _ _ _ h => h) (Or.inr ⟨by rfl, rfl⟩) (by assumption) ?_
            try simp only [List.getElem_toArray, List.getElem_cons_succ, List.getElem_cons_zero, Act.put, List.setIfInBounds_toArray, List.set_cons_zero, List.set_cons_succ]
            refine wpAnyH_take (i := 13) (v := undef) rfl (by kernel_rfl) (by kernel_rfl) (by kernel_rfl) (fun _ _ _ h => h) (Or.inr ⟨by rfl, rfl⟩) (by assumption) ?_
            try simp only [List.getElem_toArray, List.getElem_cons_succ, List.getElem_cons_zero, Act.put, List.setIfInBounds_toArray, List.set_cons_zero, List.set_cons_succ]
            refine wpAnyH_take (i := 14) (v := undef) rfl (by kernel_rfl) (by kernel_rfl) (by kernel_rfl) (fun _ _ _ h => h) (Or.inr ⟨by rfl, rfl⟩) (by assumption) ?_
            try simp only [List.getElem_toArray, List.getElem_cons_succ, List.getElem_cons_zero, Act.put, List.setIfInBounds_toArray, List.set_cons_zero, List.set_cons_succ]
            refine wpAnyH_take (i := 15) (v := undef) rfl (by kernel_rfl) (by kernel_rfl) (by kernel_rfl) (fun _ _ _ h => h) (Or.inr ⟨by rfl, rfl⟩) (by assumption) ?_
            try simp only [List.getElem_toArray, List.getElem_cons_succ, List.getElem_cons_zero, Act.put, List.setIfInBounds_toArray, List.set_cons_zero, List.set_cons_succ]
            refine wpAnyH_take (i := 16) (v := undef) rfl (by kernel_rfl) (by kernel_rfl) (by kernel_rfl) (fun _ _ _ h => h) (Or.inr ⟨by rfl, rfl⟩) (by assumption) ?_
            try simp only [List.getElem_toArray, List.getElem_cons_succ, List.getElem_cons_zero, Act.put, List.setIfInBounds_toArray, List.set_cons_zero, List.set_cons_succ]
            refine wpAnyH_take (i := 17) (v := undef) rfl (by kernel_rfl) (by kernel_rfl) (by kernel_rfl) (fun _ _ _ h => h) (Or.inr ⟨by rfl, rfl⟩) (by assumption) ?_
            try simp only [List.getElem_toArray, List.getElem_cons_succ, List.getElem_cons_zero, Act.put, List.setIfInBounds_toArray, List.set_cons_zero, List.set_cons_succ]
            refine wpAnyH_take (i := 18) (v := undef) rfl (by kernel_rfl) (by kernel_rfl) (by kernel_rfl) (fun _ _ _ h => h) (Or.inr ⟨by rfl, rfl⟩) (by assumption) ?_
            try simp only [List.getElem_toArray, List.getElem_cons_succ, List.getElem_cons_zero, Act.put, List.setIfInBounds_toArray, List.set_cons_zero, List.set_cons_succ]
            refine wpAnyH_take (i := 19) (v := undef) rfl (by kernel_rfl) (by kernel_rfl) (by kernel_rfl) (fun _ _ _ h => h) (Or.inr ⟨by rfl, rfl⟩) (by assumption) ?_
            try simp only [List.getElem_toArray, List.getElem_cons_succ, List.getElem_cons_zero, Act.put, List.setIfInBounds_toArray, List.set_cons_zero, List.set_cons_succ]
            refine wpAnyH_take (i := 20) (v := ?_) rfl (by kernel_rfl) (by kernel_rfl) (by kernel_rfl) (fun _ _ _ h => h) (Or.inl ⟨by rfl, ?_⟩) (by assumption) ?_
            rotate_left
            · intro w hSw
              (try dsimp only at hSw)
              first | (go_simp; done) | (go_simp; with_reducible rfl)
            try simp only [List.getElem_toArray, List.getElem_cons_succ, List.getElem_cons_zero, Act.put, List.setIfInBounds_toArray, List.set_cons_zero, List.set_cons_succ]
            refine wpAnyH_done (by kernel_rfl) ?_ _
            go_wp2
            go_roundw
            case rel => exact ⟨k + 1, by omega, by go_num, calm_next HC.out HIK.out E.out, (‹Below w1.heap.size w1 _ ∧ _›).1⟩
            case measure => simp [intOf]; omega
          · cases r : leqC (nthC (allC l) i) (nthC (allC l) j)
            · have E : Hid (firstR l = some (i, j)) := firstR_some (by rw [HM.out]; exact hl) hij (by unfold raceB; rw [hcf, r]; rfl) (calm_before HC.out HIK.out) HQ.out
              go_wp2_with fail
              go_region_held3 (fun w' => Below w1.heap.size w1 w' ∧ (∀ b o, b < w1.heap.size → w'.cell? ⟨b, o, none⟩ = w1.cell? ⟨b, o, none⟩)) (first | exact hs_refl hbr2.drew | assumption | exact hs_step (by assumption) (by assumption))
                (first
                  | (go_at_call 22; (with_reducible refine (conflict_any (nthE l i) (nthE l j) _).mono ?_); rw [hcf]; rintro e w' ⟨rfl, hb'⟩)
                  | (go_at_call 31; (with_reducible refine (leq_any a1 a2 _ c1 _ c2 _ _ _ (hr1.held (by assumption)) (hr2.held (by assumption)) (by omega) (by omega)).mono ?_); rw [r]; rintro e w' ⟨rfl, hb'⟩))
              go_wp2
              refine bodyPost_ret (v := .tuple #[.int .i64 i, .int .i64 j, .bool true]) (by simp [results, Try.results12, go_sem]) rfl ?_
              exact ⟨by rw [E.out]; rfl, (hbW.trans (hbr.mono hbW.size)).trans ((‹Below w1.heap.size w1 _ ∧ _›).1.mono (Nat.le_trans hbW.size hbr.size))⟩
            · have E : Hid (raceB l i j = false) := by unfold Hid raceB; rw [r]; simp
              go_wp2_with fail
              go_region_held3 (fun w' => Below w1.heap.size w1 w' ∧ (∀ b o, b < w1.heap.size → w'.cell? ⟨b, o, none⟩ = w1.cell? ⟨b, o, none⟩)) (first | exact hs_refl hbr2.drew | assumption | exact hs_step (by assumption) (by assumption))
                (first
                  | (go_at_call 22; (with_reducible refine (conflict_any (nthE l i) (nthE l j) _).mono ?_); rw [hcf]; rintro e w' ⟨rfl, hb'⟩)
                  | (go_at_call 31; (with_reducible refine (leq_any a1 a2 _ c1 _ c2 _ _ _ (hr1.held (by assumption)) (hr2.held (by assumption)) (by omega) (by omega)).mono ?_); rw [r]; rintro e w' ⟨rfl, hb'⟩))
              go_wp2
              go_roundw
              case rel => exact ⟨k + 1, by omega, by go_num, calm_next HC.out HIK.out E.out, (‹Below w1.heap.size w1 _ ∧ _›).1⟩
              case measure => simp [intOf]; omega
        · obtain rfl : k = q := by omega
          go_upto_region 12 with fail
          have hBw1 : B ≤ w1.heap.size := by omega
          have hbrr := hbr.trans (hbr2.mono hBw1)
          obtain ⟨_, _, e2, e3, e4⟩ := HCJ.out wr hbrr
          have hsz2 : B + 1 ≤ wr.heap.size := Nat.le_trans hsz hbr2.size
          have hstr := hst.below hbr2
          have hstW := hstr.below (below1 wr (.cells #[.int .i64 j] 3))
          obtain ⟨m2, hm2, hq2, hq3⟩ := hstW
          obtain ⟨w3, s, hen, hent, g3⟩ := run_entry locKey under_map zero_map hm2 (nthE l j).loc
          obtain ⟨v2, hv2⟩ : ∃ v2, (getM m2 (nthE l j).loc).getD (.slice none 0 0) = v2 := ⟨_, rfl⟩
          have hov2 : (wr.alloc (.cells #[.int .i64 j] 3)).ownsRow (B + 1) 3 1 v2 (idxI l (nthE l j).loc j).length (ints (idxI l (nthE l j).loc j)) := by
            rcases hq2 (nthE l j).loc with ⟨e1, e2⟩ | ⟨v, e1, e2⟩
            · rw [e1] at hv2; simp at hv2; subst hv2; rw [e2]; exact World.ownsRow_nil _ _ _ _
            · rw [e1] at hv2; simp at hv2; subst hv2; exact e2
          rw [hv2] at hen
          have hov3 : w3.ownsRow (B + 1) 3 1 v2 k (ints (idxI l (nthE l j).loc j)) := by
            rw [← HQL.out, ← idxI_len]
            exact owns_grown hov2 g3 fun q hq e => by cases e; have := (owns_lt hov2 _ hq).1; omega
          have hlit : w3.cell? ⟨wr.heap.size, 0, none⟩ = some (.int .i64 j) := by
            have e1 : w3.heap[wr.heap.size]? = (wr.alloc (.cells #[.int .i64 j] 3)).heap[wr.heap.size]? := g3.block _ (by simp) (by simp; omega)
            simp only [World.cell?, e1, heap_alloc_new]; rfl
          have hb3 : B + 1 ≤ w3.heap.size := Nat.le_trans hsz2 (by have := g3.size; simp at this; omega)
          have HV := Lib.hid hv2
          have HQ2 := Lib.hid hq2
          have HQ3 := Lib.hid hq3
          have HENT := Lib.hid hent
          have HOV := Lib.hid hov2
          clear hv2 hq2 hq3 hent hov2 hstr hm2 hlk hov
          simp only [LocS.val] at hen
          go_wp2_with ((at_builtin; refine ap_src w3 EI rfl _ _ rfl (B + 1) _ k _ rfl hov3 hb3 _ 1 1 [.int .i64 j] rfl (fun h => by cases h) rfl ?_ (by simp [Value.oneCell']) (by omega) ?_))
          · intro q u hu
            cases q with
            | zero => simp at hu; subst hu; exact ⟨_, _, rfl, hlit⟩
            | succ q => simp at hu
          · intro v' w5 hown5 hg5 hb5 hfr5
            obtain ⟨w6, hes, hm6, g6⟩ := run_entryStore (P := Try.prog) (t := 53) (HENT.out.of_eq (hb5.block B (by omega))) v'
            have hnx := idx_next HQ2.out HQ3.out HV.out g3 hg5 g6 (Nat.lt_succ_self B) hfr5 (by rw [idxI_len, HQL.out, ints_append]; exact hown5) hm6
            have hbW3 : Below B W w3 := (hbrr.alloc (by omega) _).grown g3 (by simp; omega) (fun q hq => by cases hq; exact Nat.le_refl _)
            have hbW5 : Below B W w5 := hbW3.trans (hb5.mono (by omega))
            have hsz5 : B + 1 ≤ w5.heap.size := Nat.le_trans hb3 hb5.size
            have hbW6 : Below B W w6 := hbW5.grown g6 (by omega) (fun q hq => by cases hq; exact Nat.le_refl _)
            have HNX := Lib.hid hnx
            have hsz6 := Nat.le_trans hsz5 g6.size
            clear hnx hm6 hown5
            simp only [goInt] at hes
            go_wp2
            go_roundw
            case rel => exact ⟨j + 1, by omega, by go_num, fun j' hj' => by
              by_cases hjj : j' = j
              · subst hjj; exact calm_all (by rw [HQL.out]; exact HC.out)
              · exact HQ.out j' (by omega), hbW6, hsz6, HNX.out⟩
            case measure => simp [intOf]; omega
    · obtain rfl : j = m := by omega
      have E : Hid (firstR l = none) := firstR_none (by rw [HM.out]; exact HQ.out)
      go_wp2
      refine bodyPost_ret (v := .tuple #[.int .i64 0, .int .i64 0, .bool false]) (by simp [results, Try.results12, go_sem]) rfl ?_
      exact ⟨by rw [E.out]; rfl, hbW.trans (hbr.mono (by have := hbW.size; omega))⟩
end Go.Proofs.Ytkhhjjjpbfnlmaa
