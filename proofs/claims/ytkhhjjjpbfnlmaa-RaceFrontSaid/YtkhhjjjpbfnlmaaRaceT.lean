/- A front of events: its clocks and its first two that race. -/
import Derived.Test.YtkhhjjjpbfnlmaaRaceQ
namespace Go.Proofs.Ytkhhjjjpbfnlmaa
set_option linter.unusedVariables false
set_option linter.unusedSimpArgs false
open Go.RowKit Go.Proofs.YtkhhjjjpbfnlmaaMem Go.Proofs.YtkhhjjjpbfnlmaaFlat Go.Proofs.YtkhhjjjpbfnlmaaMapK

theorem nthE_take {l : List EvS} {k n : Nat} (h : k < n) : nthE (l.take n) k = nthE l k := by
  simp only [nthE, List.getD_eq_getElem?_getD, List.getElem?_take, h, if_true]
theorem clks_take (l : List EvS) (n : Nat) : ∀ k, k ≤ n → clks (l.take n) k = clks l k := by
  intro k
  induction k with
  | zero => intro _; rfl
  | succ k ih =>
    intro hk
    have hn : k < n := by omega
    simp only [clks, ih (by omega)]
    have e1 : ∀ u, lastP (ownP (l.take n) u) k = lastP (ownP l u) k := fun u => lastP_congr fun j hj => by unfold ownP; rw [nthE_take (show j < n by omega)]
    have e2 : ∀ x, lastP (tellP (l.take n) x) k = lastP (tellP l x) k := fun x => lastP_congr fun j hj => by unfold tellP; rw [nthE_take (show j < n by omega)]
    have e3 : clkE (l.take n) (clks l k) k = clkE l (clks l k) k := by
      unfold clkE heardC foundC ownC
      rw [nthE_take hn, e1, e2]
    rw [e3]
theorem clks_prefix (l : List EvS) {n : Nat} : ∀ m, n ≤ m → (clks l m).take n = clks l n := by
  intro m
  induction m with
  | zero =>
    intro h
    obtain rfl : n = 0 := by omega
    rfl
  | succ m ih =>
    intro h
    by_cases hn : n = m + 1
    · subst hn; rw [List.take_of_length_le (by rw [clks_length]; exact Nat.le_refl _)]
    · simp only [clks]
      rw [List.take_append_of_le_length (by rw [clks_length]; omega)]
      exact ih (by omega)
theorem right_take {l : List EvS} (h : rightB l = true) (n : Nat) : rightB (l.take n) = true := by
  unfold rightB at *
  rw [List.all_eq_true] at *
  exact fun e he => h e (List.mem_of_mem_take he)
theorem allC_take {l : List EvS} (h : rightB l = true) {n : Nat} (hn : n ≤ l.length) : allC (l.take n) = (allC l).take n := by
  unfold allC
  rw [if_pos h, if_pos (right_take h n), clks_prefix l _ hn, show (l.take n).length = n by rw [List.length_take]; omega]
  exact clks_take l n n (Nat.le_refl _)
theorem nthC_take {cs : List (List Int)} {k n : Nat} (h : k < n) : nthC (cs.take n) k = nthC cs k := by
  simp only [nthC, List.getD_eq_getElem?_getD, List.getElem?_take, h, if_true]
theorem raceB_take {l : List EvS} (h : rightB l = true) {n i j : Nat} (hn : n ≤ l.length) (hi : i < n) (hj : j < n) : raceB (l.take n) i j = raceB l i j := by
  unfold raceB
  rw [nthE_take hi, nthE_take hj, allC_take h hn, nthC_take hi, nthC_take hj]
theorem allC_full {l : List EvS} (h : rightB l = true) : (allC l).length = l.length := by rw [allC_length, if_pos h]
theorem firstR_take {l : List EvS} (h : rightB l = true) {n : Nat} (hn : n ≤ l.length) : firstR (l.take n) = match firstR l with
    | some r => if r.2 < n then some r else none
    | none => none := by
  have hl : (allC (l.take n)).length = n := by rw [allC_full (right_take h n), List.length_take]; omega
  rcases firstR_spec l with ⟨i, j, e, g1, g2, g3, g4, g5⟩ | ⟨e, g⟩
  · rw [e]
    by_cases hj : j < n
    · simp only [hj, if_true]
      exact firstR_some (by rw [hl]; exact hj) g2 (by rw [raceB_take h hn (by omega) hj]; exact g3) (fun i' hi' => by rw [raceB_take h hn (by omega) hj]; exact g4 i' hi') fun j' hj' i' hi' => by rw [raceB_take h hn (by omega) (by omega)]; exact g5 j' hj' i' hi'
    · simp only [hj, if_false]
      exact firstR_none fun j' hj' i' hi' => by rw [hl] at hj'; rw [raceB_take h hn (by omega) hj']; exact g5 j' (by omega) i' hi'
  · rw [e]
    exact firstR_none fun j' hj' i' hi' => by rw [hl] at hj'; rw [raceB_take h hn (by omega) hj']; exact g j' (by rw [allC_full h]; omega) i' hi'

theorem RdE.take {w : World} {ao : Option Addr} {n cap k : Nat} {l : List EvS} (h : RdE w ao n cap l) (hk : k ≤ n) : RdE w ao k k (l.take k) := by
  refine ⟨?_, by rw [List.length_take, h.len]; omega, fun e he => h.ok e (List.mem_of_mem_take he)⟩
  have hev : evs (l.take k) = (evs l).take (k * 5) := by
    have e1 : evs l = evs (l.take k) ++ evs (l.drop k) := by rw [← evs_append, List.take_append_drop]
    rw [e1, List.take_left' (by rw [evs_length, List.length_take, h.len, Nat.min_eq_left hk])]
  rw [hev]
  have r := h.rd
  refine ⟨by rw [List.length_take, r.len]; exact Nat.min_eq_left (Nat.mul_le_mul_right 5 hk), Nat.le_refl _, fun ha => ⟨by have := (r.nil ha).1; omega, by have := (r.nil ha).1; omega⟩, by have := r.small; omega, fun u hu => r.one u (List.mem_of_mem_take hu), fun j u hu => ?_⟩
  rw [List.getElem?_take] at hu
  split at hu
  · exact r.at_ j u hu
  · cases hu
theorem RdC.take {w : World} {ao : Option Addr} {n cap k : Nat} {cs : List (List Int)} (h : RdC w ao n cap cs) (hk : k ≤ n) : RdC w ao k cap (cs.take k) := by
  refine ⟨by rw [List.length_take, h.len]; omega, Nat.le_trans hk h.le, fun ha => ⟨by have := (h.nil ha).1; omega, (h.nil ha).2⟩, by have := h.small; omega, fun j hj => ?_⟩
  obtain ⟨b, off, a, c, e, hlt, hc, hr⟩ := h.at_ j (by omega)
  rw [nthC_take hj]
  exact ⟨b, off, a, c, e, hlt, hc, hr⟩
end Go.Proofs.Ytkhhjjjpbfnlmaa
