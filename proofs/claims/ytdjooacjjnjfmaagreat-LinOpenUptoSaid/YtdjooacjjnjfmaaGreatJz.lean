/- Several texts in one: MadeP MadeQ MadeM. -/
import Derived.Test.YtdjooacjjnjfmaaGreatGw
import Derived.Test.YtdjooacjjnjfmaaGreatGo
import Derived.Test.YtdjooacjjnjfmaaGreatIy
-- law15's Made as plain data: a history that has an order.
section
namespace Go.Proofs.YtdjooacjjnjfmaaGreat
set_option linter.unusedVariables false
set_option linter.unusedSimpArgs false
set_option maxRecDepth 20000
open Go.RowKit Go.Proofs.YtdjooacjjnjfmaaGreatMem Go.Proofs.YtdjooacjjnjfmaaGreatMapK Go.Proofs.YtdjooacjjnjfmaaGreatLin H

def pkS (p : Pk) : PkS := ⟨p.flow, p.len, p.mark⟩
theorem pkL_pkS (ps : List Pk) : pkL (ps.map pkS) = ps := by
  unfold pkL
  rw [List.map_map]
  exact List.map_id'' (fun _ => rfl) ps
/-- What a call told, with its span. -/
def doneM (who place fr t : Int) (d : CallS) (r : RetS) : DoneS := ⟨who, place, d.op, d.flow, d.a, d.b, r.e, none, 0, 0, r.n, r.v, fr, t, r.ps.map pkS⟩
theorem callD_doneM (who place fr t : Int) (d : CallS) (r : RetS) : callD (doneM who place fr t d r) = d := rfl
theorem retB_self (who place fr t : Int) (d : CallS) (r : RetS) : retB r (doneM who place fr t d r) = true := by
  unfold retB retEq
  rw [show (doneM who place fr t d r).l = r.ps.map pkS from rfl, pkL_pkS]
  exact decide_eq_true ⟨rfl, rfl, rfl, rfl⟩

/-! ### Calls of a list, one behind the other -/
def runL (c : Cfg) (m : MdS) : List DoneS → Option MdS
  | [] => some m
  | x :: l => if retB (m.doo c (callD x)).2 x then runL c (m.doo c (callD x)).1 l else none
theorem runL_append (c : Cfg) : ∀ (a b : List DoneS) (m : MdS), runL c m (a ++ b) = (runL c m a).bind fun m' => runL c m' b
  | [], b, m => rfl
  | x :: a, b, m => by
    show (if _ then runL c _ (a ++ b) else none) = _
    rw [runL_append c a b]
    show _ = (if _ then runL c _ a else none).bind _
    split <;> rfl
theorem runS_runL (c : Cfg) (L : List DoneS) : ∀ (n s : Nat) (m : MdS), s + n = L.length → runS (stepD c L) m (List.range' s n) = runL c m (L.drop s)
  | 0, s, m, h => by rw [List.drop_of_length_le (by omega)]; rfl
  | n + 1, s, m, h => by
    have hs : s < L.length := by omega
    rw [List.range'_succ, List.drop_eq_getElem_cons hs]
    show (stepD c L m s).bind _ = (if _ then _ else none)
    unfold stepD
    rw [nthD_eq hs]
    split
    · simp only [Option.bind_some]
      exact runS_runL c L n (s + 1) _ (by omega)
    · rfl
/-- A batch is its Dequeues. -/
theorem runL_bat (c : Cfg) (x : DoneS) : ∀ (k : Nat) (m : MdS) (ps : List Pk), (m.bat k ps).2.e = x.e →
    ∃ qs, (m.bat k ps).2.ps = ps ++ qs ∧ runL c m (packD x (qs.map pkS) ++ emptyD x) = some (m.bat k ps).1 ∧ (m.bat k ps).2.n = 0 ∧ (m.bat k ps).2.v = 0
  | 0, m, ps, he => by
    refine ⟨[], by simp [MdS.bat], ?_, rfl, rfl⟩
    have : x.e = 0 := he.symm
    simp only [emptyD, this, packD, List.map_nil, List.nil_append]
    rfl
  | k + 1, m, ps, he => by
    unfold MdS.bat at he ⊢
    by_cases h : m.s.has = true
    · rw [if_pos h] at he ⊢
      obtain ⟨qs, h1, h2, h3, h4⟩ := runL_bat c x k m.one (ps ++ [m.s.head]) he
      refine ⟨m.s.head :: qs, by rw [h1]; simp, ?_, h3, h4⟩
      show (if retB (m.doo c ⟨4, 0, 0, 0⟩).2 (oneD x 0 0 0 none 0 0 [pkS m.s.head]) then runL c (m.doo c ⟨4, 0, 0, 0⟩).1 (packD x (qs.map pkS) ++ emptyD x) else none) = _
      have e1 : m.doo c ⟨4, 0, 0, 0⟩ = (m.one, m.oneRet) := rfl
      rw [e1, if_pos]
      · exact h2
      · show retB m.oneRet _ = true
        unfold MdS.oneRet
        rw [if_pos h]
        show decide ((0 : Int) = 0 ∧ (0 : Int) = 0 ∧ (0 : Int) = 0 ∧ [m.s.head] = pkL [pkS m.s.head]) = true
        exact decide_eq_true ⟨rfl, rfl, rfl, rfl⟩
    · rw [if_neg h] at he ⊢
      have he : x.e = 10 := he.symm
      refine ⟨[], by simp, ?_, rfl, rfl⟩
      simp only [emptyD, he, packD, List.map_nil, List.nil_append, if_true]
      show (if retB (m.doo c ⟨4, 0, 0, 0⟩).2 (oneD x 10 0 0 none 0 0 []) then runL c (m.doo c ⟨4, 0, 0, 0⟩).1 [] else none) = _
      have e1 : m.doo c ⟨4, 0, 0, 0⟩ = (m.one, m.oneRet) := rfl
      rw [e1, if_pos]
      · rfl
      · show retB m.oneRet _ = true
        unfold MdS.oneRet
        rw [if_neg h]
        show decide ((10 : Int) = 10 ∧ (0 : Int) = 0 ∧ (0 : Int) = 0 ∧ [] = pkL []) = true
        exact decide_eq_true ⟨rfl, rfl, rfl, rfl⟩
theorem runL_part (c : Cfg) (m : MdS) (d : CallS) (who place fr t : Int) : runL c m (partD (doneM who place fr t d (m.doo c d).2)) = some (m.doo c d).1 := by
  unfold partD
  split
  · rename_i hb
    simp only [isBat, Bool.and_eq_true, Bool.or_eq_true, decide_eq_true_eq] at hb
    obtain ⟨h5, -, he⟩ := hb
    have h5 : d.op = 5 := h5
    have e1 : m.doo c d = if inB d.a 1 16 then m.bat d.a.toNat [] else (m, .code 1) := by unfold MdS.doo; rw [if_neg (by omega), if_neg (by omega), if_neg (by omega), if_neg (by omega), if_pos h5]
    by_cases hi : inB d.a 1 16 = true
    · rw [if_pos hi] at e1
      rw [e1]
      obtain ⟨qs, h1, h2, -, -⟩ := runL_bat c (doneM who place fr t d (m.bat d.a.toNat []).2) d.a.toNat m [] rfl
      rw [List.nil_append] at h1
      rw [show (doneM who place fr t d (m.bat d.a.toNat []).2).l = qs.map pkS by rw [← h1]; rfl]
      exact h2
    · rw [if_neg hi] at e1
      have : (m.doo c d).2.e = 1 := by rw [e1]; rfl
      have h1 : (doneM who place fr t d (m.doo c d).2).e = 1 := this
      rw [h1] at he
      omega
  · show (if retB (m.doo c d).2 _ then _ else none) = _
    rw [if_pos]
    · rfl
    · exact retB_self who place fr t d _

/-! ### The numbers -/
def nthZ (l : List Int) (k : Nat) : Int := l.getD k 0
def wM (ws : List Int) (i : Nat) : Nat := if i < ws.length then (modZ (nth ws i) 3).toNat else i % 3
def rM (rs : List Int) (i : Nat) : Int := if i < rs.length then modZ (nth rs i) 70 else 0
theorem wM_lt (ws : List Int) (i : Nat) : wM ws i < 3 := by
  unfold wM
  split
  · have := modZ_bd (nth ws i) (n := 3) (by omega); omega
  · omega
theorem rM_bd (rs : List Int) (i : Nat) : 0 ≤ rM rs i ∧ rM rs i < 70 := by
  unfold rM
  split
  · have := modZ_bd (nth rs i) (n := 70) (by omega); omega
  · omega
def cM0 (cs : List CallS) (i : Nat) : CallS := if 2 ≤ i then callP (nthC cs i) else nthC cs i
def cM (cs : List CallS) (i : Nat) : CallS := if (cM0 cs i).op = 5 then { cM0 cs i with a := modZ (cM0 cs i).a 3 } else cM0 cs i
theorem cM_ok {cs : List CallS} {i : Nat} (h : (nthC cs i).Ok) : (cM cs i).Ok := by
  have h0 : (cM0 cs i).Ok := by unfold cM0; split; exact callP_ok h; exact h
  unfold cM
  split
  · have := modZ_bd (cM0 cs i).a (n := 3) (by omega)
    exact ⟨h0.op, h0.flow, small_i64 (by simp only; omega), h0.b⟩
  · exact h0
/-- The least k at i or behind it, ahead of n, of worker w. -/
def nextM (ws : List Int) (w : Nat) : Nat → Nat → Option Nat
  | 0, _ => none
  | f + 1, k => if wM ws k = w then some k else nextM ws w f (k + 1)
def toM0 (rs : List Int) (i : Nat) : Int := 10 * (i : Int) + (rM rs i).tdiv 3
def toM (ws rs : List Int) (n i : Nat) : Int := match nextM ws (wM ws i) (n - (i + 1)) (i + 1) with
  | some k => min (toM0 rs i) (10 * (k : Int) - 1)
  | none => toM0 rs i
theorem nextM_some {ws : List Int} {w : Nat} : ∀ {f k j : Nat}, nextM ws w f k = some j → k ≤ j ∧ j < k + f ∧ wM ws j = w ∧ ∀ i, k ≤ i → i < j → wM ws i ≠ w
  | 0, k, j, h => by cases h
  | f + 1, k, j, h => by
    unfold nextM at h
    split at h
    · rename_i hw
      cases h
      exact ⟨Nat.le_refl _, by omega, hw, fun i h1 h2 => by omega⟩
    · rename_i hw
      obtain ⟨h1, h2, h3, h4⟩ := nextM_some h
      refine ⟨by omega, by omega, h3, fun i h5 h6 => ?_⟩
      by_cases e : i = k
      · subst e; exact hw
      · exact h4 i (by omega) h6
theorem nextM_none {ws : List Int} {w : Nat} : ∀ {f k : Nat}, nextM ws w f k = none → ∀ i, k ≤ i → i < k + f → wM ws i ≠ w
  | 0, k, h, i, h1, h2 => by omega
  | f + 1, k, h, i, h1, h2 => by
    unfold nextM at h
    split at h
    · cases h
    · rename_i hw
      by_cases e : i = k
      · subst e; exact hw
      · exact nextM_none h i (by omega) (by omega)
theorem toM0_bd (rs : List Int) (i : Nat) : 10 * (i : Int) ≤ toM0 rs i ∧ toM0 rs i ≤ 10 * (i : Int) + 23 := by
  have := rM_bd rs i
  unfold toM0
  rw [Int.tdiv_eq_ediv_of_nonneg this.1]
  omega
theorem toM_bd (ws rs : List Int) (n i : Nat) : 10 * (i : Int) ≤ toM ws rs n i ∧ toM ws rs n i ≤ 10 * (i : Int) + 23 := by
  have h0 := toM0_bd rs i
  unfold toM
  split
  · rename_i k hk
    obtain ⟨h1, -, -, -⟩ := nextM_some hk
    omega
  · exact h0
theorem toM_next {ws rs : List Int} {n i j : Nat} (hij : i < j) (hj : j < n) (hw : wM ws j = wM ws i) : toM ws rs n i < 10 * (j : Int) := by
  unfold toM
  split
  · rename_i k hk
    obtain ⟨h1, -, -, h4⟩ := nextM_some hk
    have : k ≤ j := by
      apply Nat.le_of_not_lt
      intro hlt
      exact h4 j (by omega) hlt hw
    omega
  · rename_i hk
    exact absurd hw (nextM_none hk j (by omega) (by omega))

def updI (f : Nat → Int) (q : Nat) (v : Int) : Nat → Int := fun i => if i = q then v else f i
structure MkS where
  a : Nat → Int
  n : Nat → Int
  m : MdS
  out : List DoneS
def mk0 : MkS := ⟨fun _ => 0, fun _ => 0, .new, []⟩
def frM (rs : List Int) (s : MkS) (w i : Nat) : Int := max (s.a w) (10 * (i : Int) - (rM rs i).tmod 9 * 4)
def mkRound (c : Cfg) (cs : List CallS) (ws rs : List Int) (n : Nat) (s : MkS) (i : Nat) : MkS :=
  ⟨updI s.a (wM ws i) (toM ws rs n i + 1), updI s.n (wM ws i) (s.n (wM ws i) + 1), (s.m.doo c (cM cs i)).1,
    s.out ++ [doneM (wM ws i) (s.n (wM ws i)) (frM rs s (wM ws i) i) (toM ws rs n i) (cM cs i) (s.m.doo c (cM cs i)).2]⟩
def mkAll (c : Cfg) (cs : List CallS) (ws rs : List Int) (n : Nat) : Nat → MkS
  | 0 => mk0
  | k + 1 => mkRound c cs ws rs n (mkAll c cs ws rs n k) k
theorem frM_bd (rs : List Int) {s : MkS} {w i : Nat} (h0 : 0 ≤ s.a w) (h1 : s.a w ≤ 10 * (i : Int)) : 0 ≤ frM rs s w i ∧ frM rs s w i ≤ 10 * (i : Int) ∧ s.a w ≤ frM rs s w i := by
  have hr := rM_bd rs i
  have : 0 ≤ (rM rs i).tmod 9 ∧ (rM rs i).tmod 9 < 9 := by
    rw [Int.tmod_eq_emod_of_nonneg hr.1]
    omega
  unfold frM
  omega
/-- What a made history is like. -/
def MadeOk (l : List DoneS) : Prop := (∀ x ∈ l, (0 ≤ x.who ∧ x.who < 3) ∧ 0 ≤ x.place ∧ 0 ≤ x.fr ∧ x.fr ≤ x.to) ∧ l.Pairwise fun x y => x.fr ≤ y.to ∧ (x.who = y.who → x.place < y.place ∧ x.to < y.fr)
structure MkOk (c : Cfg) (cs : List CallS) (ws rs : List Int) (n k : Nat) (s : MkS) : Prop where
  a0 : ∀ w, 0 ≤ s.a w ∧ s.a w ≤ 10 * (k : Int) + 24
  a1 : ∀ w i, k ≤ i → i < n → wM ws i = w → s.a w ≤ 10 * (i : Int)
  n0 : ∀ w, 0 ≤ s.n w ∧ s.n w ≤ k
  len : s.out.length = k
  ok : MadeOk s.out
  last : ∀ x ∈ s.out, x.to < s.a x.who.toNat ∧ x.place < s.n x.who.toNat ∧ x.fr ≤ 10 * (k : Int)
  run : runL c .new (partsD s.out) = some s.m
  good : (∀ d ∈ cs, d.Ok) → (1 ≤ c.unit ∧ c.unit ≤ 4611686018427387904) → n ≤ cs.length → s.m.Good k
theorem mkOk (c : Cfg) (cs : List CallS) (ws rs : List Int) (n : Nat) : ∀ k, k ≤ n → MkOk c cs ws rs n k (mkAll c cs ws rs n k)
  | 0, _ => ⟨fun w => by simp [mkAll, mk0], fun w i _ _ _ => by simp [mkAll, mk0]; omega, fun w => by simp [mkAll, mk0], rfl, ⟨by simp [mkAll, mk0], by simp [mkAll, mk0]⟩, by simp [mkAll, mk0], rfl, fun _ _ _ => MdS.Good.new⟩
  | k + 1, hk => by
    have ih := mkOk c cs ws rs n k (by omega)
    show MkOk c cs ws rs n (k + 1) (mkRound c cs ws rs n (mkAll c cs ws rs n k) k)
    generalize mkAll c cs ws rs n k = s at *
    have h1 := toM_bd ws rs n k
    have hw := wM_lt ws k
    have ha := ih.a0 (wM ws k)
    have ha1 := ih.a1 (wM ws k) k (Nat.le_refl _) (by omega) rfl
    obtain ⟨f0, f1, f2⟩ := frM_bd rs ha.1 ha1
    have hn0 := ih.n0 (wM ws k)
    refine ⟨fun w => ?_, fun w i hi hin hwi => ?_, fun w => ?_, ?_, ⟨?_, ?_⟩, ?_, ?_, ?_⟩
    · have := ih.a0 w
      show 0 ≤ updI s.a _ _ w ∧ updI s.a _ _ w ≤ _
      unfold updI
      split <;> omega
    · have := ih.a1 w i (by omega) hin hwi
      show updI s.a _ _ w ≤ _
      unfold updI
      split
      · rename_i e
        have := toM_next (rs := rs) (show k < i by omega) hin (by rw [hwi, e])
        omega
      · omega
    · have := ih.n0 w
      show 0 ≤ updI s.n _ _ w ∧ updI s.n _ _ w ≤ _
      unfold updI
      split <;> omega
    · show (s.out ++ [_]).length = _
      rw [List.length_append, ih.len]; rfl
    · intro x hx
      rcases List.mem_append.1 hx with hx | hx
      · exact ih.ok.1 x hx
      · simp only [List.mem_singleton] at hx
        subst hx
        show ((0 : Int) ≤ (wM ws k : Int) ∧ (wM ws k : Int) < 3) ∧ 0 ≤ s.n (wM ws k) ∧ 0 ≤ frM rs s (wM ws k) k ∧ frM rs s (wM ws k) k ≤ toM ws rs n k
        omega
    · rw [show (mkRound c cs ws rs n s k).out = s.out ++ [_] from rfl, List.pairwise_append]
      refine ⟨ih.ok.2, by simp, fun x hx y hy => ?_⟩
      simp only [List.mem_singleton] at hy
      subst hy
      obtain ⟨l1, l2, l3⟩ := ih.last x hx
      have hx3 := (ih.ok.1 x hx).1
      show x.fr ≤ toM ws rs n k ∧ (x.who = (wM ws k : Int) → x.place < s.n (wM ws k) ∧ x.to < frM rs s (wM ws k) k)
      refine ⟨by omega, fun e => ?_⟩
      rw [e, Int.toNat_natCast] at l1 l2
      omega
    · intro x hx
      show x.to < updI s.a _ _ x.who.toNat ∧ x.place < updI s.n _ _ x.who.toNat ∧ x.fr ≤ _
      unfold updI
      rcases List.mem_append.1 hx with hx | hx
      · obtain ⟨l1, l2, l3⟩ := ih.last x hx
        split
        · rename_i e
          rw [e] at l1 l2
          exact ⟨by omega, by omega, by omega⟩
        · exact ⟨l1, l2, by omega⟩
      · simp only [List.mem_singleton] at hx
        subst hx
        rw [if_pos (by show ((wM ws k : Int)).toNat = wM ws k; omega), if_pos (by show ((wM ws k : Int)).toNat = wM ws k; omega)]
        show toM ws rs n k < toM ws rs n k + 1 ∧ s.n (wM ws k) < s.n (wM ws k) + 1 ∧ frM rs s (wM ws k) k ≤ _
        omega
    · show runL c .new (partsD (s.out ++ [_])) = _
      rw [show ∀ a b : List DoneS, partsD (a ++ b) = partsD a ++ partsD b from fun a b => by unfold partsD; rw [List.flatMap_append], runL_append, ih.run, Option.bind_some]
      rw [show ∀ x : DoneS, partsD [x] = partD x from fun x => by unfold partsD; simp]
      exact runL_part c s.m _ _ _ _ _
    · intro hcs hu hl
      refine (ih.good hcs hu hl).doo (by unfold W64; omega) (cM_ok (hcs _ ?_))
      exact List.mem_of_getElem? (nthC_eq (by omega))
end Go.Proofs.YtdjooacjjnjfmaaGreat
end

-- A made history has an order: its own. Histories of which nothing fits.
section
namespace Go.Proofs.YtdjooacjjnjfmaaGreat
set_option linter.unusedVariables false
set_option linter.unusedSimpArgs false
set_option maxRecDepth 20000
open Go.RowKit Go.Proofs.YtdjooacjjnjfmaaGreatMem Go.Proofs.YtdjooacjjnjfmaaGreatMapK Go.Proofs.YtdjooacjjnjfmaaGreatLin H

/-! ### Where packets lie plays no part -/
theorem partsD_bare (l : List DoneS) : partsD (l.map DoneS.bare) = partsD l := by
  unfold partsD
  rw [List.flatMap_map]
  rfl
theorem mayB_bare (c : Cfg) (l : List DoneS) : mayB c (l.map DoneS.bare) = mayB c l := by
  have h1 : (l.map DoneS.bare).all rightD = l.all rightD := by rw [List.all_map]; rfl
  have h2 : pairsB (l.map DoneS.bare) = pairsB l := by
    unfold pairsB
    rw [List.length_map]
    congr 1
    funext i
    congr 1
    funext k
    rw [← nthD_bare, ← nthD_bare]
    rfl
  have h3 : (l.map DoneS.bare).all endedB = l.all endedB := by rw [List.all_map]; rfl
  unfold mayB rightH
  rw [h1, h2, h3]
theorem fitsB_bare (c : Cfg) (l : List DoneS) (o : List Int) : fitsB c (l.map DoneS.bare) o = fitsB c l o := by unfold fitsB; rw [mayB_bare, partsD_bare]
theorem foundB_bare (c : Cfg) (l : List DoneS) : foundB c (l.map DoneS.bare) = foundB c l := by unfold foundB; rw [mayB_bare, partsD_bare]
theorem fitsB_congr {c : Cfg} {l l' : List DoneS} (h : l.map DoneS.bare = l'.map DoneS.bare) (o : List Int) : fitsB c l o = fitsB c l' o := by rw [← fitsB_bare, h, fitsB_bare]
theorem foundB_congr {c : Cfg} {l l' : List DoneS} (h : l.map DoneS.bare = l'.map DoneS.bare) : foundB c l = foundB c l' := by rw [← foundB_bare, h, foundB_bare]
theorem partsD_congr {l l' : List DoneS} (h : l.map DoneS.bare = l'.map DoneS.bare) : partsD l = partsD l' := by rw [← partsD_bare, h, partsD_bare]

/-! ### What may be -/
theorem pw_nth {R : DoneS → DoneS → Prop} {l : List DoneS} (h : l.Pairwise R) {i j : Nat} (hij : i < j) (hj : j < l.length) : R (nthD l i) (nthD l j) := by
  rw [nthD_eq (by omega), nthD_eq hj]
  exact List.pairwise_iff_getElem.1 h i j (by omega) hj hij
theorem made_right {l : List DoneS} (h : MadeOk l) : rightH l = true := by
  unfold rightH
  rw [Bool.and_eq_true]
  constructor
  · rw [List.all_eq_true]
    intro x hx
    have := h.1 x hx
    unfold rightD
    exact decide_eq_true (by omega)
  · refine pairs_true fun i hi k hk => ?_
    have hp := pw_nth h.2 hk hi
    have hx : (nthD l k).fr ≤ (nthD l k).to ∧ 0 ≤ (nthD l k).fr := by
      have := h.1 (nthD l k) (by rw [nthD_eq (show k < l.length by omega)]; exact List.getElem_mem _)
      omega
    generalize nthD l i = y at *
    generalize nthD l k = x at *
    unfold apartB
    by_cases hw : y.who = x.who
    · obtain ⟨h1, h2⟩ := hp.2 hw.symm
      rw [if_neg (by omega), if_neg (by omega), if_pos h1]
      have hx0 : x.fr ≤ x.to ∧ 0 ≤ x.fr := hx
      show (H.endedB x && decide (x.to < y.fr)) = true
      rw [show H.endedB x = true from decide_eq_true (by omega), decide_eq_true h2]
      rfl
    · rw [if_pos hw]
theorem made_ended {l : List DoneS} (h : MadeOk l) : l.all endedB = true := by
  rw [List.all_eq_true]
  intro x hx
  have := h.1 x hx
  unfold endedB
  exact decide_eq_true (by omega)
theorem made_may {c : Cfg} {l : List DoneS} (hc : c.right = true) (h : MadeOk l) : mayB c l = true := by unfold mayB; rw [hc, made_right h, made_ended h]; rfl

/-! ### No later part stands ahead of an earlier one -/
theorem part_span {d y : DoneS} (h : y ∈ partD d) : y.who = d.who ∧ y.place = d.place ∧ y.fr = d.fr ∧ y.to = d.to := by
  unfold partD packD emptyD at h
  split at h
  · rcases List.mem_append.1 h with h | h
    · obtain ⟨p, -, rfl⟩ := List.mem_map.1 h
      exact ⟨rfl, rfl, rfl, rfl⟩
    · split at h
      · simp only [List.mem_singleton] at h
        subst h
        exact ⟨rfl, rfl, rfl, rfl⟩
      · cases h
  · simp only [List.mem_singleton] at h
    subst h
    exact ⟨rfl, rfl, rfl, rfl⟩
theorem parts_pw {R : DoneS → DoneS → Prop} (hR : ∀ a b x y, x ∈ partD a → y ∈ partD b → R a b → R x y) (h0 : ∀ a x y, x ∈ partD a → y ∈ partD a → R a a → R x y) :
    ∀ {l : List DoneS}, l.Pairwise R → (∀ a ∈ l, R a a) → (partsD l).Pairwise R
  | [], _, _ => List.Pairwise.nil
  | a :: l, h, hr => by
    rw [List.pairwise_cons] at h
    show (partD a ++ partsD l).Pairwise R
    rw [List.pairwise_append]
    refine ⟨?_, parts_pw hR h0 h.2 (fun b hb => hr b (List.mem_cons_of_mem _ hb)), fun x hx y hy => ?_⟩
    · have ha := hr a List.mem_cons_self
      have key : ∀ q : List DoneS, (∀ x ∈ q, x ∈ partD a) → q.Pairwise R := by
        intro q
        induction q with
        | nil => intro _; exact List.Pairwise.nil
        | cons x q ih =>
          intro hq
          rw [List.pairwise_cons]
          exact ⟨fun y hy => h0 a x y (hq x List.mem_cons_self) (hq y (List.mem_cons_of_mem _ hy)) ha, ih fun y hy => hq y (List.mem_cons_of_mem _ hy)⟩
      exact key _ fun x hx => hx
    · unfold partsD at hy
      obtain ⟨b, hb, hy⟩ := List.mem_flatMap.1 hy
      exact hR a b x y hx hy (h.1 b hb)
theorem made_bef {l : List DoneS} (h : MadeOk l) {a b : Nat} (hab : a < b) (hb : b < (partsD l).length) : befB (partsD l) b a = false := by
  have hp : (partsD l).Pairwise fun x y => x.fr ≤ y.to := by
    refine parts_pw (R := fun x y => x.fr ≤ y.to) (fun p q x y hx hy hr => ?_) (fun p x y hx hy hr => ?_) (h.2.imp fun hh => hh.1) (fun x hx => (h.1 x hx).2.2.2)
    · have h1 := part_span hx
      have h2 := part_span hy
      omega
    · have h1 := part_span hx
      have h2 := part_span hy
      omega
  have := pw_nth hp hab hb
  show ((H.endedB _ && decide ((nthD (partsD l) b).to < (nthD (partsD l) a).fr)) || (_ && decide (b < a))) = false
  rw [show decide ((nthD (partsD l) b).to < (nthD (partsD l) a).fr) = false from decide_eq_false (by omega), show decide (b < a) = false from decide_eq_false (by omega)]
  simp
theorem pairO_range {bef : Nat → Nat → Bool} : ∀ (n s : Nat), (∀ a b, s ≤ a → a < b → b < s + n → bef b a = false) → pairO bef (toI (List.range' s n)) = true
  | 0, s, _ => rfl
  | n + 1, s, h => by
    rw [List.range'_succ]
    show (((toI (List.range' (s + 1) n)).all fun z => !bef z.toNat ((s : Int)).toNat) && pairO bef (toI (List.range' (s + 1) n))) = true
    rw [Bool.and_eq_true]
    refine ⟨?_, pairO_range n (s + 1) fun a b h1 h2 h3 => h a b (by omega) h2 (by omega)⟩
    rw [List.all_eq_true]
    intro z hz
    unfold toI at hz
    obtain ⟨i, hi, rfl⟩ := List.mem_map.1 hz
    rw [List.mem_range'_1] at hi
    rw [Int.toNat_natCast, Int.toNat_natCast, h s i (Nat.le_refl _) (by omega) (by omega)]
    rfl
theorem allIn_range (n : Nat) : allIn n (toI (List.range n)) = true := by
  rw [allIn_iff]
  refine ⟨by simp [toI], fun z hz => ?_, ?_⟩
  · unfold toI at hz
    obtain ⟨i, hi, rfl⟩ := List.mem_map.1 hz
    have := List.mem_range.1 hi
    omega
  · unfold toI
    rw [List.Nodup, List.pairwise_map]
    exact List.Pairwise.imp (fun h => by omega) List.nodup_range
theorem made_fits {c : Cfg} {l : List DoneS} {m : MdS} (hc : c.right = true) (h : MadeOk l) (hr : runL c .new (partsD l) = some m) : fitsB c l (toI (List.range (partsD l).length)) = true := by
  unfold fitsB fitO
  rw [made_may hc h, allIn_range, toI_toNat, Bool.true_and, Bool.true_and, Bool.and_eq_true]
  refine ⟨?_, ?_⟩
  · rw [List.range_eq_range']
    exact pairO_range _ 0 fun a b _ h2 h3 => made_bef h h2 (by omega)
  · rw [List.range_eq_range', runS_runL c (partsD l) (partsD l).length 0 .new (by omega), List.drop_zero, hr]
    rfl
/-! ### Found and fits -/
theorem fits_may {c : Cfg} {l : List DoneS} {o : List Int} (h : fitsB c l o = true) : mayB c l = true := by unfold fitsB at h; rw [Bool.and_eq_true] at h; exact h.1
theorem fits_found {c : Cfg} {l : List DoneS} {o : List Int} (h : fitsB c l o = true) (h12 : (partsD l).length ≤ 12) : ∃ q, foundB c l = some q ∧ ∃ p, o = toI p ∧ leL q p := by
  have hm := fits_may h
  unfold fitsB at h
  rw [Bool.and_eq_true] at h
  obtain ⟨q, h1, h2⟩ := fitO_fnd h.2
  exact ⟨q, by unfold foundB; rw [if_pos ⟨hm, h12⟩]; exact h1, h2⟩
theorem found_fits {c : Cfg} {l : List DoneS} {q : List Nat} (h : foundB c l = some q) : fitsB c l (toI q) = true ∧ q.length = (partsD l).length ∧ (partsD l).length ≤ 12 := by
  unfold foundB at h
  split at h
  · rename_i hm
    refine ⟨?_, fnd_length h, hm.2⟩
    unfold fitsB
    rw [hm.1, fnd_fitO h]
    rfl
  · cases h
theorem found_may {c : Cfg} {l : List DoneS} (h : mayB c l = false) : foundB c l = none := by unfold foundB; rw [if_neg (by rw [h]; simp)]
theorem fits_not {c : Cfg} {l : List DoneS} (h : mayB c l = false) (o : List Int) : fitsB c l o = false := by unfold fitsB; rw [h]; rfl
theorem fits_length {c : Cfg} {l : List DoneS} {o : List Int} (h : fitsB c l o = true) : o.length = (partsD l).length := by
  unfold fitsB fitO at h
  simp only [Bool.and_eq_true] at h
  exact (allIn_iff.1 h.2.1).1
/-- What an answer holds. -/
theorem bat_ps : ∀ (k : Nat) (m : MdS) (ps : List Pk), (m.bat k ps).2.ps.length ≤ ps.length + k
  | 0, m, ps => Nat.le_refl _
  | k + 1, m, ps => by
    unfold MdS.bat
    split
    · have := bat_ps k m.one (ps ++ [m.s.head])
      rw [List.length_append] at this
      simp only [List.length_cons, List.length_nil] at this
      omega
    · show ps.length ≤ _
      omega
theorem doo_ps (c : Cfg) (m : MdS) (d : CallS) : (m.doo c d).2.ps.length ≤ 16 := by
  unfold MdS.doo
  split
  · exact Nat.zero_le _
  split
  · exact Nat.zero_le _
  split
  · exact Nat.zero_le _
  split
  · show m.oneRet.ps.length ≤ 16
    unfold MdS.oneRet
    split
    · show 1 ≤ 16
      omega
    · exact Nat.zero_le _
  split
  · split
    · rename_i hi
      have hi2 : d.a ≤ 16 ∧ 1 ≤ d.a := by unfold inB at hi; simp at hi; omega
      have := bat_ps d.a.toNat m []
      simp only [List.length_nil] at this
      omega
    · exact Nat.zero_le _
  split
  · exact Nat.zero_le _
  · exact Nat.zero_le _
end Go.Proofs.YtdjooacjjnjfmaaGreat
end

-- law15's Made: how what is made lies in memory, beside the reference's model.
section
namespace Go.Proofs.YtdjooacjjnjfmaaGreat
set_option linter.unusedVariables false
set_option linter.unusedSimpArgs false
set_option maxRecDepth 20000
open Go.RowKit Go.Proofs.YtdjooacjjnjfmaaGreatMem Go.Proofs.YtdjooacjjnjfmaaGreatMapK Go.Proofs.YtdjooacjjnjfmaaGreatLin H

/-! ### What an answer holds is in its bounds -/
theorem getF_mem' {fs : List (Int × FlS)} {id : Int} {x : FlS} (h : getF fs id = some x) : ∃ e ∈ fs, e.2 = x := by
  unfold getF at h
  cases hf : fs.find? fun e => decide (e.1 = id) with
  | none => rw [hf] at h; cases h
  | some e =>
    rw [hf] at h
    simp only [Option.map_some, Option.some.injEq] at h
    exact ⟨e, List.mem_of_find?_eq_some hf, h⟩
theorem zero_pk : Pk.zero.Ok := ⟨by unfold I64 Pk.zero; simp, by unfold I64 Pk.zero; simp, by unfold I64 Pk.zero; simp⟩
theorem head_ok {s : SfS} (h : s.Ok) : s.head.Ok := by
  unfold SfS.head
  split
  · exact zero_pk
  · cases hg : getF s.fs s.first.2 with
    | none => exact zero_pk
    | some x =>
      obtain ⟨e, he, rfl⟩ := getF_mem' hg
      have := (h.fs e he).pk
      show (FlS.head e.2).Ok
      unfold FlS.head
      cases hl : e.2.l with
      | nil => exact zero_pk
      | cons p l => exact this p (by rw [hl]; exact List.mem_cons_self)
structure RetS.Ok (r : RetS) : Prop where
  e : I64 r.e
  n : I64 r.n
  v : W64 r.v
  ps : ∀ p ∈ r.ps, p.Ok
theorem RetS.code_ok {e : Int} (h : I64 e) : (RetS.code e).Ok := ⟨h, by unfold I64 RetS.code; simp, by unfold W64 RetS.code; simp, fun p hp => by cases hp⟩
theorem bat_ret_ok : ∀ (k : Nat) (m : MdS) (ps : List Pk), m.s.Ok → (∀ p ∈ ps, p.Ok) → (m.bat k ps).2.Ok
  | 0, m, ps, _, h => ⟨by show I64 0; unfold I64; omega, by show I64 0; unfold I64; omega, by show W64 0; unfold W64; omega, h⟩
  | k + 1, m, ps, hm, h => by
    unfold MdS.bat
    split
    · refine bat_ret_ok k m.one _ (SfS.serve_ok hm) fun p hp => ?_
      rcases List.mem_append.1 hp with hp | hp
      · exact h p hp
      · simp only [List.mem_singleton] at hp
        subst hp
        exact head_ok hm
    · exact ⟨by show I64 10; unfold I64; omega, by show I64 0; unfold I64; omega, by show W64 0; unfold W64; omega, h⟩
theorem doo_ret_ok {m : MdS} {k : Nat} (g : m.Good k) (hk : k ≤ 1000000) (c : Cfg) (d : CallS) : (m.doo c d).2.Ok := by
  have hs := g.ok.served
  have hsm : ∀ x : Int, 0 ≤ x → x ≤ 20 → I64 x := fun x h1 h2 => by unfold I64; omega
  have h1 : I64 (m.s.regE c d) := by
    have : 0 ≤ m.s.regE c d ∧ m.s.regE c d ≤ 20 := by unfold SfS.regE; repeat (first | (split; omega) | omega)
    exact hsm _ this.1 this.2
  have h2 : I64 (m.s.removeE d.flow) := by
    have : 0 ≤ m.s.removeE d.flow ∧ m.s.removeE d.flow ≤ 20 := by
      unfold SfS.removeE
      split
      · omega
      · split <;> omega
    exact hsm _ this.1 this.2
  have h3 : I64 (m.s.enqE d) := by
    have : 0 ≤ m.s.enqE d ∧ m.s.enqE d ≤ 20 := by
      unfold SfS.enqE SfS.arriveE
      split
      · split
        · omega
        · split <;> omega
      · omega
    exact hsm _ this.1 this.2
  unfold MdS.doo
  split
  · exact RetS.code_ok h1
  split
  · exact RetS.code_ok h2
  split
  · exact RetS.code_ok h3
  split
  · unfold MdS.oneRet
    split
    · refine ⟨hsm 0 (by decide) (by decide), hsm 0 (by decide) (by decide), by show W64 0; unfold W64; omega, fun p hp => ?_⟩
      have hp : p ∈ [m.s.head] := hp
      simp only [List.mem_singleton] at hp
      subst hp
      exact head_ok g.ok.s
    · exact RetS.code_ok (hsm _ (by decide) (by decide))
  split
  · split
    · exact bat_ret_ok _ m [] g.ok.s fun p hp => by cases hp
    · exact RetS.code_ok (hsm _ (by decide) (by decide))
  split
  · exact ⟨hsm 0 (by decide) (by decide), by show I64 m.served; unfold I64; omega, g.ok.s.v, fun p hp => by cases hp⟩
  · exact RetS.code_ok (hsm _ (by decide) (by decide))

theorem toM_here {ws rs : List Int} {n i k : Nat} (h1 : i < k) (h2 : k < n) (hw : wM ws k = wM ws i) (h : ∀ j, i + 1 ≤ j → j < k → wM ws j ≠ wM ws i) : toM ws rs n i = min (toM0 rs i) (10 * (k : Int) - 1) := by
  unfold toM
  split
  · rename_i j hj
    obtain ⟨a1, a2, a3, a4⟩ := nextM_some hj
    have : j = k := by
      rcases Nat.lt_trichotomy j k with hlt | e | hlt
      · exact absurd a3 (h j a1 hlt)
      · exact e
      · exact absurd hw (a4 k (by omega) hlt)
    rw [this]
  · rename_i hj
    exact absurd hw (nextM_none hj k (by omega) (by omega))
theorem toM_none {ws rs : List Int} {n i : Nat} (h : ∀ j, i + 1 ≤ j → j < n → wM ws j ≠ wM ws i) : toM ws rs n i = toM0 rs i := by
  unfold toM
  split
  · rename_i j hj
    obtain ⟨a1, a2, a3, a4⟩ := nextM_some hj
    exact absurd a3 (h j a1 (by omega))
  · rfl
theorem doneOk {y : DoneS} {who place fr t : Int} {d : CallS} {r : RetS} (h : y.bare = doneM who place 0 0 d r) (hd : d.Ok) (hr : r.Ok) (h1 : I64 who) (h2 : I64 place) (h3 : I64 fr) (h4 : I64 t) :
    ({ y with fr := fr, «to» := t } : DoneS).Ok ∧ (∀ p ∈ y.l, p.Ok) ∧ ({ y with fr := fr, «to» := t } : DoneS).bare = doneM who place fr t d r := by
  obtain ⟨y1, y2, y3, y4, y5, y6, y7, ao, len, cap, y8, y9, y10, y11, yl⟩ := y
  simp only [DoneS.bare, doneM, DoneS.mk.injEq] at h
  obtain ⟨rfl, rfl, rfl, rfl, rfl, rfl, rfl, -, -, -, rfl, rfl, rfl, rfl, rfl⟩ := h
  refine ⟨⟨h1, h2, hd.op, hd.flow, hd.a, hd.b, hr.e, hr.n, ?_, h3, h4⟩, fun p hp => ?_, rfl⟩
  · have := hr.v
    unfold W64 at this
    show 0 ≤ r.v ∧ r.v ≤ 18446744073709551615
    omega
  · obtain ⟨p', hp', rfl⟩ := List.mem_map.1 hp
    exact hr.ps p' hp'
def arr3 (f : Nat → Int) : List Value := [.int .i64 (f 0), .int .i64 (f 1), .int .i64 (f 2)]
theorem arr3_at (f : Nat → Int) {q : Nat} (h : q < 3) : (arr3 f)[q]? = some (.int .i64 (f q)) := by
  rcases (show q = 0 ∨ q = 1 ∨ q = 2 by omega) with rfl | rfl | rfl <;> rfl
theorem arr3_set (f : Nat → Int) {q : Nat} (h : q < 3) (v : Int) : (arr3 f).set q (.int .i64 v) = arr3 (updI f q v) := by
  rcases (show q = 0 ∨ q = 1 ∨ q = 2 by omega) with rfl | rfl | rfl <;> rfl
theorem own_blk' {w : World} {base : Nat} {e t : TypeId} {size n B : Nat} {v : Value} {xs cs : List Value} (h : w.ownsRow base e size v n xs) (hB : Blk w B cs t) (hne : e ≠ t) : ∀ k, v.ownBlock = some k → k ≠ B := by
  intro k hk e'
  subst e'
  obtain ⟨cur, hc⟩ := own_heap h hk
  unfold Blk at hB
  rw [hB] at hc
  simp only [Option.some.injEq, Obj.cells.injEq] at hc
  exact hne hc.2.1.symm
theorem blk_ne' {w : World} {B C : Nat} {cs ds : List Value} {t u : TypeId} (hB : Blk w B cs t) (hC : Blk w C ds u) (hne : t ≠ u) : B ≠ C := by
  rintro rfl
  unfold Blk at hB hC
  rw [hB] at hC
  simp only [Option.some.injEq, Obj.cells.injEq] at hC
  exact hne hC.2.1
def aoK (l : List DoneS) : Nat → Prop := fun k => ∃ d ∈ l, (Value.slice d.ao d.len d.cap).ownBlock = some k
/-- A whole call stored. -/
theorem box_set12 {w : World} {X : Nat} {t : TypeId} {y0 : DoneS} (h : BoxD w X y0 t) (y : DoneS) : BoxD ((((((((((((w.setCell ⟨X, 0, none⟩ (.int .i64 y.who)).setCell ⟨X, 1, none⟩ (.int .i64 y.place)).setCell ⟨X, 2, none⟩ (.int .i64 y.op)).setCell ⟨X, 3, none⟩ (.int .i64 y.fl)).setCell ⟨X, 4, none⟩ (.int .i64 y.a)).setCell ⟨X, 5, none⟩ (.int .i64 y.b)).setCell ⟨X, 6, none⟩ (.int .i64 y.e)).setCell ⟨X, 7, none⟩ (.slice y.ao y.len y.cap)).setCell ⟨X, 8, none⟩ (.int .i64 y.n)).setCell ⟨X, 9, none⟩ (.int .u64 y.v)).setCell ⟨X, 10, none⟩ (.int .i64 y.fr)).setCell ⟨X, 11, none⟩ (.int .i64 y.to)) X y t ∧ Fr (fun k => k = X) w ((((((((((((w.setCell ⟨X, 0, none⟩ (.int .i64 y.who)).setCell ⟨X, 1, none⟩ (.int .i64 y.place)).setCell ⟨X, 2, none⟩ (.int .i64 y.op)).setCell ⟨X, 3, none⟩ (.int .i64 y.fl)).setCell ⟨X, 4, none⟩ (.int .i64 y.a)).setCell ⟨X, 5, none⟩ (.int .i64 y.b)).setCell ⟨X, 6, none⟩ (.int .i64 y.e)).setCell ⟨X, 7, none⟩ (.slice y.ao y.len y.cap)).setCell ⟨X, 8, none⟩ (.int .i64 y.n)).setCell ⟨X, 9, none⟩ (.int .u64 y.v)).setCell ⟨X, 10, none⟩ (.int .i64 y.fr)).setCell ⟨X, 11, none⟩ (.int .i64 y.to)) := by
  have h : Blk w X y0.cells t := h
  exact ⟨Blk.set (Blk.set (Blk.set (Blk.set (Blk.set (Blk.set (Blk.set (Blk.set (Blk.set (Blk.set (Blk.set (Blk.set (h) 0 (.int .i64 y.who)) 1 (.int .i64 y.place)) 2 (.int .i64 y.op)) 3 (.int .i64 y.fl)) 4 (.int .i64 y.a)) 5 (.int .i64 y.b)) 6 (.int .i64 y.e)) 7 (.slice y.ao y.len y.cap)) 8 (.int .i64 y.n)) 9 (.int .u64 y.v)) 10 (.int .i64 y.fr)) 11 (.int .i64 y.to), Fr.setCell (S := fun k => k = X) (a := ⟨X, 11, none⟩) (Fr.setCell (S := fun k => k = X) (a := ⟨X, 10, none⟩) (Fr.setCell (S := fun k => k = X) (a := ⟨X, 9, none⟩) (Fr.setCell (S := fun k => k = X) (a := ⟨X, 8, none⟩) (Fr.setCell (S := fun k => k = X) (a := ⟨X, 7, none⟩) (Fr.setCell (S := fun k => k = X) (a := ⟨X, 6, none⟩) (Fr.setCell (S := fun k => k = X) (a := ⟨X, 5, none⟩) (Fr.setCell (S := fun k => k = X) (a := ⟨X, 4, none⟩) (Fr.setCell (S := fun k => k = X) (a := ⟨X, 3, none⟩) (Fr.setCell (S := fun k => k = X) (a := ⟨X, 2, none⟩) (Fr.setCell (S := fun k => k = X) (a := ⟨X, 1, none⟩) (Fr.setCell (S := fun k => k = X) (a := ⟨X, 0, none⟩) (Fr.refl _ _) (.inl rfl) _) (.inl rfl) _) (.inl rfl) _) (.inl rfl) _) (.inl rfl) _) (.inl rfl) _) (.inl rfl) _) (.inl rfl) _) (.inl rfl) _) (.inl rfl) _) (.inl rfl) _) (.inl rfl) _⟩
/-- Under way: what is made so far (calls l, in the row v), the numbers of the workers (A, N), the model at x; what else is kept (K). -/
structure MkI (w wr : World) (x : Nat) (c : Cfg) (A N R : Nat) (rs : List Value) (K : Nat → Prop) (s : MkS) (l : List DoneS) (v : Value) : Prop where
  own : OwnDs wr w.heap.size v l
  bare : l.map DoneS.bare = s.out
  bA : Blk wr A (arr3 s.a) 65
  bN : Blk wr N (arr3 s.n) 65
  bR : Blk wr R rs 40
  mdl : ∃ y G, MSim s.m y ∧ RmAt wr x c y.s y.served G ∧ (∀ k, G k → w.heap.size ≤ k) ∧ ¬ G A ∧ ¬ G N ∧ ¬ G R ∧ (∀ k, v.ownBlock = some k → ¬ G k) ∧ (∀ k, aoK l k → ¬ G k) ∧ (∀ k, K k → ¬ G k)
  kl : ∀ k, K k → k < wr.heap.size
  geA : w.heap.size ≤ A
  geN : w.heap.size ≤ N
  ne : A ≠ N
  bel : Below w.heap.size w wr
section
variable {w wr w2 w3 w4 : World} {x A N R : Nat} {rs : List Value} {c : Cfg} {K K' : Nat → Prop} {s : MkS} {l : List DoneS} {v v' : Value}
theorem aoK_lt (h : OwnDs wr w.heap.size v l) {k : Nat} (hk : aoK l k) : w.heap.size ≤ k ∧ k < wr.heap.size := by
  obtain ⟨d, hd, ha⟩ := hk
  exact owns_lt (h.2 d hd).1 k ha
theorem MkI.below (h : MkI w wr x c A N R rs K s l v) (hb : Below wr.heap.size wr w2) (hK : ∀ k, K' k → K k ∨ (wr.heap.size ≤ k ∧ k < w2.heap.size)) : MkI w w2 x c A N R rs K' s l v := by
  obtain ⟨y, G, h1, h2, h3, h4, h5, hR, h6, h7, h8⟩ := h.mdl
  refine ⟨h.own.below hb, h.bare, h.bA.below hb, h.bN.below hb, h.bR.below hb, ⟨y, G, h1, h2.below hb, h3, h4, h5, hR, h6, h7, fun k hk hg => ?_⟩, fun k hk => ?_, h.geA, h.geN, h.ne, h.bel.trans (hb.mono h.bel.size)⟩
  · rcases hK k hk with hk | hk
    · exact h8 k hk hg
    · have := h2.lt k hg; omega
  · have := hb.size
    rcases hK k hk with hk | hk
    · have := h.kl k hk; omega
    · exact hk.2
/-- Only kept blocks turned, none of them of what is made. -/
theorem MkI.fr {S : Nat → Prop} (h : MkI w wr x c A N R rs K s l v) (hf : Fr S wr w2) (hS : ∀ k, S k → K k ∧ w.heap.size ≤ k ∧ k ≠ A ∧ k ≠ N ∧ v.ownBlock ≠ some k ∧ ¬ aoK l k ∧ k ≠ R) : MkI w w2 x c A N R rs K s l v := by
  obtain ⟨y, G, h1, h2, h3, h4, h5, hR, h6, h7, h8⟩ := h.mdl
  have hz := hf.size
  refine ⟨⟨owns_fr h.own.1 hf fun k hk hs => (hS k hs).2.2.2.2.1 hk, fun d hd => ⟨owns_fr (h.own.2 d hd).1 hf fun k hk hs => ?_, (h.own.2 d hd).2⟩⟩, h.bare, h.bA.fr hf fun hs => (hS A hs).2.2.1 rfl, h.bN.fr hf fun hs => (hS N hs).2.2.2.1 rfl, h.bR.fr hf fun hs => (hS R hs).2.2.2.2.2.2 rfl,
    ⟨y, G, h1, h2.fr hf fun k hk hs => h8 k (hS k hs).1 hk, h3, h4, h5, hR, h6, h7, h8⟩, fun k hk => Nat.lt_of_lt_of_le (h.kl k hk) hz, h.geA, h.geN, h.ne, h.bel.trans (hf.below (fun k hs => (hS k hs).2.1) h.bel.size)⟩
  exact (hS k hs).2.2.2.2.2.1 ⟨d, hd, hk⟩
theorem MkI.doo {k : Nat} (h : MkI w wr x c A N R rs K s l v) (g : s.m.Good k) (hk : k ≤ 1000000) (hc : CfgR c) (d : CallS) (hd : d.Ok) :
    Calls Tryz.prog 23 #[.pointer (some ⟨x, 0, none⟩), .agg #[.int .i64 d.op, .int .i64 d.flow, .int .i64 d.a, .int .i64 d.b]] wr fun e w' => ∃ ao cap, e = .returned (.agg #[.int .i64 (s.m.doo c d).2.e, .slice ao (s.m.doo c d).2.ps.length cap, .int .i64 (s.m.doo c d).2.n, .int .u64 (s.m.doo c d).2.v]) ∧
      w'.ownsRow w.heap.size 59 3 (.slice ao (s.m.doo c d).2.ps.length cap) (s.m.doo c d).2.ps.length (pks (s.m.doo c d).2.ps) ∧
      MkI w w' x c A N R rs (fun k => K k ∨ (Value.slice ao (s.m.doo c d).2.ps.length cap).ownBlock = some k) { s with m := (s.m.doo c d).1 } l v ∧ (∀ k, K k → w'.heap[k]? = wr.heap[k]?) ∧ wr.heap.size ≤ w'.heap.size ∧ (∀ k, (Value.slice ao (s.m.doo c d).2.ps.length cap).ownBlock = some k → wr.heap.size ≤ k) := by
  obtain ⟨y, G, h1, h2, h3, h4, h5, hR, h6, h7, h8⟩ := h.mdl
  refine (doR_any x c y G d wr h2 ((h1.good g).bat hk) hd hc.unit hc.shards).mono fun e w' hh => ?_
  obtain ⟨ao, cap, G', rfl, row, n3, md, hG, f⟩ := hh
  obtain ⟨s1, s2⟩ := h1.doo c d
  have hz := h.bel.size
  have hz2 := f.size
  rw [← s2] at row ⊢
  have hext : ∀ k, k < wr.heap.size → ¬ G k → ¬ G' k := fun k hk hg hg' => by
    rcases hG k hg' with h9 | h9
    · exact hg h9
    · omega
  refine ⟨ao, cap, rfl, owns_base row hz, ⟨?_, h.bare, h.bA.fr f h4, h.bN.fr f h5, h.bR.fr f hR, ⟨_, G', s1, md, fun k hk => ?_, hext A h.bA.lt h4, hext N h.bN.lt h5, hext R h.bR.lt hR, fun k hk => hext k (owns_lt h.own.1 k hk).2 (h6 k hk), fun k hk => hext k (aoK_lt h.own hk).2 (h7 k hk), ?_⟩, ?_, h.geA, h.geN, h.ne, h.bel.trans (f.below h3 hz)⟩, fun k hk => f.block k (h.kl k hk) (h8 k hk), hz2, fun k hk => (owns_lt row k hk).1⟩
  · exact ⟨owns_fr h.own.1 f h6, fun d hd => ⟨owns_fr (h.own.2 d hd).1 f fun k hk => h7 k ⟨d, hd, hk⟩, (h.own.2 d hd).2⟩⟩
  · rcases hG k hk with hk | hk
    · exact h3 k hk
    · omega
  · rintro k (hk | hk)
    · exact hext k (h.kl k hk) (h8 k hk)
    · cases ao with
      | none => cases hk
      | some a =>
        simp only [Value.ownBlock, Option.some.injEq] at hk
        subst hk
        exact n3 a rfl
  · rintro k (hk | hk)
    · have := h.kl k hk; omega
    · exact (owns_lt row k hk).2
/-- A cell of a call's box turns. -/
theorem MkI.putD {D i : Nat} {cs : List Value} (h : MkI w wr x c A N R rs K s l v) (hD : Blk wr D cs 40) (hK : K D) (h0 : w.heap.size ≤ D) (hR : D ≠ R) (u : Value) : MkI w (wr.setCell ⟨D, i, none⟩ u) x c A N R rs K s l v := by
  refine h.fr (S := fun k => k = D) (Fr.setCell (S := fun k => k = D) (a := ⟨D, i, none⟩) (Fr.refl _ _) (.inl rfl) u) fun k hk => ?_
  subst hk
  exact ⟨hK, h0, fun e => blk_ne' hD h.bA (by decide) e, fun e => blk_ne' hD h.bN (by decide) e, fun e => own_blk' h.own.1 hD (by decide) _ e rfl, fun ⟨d, hd, e⟩ => own_blk' (h.own.2 d hd).1 hD (by decide) _ e rfl, hR⟩
/-- The end of a round: what was made goes behind the others. -/
theorem MkI.push {X m : Nat} {y y0 : DoneS} {f g : Nat → Int} (h : MkI w w3 x c A N R rs K s l v) (hK : ∀ k, K' k → K k) (hX3 : BoxD w3 X y0 42) (hXK : K X) (hF : Fr (fun k => k = A ∨ k = N ∨ k = X) w3 wr) (hX : BoxD wr X y 42) (hX0 : w.heap.size ≤ X) (hXv : ∀ k, v.ownBlock = some k → k ≠ X)
    (hA : Blk wr A (arr3 f) 65) (hN : Blk wr N (arr3 g) 65) (hy : OwnK wr w.heap.size y) (hyK : ∀ k, (Value.slice y.ao y.len y.cap).ownBlock = some k → K k) (hn : l.length = m)
    (ho : w4.ownsRow w.heap.size 42 12 v' (m + 1) (doneC l ++ y.cells)) (hg : wr.grownBy w4 v.ownBlock) (hb : Below w.heap.size wr w4) (hfo : FreshOr wr v v') :
    MkI w w4 x c A N R rs K' ⟨f, g, s.m, s.out ++ [y.bare]⟩ (l ++ [y]) v' := by
  subst hn
  obtain ⟨ym, G, h1, h2, h3, h4, h5, hR, h6, h7, h8⟩ := h.mdl
  have hXc : Blk wr X y.cells 42 := hX
  have z1 := hF.size
  have z2 := hb.size
  have hvl := owns_lt h.own.1
  have own3 : wr.ownsRow w.heap.size 42 12 v l.length (doneC l) := owns_fr h.own.1 hF fun k hk hs => by
    rcases hs with rfl | rfl | rfl
    · exact own_blk' h.own.1 h.bA (by decide) k hk rfl
    · exact own_blk' h.own.1 h.bN (by decide) k hk rfl
    · exact hXv k hk rfl
  have hX3c : Blk w3 X y0.cells 42 := hX3
  have bR3 : Blk wr R rs 40 := h.bR.fr hF fun hs => by
    rcases hs with e | e | e
    · exact blk_ne' h.bR h.bA (by decide) e
    · exact blk_ne' h.bR h.bN (by decide) e
    · exact blk_ne' h.bR hX3c (by decide) e
  have rows3 : ∀ d ∈ l, OwnK wr w.heap.size d := fun d hd => ⟨owns_fr (h.own.2 d hd).1 hF fun k hk hs => by
    rcases hs with rfl | rfl | rfl
    · exact own_blk' (h.own.2 d hd).1 h.bA (by decide) k hk rfl
    · exact own_blk' (h.own.2 d hd).1 h.bN (by decide) k hk rfl
    · exact own_blk' (h.own.2 d hd).1 hX3c (by decide) k hk rfl, (h.own.2 d hd).2⟩
  have row4 : ∀ d, OwnK wr w.heap.size d → OwnK w4 w.heap.size d := fun d hd => ⟨owns_grown hd.1 hg (fun k hk => tag_ne own3 hd.1 (by decide) k hk), hd.2⟩
  have hf4 : Fr (fun k => v.ownBlock = some k) wr w4 := Fr.grown (Fr.refl _ _) hg fun k hk => .inl hk
  have hbel3 : Below w.heap.size w3 wr := hF.below (fun k hk => by rcases hk with rfl | rfl | rfl; exact h.geA; exact h.geN; exact hX0) h.bel.size
  have hlt3 : ∀ k, G k → k < wr.heap.size := fun k hk => Nat.lt_of_lt_of_le (h2.lt k hk) z1
  have own4 : OwnDs w4 w.heap.size v' (l ++ [y]) := by
    refine ⟨?_, fun d hd => ?_⟩
    · rw [doneC_snoc]; simpa using ho
    · rcases List.mem_append.1 hd with hd | hd
      · exact row4 d (rows3 d hd)
      · simp only [List.mem_singleton] at hd
        subst hd
        exact row4 _ hy
  refine ⟨own4, by rw [List.map_append, h.bare]; rfl, hA.grown hg (fun e => own_blk' own3 hA (by decide) A e rfl), hN.grown hg (fun e => own_blk' own3 hN (by decide) N e rfl), bR3.grown hg (fun e => own_blk' own3 bR3 (by decide) R e rfl),
    ⟨ym, G, h1, (h2.fr hF fun k hk hs => ?_).fr hf4 fun k hk hs => h6 k hs hk, h3, h4, h5, hR, fun k hk hgk => ?_, fun k hk => ?_, fun k hk => h8 k (hK k hk)⟩, fun k hk => ?_, h.geA, h.geN, h.ne, (h.bel.trans hbel3).trans hb⟩
  · rcases hs with rfl | rfl | rfl
    · exact h4 hk
    · exact h5 hk
    · exact h8 _ hXK hk
  · rcases hfo with e | e
    · exact h6 k (by rw [← e]; exact hk) hgk
    · have := e k hk
      have := hlt3 k hgk
      omega
  · obtain ⟨d, hd, hk⟩ := hk
    rcases List.mem_append.1 hd with hd | hd
    · exact h7 k ⟨d, hd, hk⟩
    · simp only [List.mem_singleton] at hd
      subst hd
      exact h8 k (hyK k hk)
  · have := h.kl k (hK k hk)
    omega
end
end Go.Proofs.YtdjooacjjnjfmaaGreat
end
