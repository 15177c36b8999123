/- Entries sorted by the library (slices.SortFunc), in memory of the call's own. -/
import Derived.Test.YtnanalaienlbpaaGreatSfq6
import Derived.Test.YtnanalaienlbpaaGreatShlf
import Derived.Shelf.SlSortCmp.NoneTotal
namespace Go.Proofs.YtnanalaienlbpaaGreat
set_option linter.unusedVariables false
set_option linter.unusedSimpArgs false
set_option maxRecDepth 20000
open Go.RowKit Go.Proofs.YtnanalaienlbpaaGreatMem Go.Proofs.YtnanalaienlbpaaGreatMapK Go.Sort Go.Lib

/-- New blocks and draws, no more. -/
def Gr (w w' : World) : Prop := ∃ q os, w' = grow (w.drewN q) os
theorem Gr.refl (w : World) : Gr w w := ⟨0, #[], by rw [grow_empty]; rfl⟩
theorem Gr.alloc {w w' : World} (h : Gr w w') (o : Obj) : Gr w (w'.alloc o) := by
  obtain ⟨q, os, rfl⟩ := h
  exact ⟨q, os ++ #[o], by rw [alloc_eq_grow, grow_grow]⟩
theorem Gr.drew {w w' : World} (h : Gr w w') : Gr w w'.drew := by
  obtain ⟨q, os, rfl⟩ := h
  exact ⟨q + 1, os, by rw [drew_grow]; rfl⟩
theorem Gr.trans {a b c : World} (h : Gr a b) (k : Gr b c) : Gr a c := by
  obtain ⟨q, os, rfl⟩ := h
  obtain ⟨q', os', rfl⟩ := k
  have key : ∀ n (w : World) (os : Array Obj), (grow w os).drewN n = grow (w.drewN n) os := by
    intro n
    induction n with
    | zero => intro w os; rfl
    | succ n ih => intro w os; show ((grow w os).drewN n).drew = _; rw [ih, drew_grow]; rfl
  have key2 : ∀ m n (w : World), (w.drewN n).drewN m = w.drewN (n + m) := by
    intro m
    induction m with
    | zero => intro n w; rfl
    | succ m ih => intro n w; show ((w.drewN n).drewN m).drew = _; rw [ih]; rfl
  exact ⟨q + q', os ++ os', by rw [key, key2, grow_grow]⟩
theorem Gr.below {w w' : World} (h : Gr w w') : Below w.heap.size w w' := by
  obtain ⟨q, os, rfl⟩ := h
  have hd : ∀ n (w : World), Below w.heap.size w (w.drewN n) := by
    intro n
    induction n with
    | zero => intro w; exact Below.refl _ _
    | succ n ih => intro w; exact (ih w).drew
  have h1 := hd q w
  exact h1.trans (⟨rfl, rfl, rfl, by simp, fun k hk => heap_grow_old _ _ (Nat.lt_of_lt_of_le hk h1.size)⟩)

set_option maxHeartbeats 400000 in
theorem aheadG_any (k i l j : Int) (w : World) :
    Calls Tryz.prog 50 #[.agg #[.int .u64 k, .int .i64 i], .agg #[.int .u64 l, .int .i64 j]] w fun e w' => e = .returned (.bool (aheadB k i l j)) ∧ Gr w w' := by
  by_cases h1 : k < l
  · have E : Hid (aheadB k i l j = true) := by unfold Hid aheadB; simp; omega
    go_enter Tryz.func50, Tryz.ntmps50
    go_wp2
    go_ret
    exact ⟨by rw [E.out]; rfl, by repeat (first | exact Gr.refl _ | refine Gr.alloc ?_ _ | refine Gr.drew ?_)⟩
  by_cases h2 : k = l
  · subst h2
    by_cases h3 : i < j
    · have E : Hid (aheadB k i k j = true) := by unfold Hid aheadB; simp; omega
      go_enter Tryz.func50, Tryz.ntmps50
      go_wp2
      go_ret
      exact ⟨by rw [E.out]; rfl, by repeat (first | exact Gr.refl _ | refine Gr.alloc ?_ _ | refine Gr.drew ?_)⟩
    · have E : Hid (aheadB k i k j = false) := by unfold Hid aheadB; simp; omega
      have hd : decide (i < j) = false := by simpa using h3
      go_enter Tryz.func50, Tryz.ntmps50
      go_wp2
      go_ret
      exact ⟨by rw [E.out]; rfl, by repeat (first | exact Gr.refl _ | refine Gr.alloc ?_ _ | refine Gr.drew ?_)⟩
  · have E : Hid (aheadB k i l j = false) := by unfold Hid aheadB; simp; omega
    have h2' : (k == l) = false := by simpa using h2
    go_enter Tryz.func50, Tryz.ntmps50
    go_wp2
    go_ret
    exact ⟨by rw [E.out]; rfl, by repeat (first | exact Gr.refl _ | refine Gr.alloc ?_ _ | refine Gr.drew ?_)⟩

set_option maxHeartbeats 1000000 in
theorem orderG_any (a c : Int × Int) (w : World) :
    Calls Tryz.prog 29 #[.agg #[.int .u64 a.1, .int .i64 a.2], .agg #[.int .u64 c.1, .int .i64 c.2]] w fun e w' => e = .returned (.int .i64 (orderI a c)) ∧ Gr w w' := by
  obtain ⟨k, i⟩ := a
  obtain ⟨l, j⟩ := c
  have hbox : Gr w ((w.alloc (.cells #[.int .u64 k, .int .i64 i] 63)).alloc (.cells #[.int .u64 l, .int .i64 j] 63)) := ((Gr.refl _).alloc _).alloc _
  generalize hR : orderI (k, i) (l, j) = R
  go_enter Tryz.func29, Tryz.ntmps29
  go_wp2_with fail
  refine (aheadG_any k i l j _).mono ?_
  rintro e w' ⟨rfl, hg⟩
  have hb := hg.below
  have B1 := ((Blk.new w [.int .u64 k, .int .i64 i] 63).alloc (.cells #[.int .u64 l, .int .i64 j] 63)).below hb
  have B2 := (Blk.new (w.alloc (.cells #[.int .u64 k, .int .i64 i] 63)) [.int .u64 l, .int .i64 j] 63).below hb
  rw [show (w.alloc (.cells #[.int .u64 k, .int .i64 i] 63)).heap.size = w.heap.size + 1 by simp] at B2
  have c0 := B1.cell 0
  have c1 := B1.cell 1
  have c2 := B2.cell 0
  have c3 := B2.cell 1
  simp only [List.getElem?_cons_succ, List.getElem?_cons_zero] at c0 c1 c2 c3
  have HB := Lib.hid (hbox.trans hg)
  clear B1 B2 hbox hb hg
  cases ha : aheadB k i l j with
  | true =>
    have hR1 : R = -1 := by rw [← hR]; unfold orderI aheadE; rw [if_pos ha]
    subst hR1
    clear hR
    go_wp2
    go_ret
    exact ⟨rfl, HB.out⟩
  | false =>
    by_cases he : k = l ∧ i = j
    · obtain ⟨rfl, rfl⟩ := he
      have hR1 : R = 0 := by rw [← hR]; unfold orderI aheadE; rw [if_neg (by rw [ha]; simp), if_pos rfl]
      subst hR1
      clear hR
      go_wp2
      go_ret
      exact ⟨rfl, HB.out⟩
    · have hR1 : R = 1 := by rw [← hR]; unfold orderI aheadE; rw [if_neg (by rw [ha]; simp), if_neg (by simpa using he)]
      subst hR1
      clear hR
      by_cases h1 : k = l
      · have h2 : (i == j) = false := by simp; exact fun h2 => he ⟨h1, h2⟩
        subst h1
        clear he
        go_wp2
        go_ret
        exact ⟨rfl, HB.out⟩
      · have h2 : (k == l) = false := by simpa using h1
        clear he
        go_wp2
        go_ret
        exact ⟨rfl, HB.out⟩

theorem ltOrder (a c : Int × Int) : ltOf orderI a c = aheadE a c := by
  unfold ltOf
  cases ha : aheadE a c with
  | true => exact decide_eq_true (orderI_neg.2 ha)
  | false => exact decide_eq_false fun h => by rw [orderI_neg.1 h] at ha; cases ha
theorem swoE : SWO (ltOf orderI) where
  irrefl x := by rw [ltOrder]; exact aheadE_irrefl x
  trans x y z h1 h2 := by rw [ltOrder] at *; exact aheadE_trans h1 h2
  ntrans x y z h1 h2 := by
    rw [ltOrder] at *
    unfold aheadE aheadB at *
    simp only [decide_eq_false_iff_not] at *
    omega

/-- Entries in order. -/
def sortE (l : List (Int × Int)) : List (Int × Int) := l.mergeSort fun x y => !aheadE y x
theorem sortE_perm (l : List (Int × Int)) : (sortE l).Perm l := List.mergeSort_perm _ _
theorem sortE_length (l : List (Int × Int)) : (sortE l).length = l.length := (sortE_perm l).length_eq
theorem aheadE_asymm {x y : Int × Int} (h : aheadE x y = true) : aheadE y x = false := by
  cases h2 : aheadE y x with
  | false => rfl
  | true => have := aheadE_trans h h2; rw [aheadE_irrefl] at this; cases this
theorem aheadE_negtrans' {a b c : Int × Int} (h1 : aheadE b a = false) (h2 : aheadE c b = false) : aheadE c a = false := by
  unfold aheadE aheadB at *
  simp only [decide_eq_false_iff_not] at *
  omega
theorem sortE_pairwise (l : List (Int × Int)) : (sortE l).Pairwise fun x y => aheadE y x = false := by
  have := List.pairwise_mergeSort (le := fun x y : Int × Int => !aheadE y x) (fun a b c h1 h2 => by
    simp only [Bool.not_eq_true'] at *
    exact aheadE_negtrans' h1 h2) (fun a b => by
    cases h : aheadE b a with
    | false => rfl
    | true => simp [aheadE_asymm h]) l
  exact this.imp fun {a b} h => by simpa using h
theorem sortE_congr {l l' : List (Int × Int)} (h : l.Perm l') : sortE l = sortE l' :=
  List.Perm.eq_of_pairwise (le := fun x y => aheadE y x = false) (fun a b _ _ h1 h2 => (aheadE_total h2 h1)) (sortE_pairwise l) (sortE_pairwise l') (((sortE_perm l).trans h).trans (sortE_perm l').symm)

def enc2 (x : Int × Int) : List Value := [.int .u64 x.1, .int .i64 x.2]
theorem entC_enc2 (l : List (Int × Int)) : entC l = l.flatMap enc2 := by
  induction l with
  | nil => rfl
  | cons e l ih => simp only [entC, List.flatMap_cons, ih]; rfl
theorem flat_entC (l : List (Int × Int)) : (flatK enc2 2 l.toArray).toList = entC l := by
  refine List.ext_getElem? fun t => ?_
  by_cases ht : t < l.length * 2
  · have h1 : (flatK enc2 2 l.toArray).toList[t]? = some ((flatK enc2 2 l.toArray)[t]!) := by
      rw [Array.getElem?_toList, Array.getElem?_eq_getElem (by simpa using ht), getElem!_pos _ t (by simpa using ht)]
    rw [h1, get_flatK _ _ _ _ (by simpa using ht)]
    obtain ⟨q, hq⟩ : ∃ q, t = q * 2 ∨ t = q * 2 + 1 := ⟨t / 2, by omega⟩
    have hk : q < l.length := by omega
    obtain ⟨c0, c1⟩ := entC_at l q hk
    have hx : l.toArray[q]! = nthE l q := by
      rw [getElem!_pos _ _ (by simpa using hk)]
      unfold nthE
      rw [List.getD_eq_getElem?_getD, List.getElem?_eq_getElem hk]
      rfl
    rcases hq with rfl | rfl
    · rw [show q * 2 / 2 = q by omega, show q * 2 % 2 = 0 by omega, hx, c0]
      rfl
    · rw [show (q * 2 + 1) / 2 = q by omega, show (q * 2 + 1) % 2 = 1 by omega, hx, c1]
      rfl
  · rw [List.getElem?_eq_none (by simp; omega), List.getElem?_eq_none (by rw [entC_length]; omega)]

theorem heap_sortK {w : World} {g n : Nat} {os : Array Obj} {cur : Array Value} {e : TypeId} {fr : Nat × Nat} (d : Array (Int × Int)) (hb : w.heap[g]? = some (.cells cur e fr)) :
    (sortWorldK enc2 2 w g 0 n d os).heap[g]? = some (.cells (putCells id 0 (flatK enc2 2 d) cur) e fr) := by
  have hg : g < w.heap.size := (Array.getElem?_eq_some_iff.1 hb).1
  unfold sortWorldK putRowK
  rw [heap_grow_old _ _ (by simpa using hg)]
  simp [putRow, mapBlock, Sort.ahead, Array.getElem?_modify, hb, onCells]
theorem grown_sortK {w : World} {g n : Nat} {os : Array Obj} (d : Array (Int × Int)) : w.grownBy (sortWorldK enc2 2 w g 0 n d os) (some g) := by
  refine ⟨rfl, rfl, rfl, by unfold sortWorldK putRowK; simp, fun k hk hne => ?_⟩
  unfold sortWorldK putRowK
  rw [heap_grow_old _ _ (by simpa using hk)]
  have : g ≠ k := fun e => hne (by rw [e])
  simp [putRow, mapBlock, Sort.ahead, Array.getElem?_modify, this]
theorem take_putK (cur : Array Value) (F : Array Value) (h : F.size ≤ cur.size) : (putCells id 0 F cur).toList.take F.size = F.toList := by
  apply List.ext_getElem?
  intro j
  by_cases hj : j < F.size
  · rw [List.getElem?_take_of_lt hj, Array.getElem?_toList, Array.getElem?_toList]
    simp [putCells, hj, show j < cur.size by omega]
  · rw [List.getElem?_take_eq_none (by omega), List.getElem?_eq_none (by simp; omega)]

theorem cmpE (blk off size : Nat) (w : World) : CmpLays Tryz.prog 29 #[] enc2 2 orderI blk off size w :=
  fun _ _ _ _ x y => orderG_any x y _

set_option maxHeartbeats 1000000 in
/-- Entries of the call's own, sorted. -/
theorem sortE_any (base : Nat) (v : Value) (l : List (Int × Int)) (w : World) (h : w.ownsRow base 63 2 v l.length (entC l)) (hn : l.length ≤ 1000000) :
    Calls Tryz.prog 28 #[v, .func (.func 29) #[] #[]] w fun e w' => e = .returned (.tuple #[]) ∧ w'.ownsRow base 63 2 v l.length (entC (sortE l)) ∧ w.grownBy w' v.ownBlock := by
  have eg : ∀ args w, (callFunc 29 args).run Tryz.prog w = .ok (.enter 29 args) w := enters_of Tryz.func29 (by kernel_rfl) rfl
  rcases h.2 with ⟨rfl, h0⟩ | ⟨g, cap, cur, rfl, hg, hb, h1, h2, h3, h4⟩
  · rw [h0]
    refine (AnyF.slices_SortFunc_none Tryz.sortE none 0 _ w).mono ?_
    rintro e w' ⟨rfl, rfl⟩
    have : l = [] := List.eq_nil_of_length_eq_zero h0
    subst this
    have e0 : sortE [] = [] := by simp [sortE]
    rw [e0]
    exact ⟨rfl, h, ⟨rfl, rfl, rfl, Nat.le_refl _, fun _ _ _ => rfl⟩⟩
  · have hlt : g < w.heap.size := (Array.getElem?_eq_some_iff.1 hb).1
    have hH : HoldsK enc2 2 w g 0 l.toArray := by
      intro j hj
      have hj' : j < l.length * 2 := by simpa using hj
      refine ⟨?_, by simp [World.frozen?, hb]⟩
      have e1 : (cur.toList.take (l.length * 2))[j]? = (entC l)[j]? := by rw [h4]
      rw [List.getElem?_take_of_lt hj'] at e1
      have e2 : (flatK enc2 2 l.toArray)[j]? = (entC l)[j]? := by rw [← flat_entC, Array.getElem?_toList]
      rw [Array.getElem?_eq_getElem hj] at e2
      rw [getElem!_pos _ j hj]
      simp only [World.cell?, hb, Nat.zero_add, id]
      simp only [Option.isSome_none, Bool.false_eq_true, if_false]
      rw [← Array.getElem?_toList, e1, ← e2]
    have hcon := AnyQ.slices_SortFunc_total Tryz.sortE 2 Tryz.isAgg63 Tryz.sizeOf63 enc2 (fun _ => rfl) (fun x v hv => by simp [enc2] at hv; rcases hv with rfl | rfl <;> rfl) orderI swoE 29 #[] g 0 cap l.toArray w eg (cmpE g 0 _ w) hH hlt (by simp; omega) (fun x y h1 h2 => by rw [ltOrder] at h1 h2; exact aheadE_total h1 h2)
    change Calls Tryz.prog 28 _ _ _ at hcon
    have hs : (l.mergeSort fun x y => !(ltOf orderI) y x) = sortE l := by
      unfold sortE
      congr 1
      funext x y
      rw [ltOrder]
    have e0 : l.toArray.size = l.length := by simp
    rw [e0] at hcon
    refine hcon.mono ?_
    rintro e w' ⟨rfl, n, os, rfl⟩
    simp only [List.toList_toArray, hs]
    have hsz : (flatK enc2 2 (sortE l).toArray).size = l.length * 2 := by simp [sortE_length]
    refine ⟨by first | rfl | trivial, ⟨by rw [entC_length, sortE_length], .inr ⟨g, cap, _, rfl, hg, heap_sortK _ hb, h1, h2, by simp [putCells, h3], ?_⟩⟩, grown_sortK _⟩
    have := take_putK cur (flatK enc2 2 (sortE l).toArray) (by rw [hsz, h3]; omega)
    rw [hsz, flat_entC] at this
    exact this
end Go.Proofs.YtnanalaienlbpaaGreat
