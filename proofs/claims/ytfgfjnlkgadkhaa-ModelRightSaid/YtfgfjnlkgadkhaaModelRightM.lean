/- Merged: Srt Sfq12 Fls CfgIn RefRight Mod3 Mod19 ModelRight. -/
import Derived.Test.YtfgfjnlkgadkhaaSfq6
import Derived.Test.YtfgfjnlkgadkhaaShlf
import Derived.Shelf.SlSortCmp.NoneTotal
import Derived.Test.YtfgfjnlkgadkhaaSim
import Derived.Shelf.SlIterI.Nil
import Derived.Shelf.SortM.Plain
import Derived.Shelf.SortM.SortNone
import Derived.Test.YtfgfjnlkgadkhaaMod1
import Derived.Test.YtfgfjnlkgadkhaaFlat
import Derived.Test.YtfgfjnlkgadkhaaMod2
import Derived.Test.YtfgfjnlkgadkhaaMod18
import Derived.Test.YtfgfjnlkgadkhaaPlayMod
import Derived.Deep.CutRange
import Derived.Deep.RegionHeld3
import Derived.StillTailTactics
-- Entries sorted by the library (slices.SortFunc), in memory of the call's own.
section
namespace Go.Proofs.Ytfgfjnlkgadkhaa
set_option linter.unusedVariables false
set_option linter.unusedSimpArgs false
set_option maxRecDepth 20000
open Go.RowKit Go.Proofs.YtfgfjnlkgadkhaaMem Go.Proofs.YtfgfjnlkgadkhaaMapK Go.Sort Go.Lib

/-- New blocks and draws, no more. -/
def Gr (w w' : World) : Prop := ∃ q os, w' = grow (w.drewN q) os
theorem Gr.refl (w : World) : Gr w w := ⟨0, #[], by rw [grow_empty]; rfl⟩
theorem Gr.alloc {w w' : World} (h : Gr w w') (o : Obj) : Gr w (w'.alloc o) := by
  obtain ⟨q, os, rfl⟩ := h
  exact ⟨q, os ++ #[o], by rw [alloc_eq_grow, grow_grow]⟩
theorem Gr.drew {w w' : World} (h : Gr w w') : Gr w w'.drew := by
  obtain ⟨q, os, rfl⟩ := h
  exact ⟨q + 1, os, by rw [drew_grow]; rfl⟩
theorem Gr.trans {a b c : World} (h : Gr a b) (k : Gr b c) : Gr a c := by
  obtain ⟨q, os, rfl⟩ := h
  obtain ⟨q', os', rfl⟩ := k
  have key : ∀ n (w : World) (os : Array Obj), (grow w os).drewN n = grow (w.drewN n) os := by
    intro n
    induction n with
    | zero => intro w os; rfl
    | succ n ih => intro w os; show ((grow w os).drewN n).drew = _; rw [ih, drew_grow]; rfl
  have key2 : ∀ m n (w : World), (w.drewN n).drewN m = w.drewN (n + m) := by
    intro m
    induction m with
    | zero => intro n w; rfl
    | succ m ih => intro n w; show ((w.drewN n).drewN m).drew = _; rw [ih]; rfl
  exact ⟨q + q', os ++ os', by rw [key, key2, grow_grow]⟩
theorem Gr.below {w w' : World} (h : Gr w w') : Below w.heap.size w w' := by
  obtain ⟨q, os, rfl⟩ := h
  have hd : ∀ n (w : World), Below w.heap.size w (w.drewN n) := by
    intro n
    induction n with
    | zero => intro w; exact Below.refl _ _
    | succ n ih => intro w; exact (ih w).drew
  have h1 := hd q w
  exact h1.trans (⟨rfl, rfl, rfl, by simp, fun k hk => heap_grow_old _ _ (Nat.lt_of_lt_of_le hk h1.size)⟩)

set_option maxHeartbeats 400000 in
theorem aheadG_any (k i l j : Int) (w : World) :
    Calls Try.prog 66 #[.agg #[.int .u64 k, .int .i64 i], .agg #[.int .u64 l, .int .i64 j]] w fun e w' => e = .returned (.bool (aheadB k i l j)) ∧ Gr w w' := by
  by_cases h1 : k < l
  · have E : Hid (aheadB k i l j = true) := by unfold Hid aheadB; simp; omega
    go_enter Try.func66, Try.ntmps66
    go_wp2
    go_ret
    exact ⟨by rw [E.out]; rfl, by repeat (first | exact Gr.refl _ | refine Gr.alloc ?_ _ | refine Gr.drew ?_)⟩
  by_cases h2 : k = l
  · subst h2
    by_cases h3 : i < j
    · have E : Hid (aheadB k i k j = true) := by unfold Hid aheadB; simp; omega
      go_enter Try.func66, Try.ntmps66
      go_wp2
      go_ret
      exact ⟨by rw [E.out]; rfl, by repeat (first | exact Gr.refl _ | refine Gr.alloc ?_ _ | refine Gr.drew ?_)⟩
    · have E : Hid (aheadB k i k j = false) := by unfold Hid aheadB; simp; omega
      have hd : decide (i < j) = false := by simpa using h3
      go_enter Try.func66, Try.ntmps66
      go_wp2
      go_ret
      exact ⟨by rw [E.out]; rfl, by repeat (first | exact Gr.refl _ | refine Gr.alloc ?_ _ | refine Gr.drew ?_)⟩
  · have E : Hid (aheadB k i l j = false) := by unfold Hid aheadB; simp; omega
    have h2' : (k == l) = false := by simpa using h2
    go_enter Try.func66, Try.ntmps66
    go_wp2
    go_ret
    exact ⟨by rw [E.out]; rfl, by repeat (first | exact Gr.refl _ | refine Gr.alloc ?_ _ | refine Gr.drew ?_)⟩

set_option maxHeartbeats 1000000 in
theorem orderG_any (a c : Int × Int) (w : World) :
    Calls Try.prog 49 #[.agg #[.int .u64 a.1, .int .i64 a.2], .agg #[.int .u64 c.1, .int .i64 c.2]] w fun e w' => e = .returned (.int .i64 (orderI a c)) ∧ Gr w w' := by
  obtain ⟨k, i⟩ := a
  obtain ⟨l, j⟩ := c
  have hbox : Gr w ((w.alloc (.cells #[.int .u64 k, .int .i64 i] 95)).alloc (.cells #[.int .u64 l, .int .i64 j] 95)) := ((Gr.refl _).alloc _).alloc _
  generalize hR : orderI (k, i) (l, j) = R
  go_enter Try.func49, Try.ntmps49
  go_wp2_with fail
  refine (aheadG_any k i l j _).mono ?_
  rintro e w' ⟨rfl, hg⟩
  have hb := hg.below
  have B1 := ((Blk.new w [.int .u64 k, .int .i64 i] 95).alloc (.cells #[.int .u64 l, .int .i64 j] 95)).below hb
  have B2 := (Blk.new (w.alloc (.cells #[.int .u64 k, .int .i64 i] 95)) [.int .u64 l, .int .i64 j] 95).below hb
  rw [show (w.alloc (.cells #[.int .u64 k, .int .i64 i] 95)).heap.size = w.heap.size + 1 by simp] at B2
  have c0 := B1.cell 0
  have c1 := B1.cell 1
  have c2 := B2.cell 0
  have c3 := B2.cell 1
  simp only [List.getElem?_cons_succ, List.getElem?_cons_zero] at c0 c1 c2 c3
  have HB := Lib.hid (hbox.trans hg)
  clear B1 B2 hbox hb hg
  cases ha : aheadB k i l j with
  | true =>
    have hR1 : R = -1 := by rw [← hR]; unfold orderI aheadE; rw [if_pos ha]
    subst hR1
    clear hR
    go_wp2
    go_ret
    exact ⟨rfl, HB.out⟩
  | false =>
    by_cases he : k = l ∧ i = j
    · obtain ⟨rfl, rfl⟩ := he
      have hR1 : R = 0 := by rw [← hR]; unfold orderI aheadE; rw [if_neg (by rw [ha]; simp), if_pos rfl]
      subst hR1
      clear hR
      go_wp2
      go_ret
      exact ⟨rfl, HB.out⟩
    · have hR1 : R = 1 := by rw [← hR]; unfold orderI aheadE; rw [if_neg (by rw [ha]; simp), if_neg (by simpa using he)]
      subst hR1
      clear hR
      by_cases h1 : k = l
      · have h2 : (i == j) = false := by simp; exact fun h2 => he ⟨h1, h2⟩
        subst h1
        clear he
        go_wp2
        go_ret
        exact ⟨rfl, HB.out⟩
      · have h2 : (k == l) = false := by simpa using h1
        clear he
        go_wp2
        go_ret
        exact ⟨rfl, HB.out⟩

theorem ltOrder (a c : Int × Int) : ltOf orderI a c = aheadE a c := by
  unfold ltOf
  cases ha : aheadE a c with
  | true => exact decide_eq_true (orderI_neg.2 ha)
  | false => exact decide_eq_false fun h => by rw [orderI_neg.1 h] at ha; cases ha
theorem swoE : SWO (ltOf orderI) where
  irrefl x := by rw [ltOrder]; exact aheadE_irrefl x
  trans x y z h1 h2 := by rw [ltOrder] at *; exact aheadE_trans h1 h2
  ntrans x y z h1 h2 := by
    rw [ltOrder] at *
    unfold aheadE aheadB at *
    simp only [decide_eq_false_iff_not] at *
    omega

/-- Entries in order. -/
def sortE (l : List (Int × Int)) : List (Int × Int) := l.mergeSort fun x y => !aheadE y x
theorem sortE_perm (l : List (Int × Int)) : (sortE l).Perm l := List.mergeSort_perm _ _
theorem sortE_length (l : List (Int × Int)) : (sortE l).length = l.length := (sortE_perm l).length_eq
theorem aheadE_asymm {x y : Int × Int} (h : aheadE x y = true) : aheadE y x = false := by
  cases h2 : aheadE y x with
  | false => rfl
  | true => have := aheadE_trans h h2; rw [aheadE_irrefl] at this; cases this
theorem aheadE_negtrans' {a b c : Int × Int} (h1 : aheadE b a = false) (h2 : aheadE c b = false) : aheadE c a = false := by
  unfold aheadE aheadB at *
  simp only [decide_eq_false_iff_not] at *
  omega
theorem sortE_pairwise (l : List (Int × Int)) : (sortE l).Pairwise fun x y => aheadE y x = false := by
  have := List.pairwise_mergeSort (le := fun x y : Int × Int => !aheadE y x) (fun a b c h1 h2 => by
    simp only [Bool.not_eq_true'] at *
    exact aheadE_negtrans' h1 h2) (fun a b => by
    cases h : aheadE b a with
    | false => rfl
    | true => simp [aheadE_asymm h]) l
  exact this.imp fun {a b} h => by simpa using h
theorem sortE_congr {l l' : List (Int × Int)} (h : l.Perm l') : sortE l = sortE l' :=
  List.Perm.eq_of_pairwise (le := fun x y => aheadE y x = false) (fun a b _ _ h1 h2 => (aheadE_total h2 h1)) (sortE_pairwise l) (sortE_pairwise l') (((sortE_perm l).trans h).trans (sortE_perm l').symm)

def enc2 (x : Int × Int) : List Value := [.int .u64 x.1, .int .i64 x.2]
theorem entC_enc2 (l : List (Int × Int)) : entC l = l.flatMap enc2 := by
  induction l with
  | nil => rfl
  | cons e l ih => simp only [entC, List.flatMap_cons, ih]; rfl
theorem flat_entC (l : List (Int × Int)) : (flatK enc2 2 l.toArray).toList = entC l := by
  refine List.ext_getElem? fun t => ?_
  by_cases ht : t < l.length * 2
  · have h1 : (flatK enc2 2 l.toArray).toList[t]? = some ((flatK enc2 2 l.toArray)[t]!) := by
      rw [Array.getElem?_toList, Array.getElem?_eq_getElem (by simpa using ht), getElem!_pos _ t (by simpa using ht)]
    rw [h1, get_flatK _ _ _ _ (by simpa using ht)]
    obtain ⟨q, hq⟩ : ∃ q, t = q * 2 ∨ t = q * 2 + 1 := ⟨t / 2, by omega⟩
    have hk : q < l.length := by omega
    obtain ⟨c0, c1⟩ := entC_at l q hk
    have hx : l.toArray[q]! = nthE l q := by
      rw [getElem!_pos _ _ (by simpa using hk)]
      unfold nthE
      rw [List.getD_eq_getElem?_getD, List.getElem?_eq_getElem hk]
      rfl
    rcases hq with rfl | rfl
    · rw [show q * 2 / 2 = q by omega, show q * 2 % 2 = 0 by omega, hx, c0]
      rfl
    · rw [show (q * 2 + 1) / 2 = q by omega, show (q * 2 + 1) % 2 = 1 by omega, hx, c1]
      rfl
  · rw [List.getElem?_eq_none (by simp; omega), List.getElem?_eq_none (by rw [entC_length]; omega)]

theorem heap_sortK {w : World} {g n : Nat} {os : Array Obj} {cur : Array Value} {e : TypeId} {fr : Nat × Nat} (d : Array (Int × Int)) (hb : w.heap[g]? = some (.cells cur e fr)) :
    (sortWorldK enc2 2 w g 0 n d os).heap[g]? = some (.cells (putCells id 0 (flatK enc2 2 d) cur) e fr) := by
  have hg : g < w.heap.size := (Array.getElem?_eq_some_iff.1 hb).1
  unfold sortWorldK putRowK
  rw [heap_grow_old _ _ (by simpa using hg)]
  simp [putRow, mapBlock, Sort.ahead, Array.getElem?_modify, hb, onCells]
theorem grown_sortK {w : World} {g n : Nat} {os : Array Obj} (d : Array (Int × Int)) : w.grownBy (sortWorldK enc2 2 w g 0 n d os) (some g) := by
  refine ⟨rfl, rfl, rfl, by unfold sortWorldK putRowK; simp, fun k hk hne => ?_⟩
  unfold sortWorldK putRowK
  rw [heap_grow_old _ _ (by simpa using hk)]
  have : g ≠ k := fun e => hne (by rw [e])
  simp [putRow, mapBlock, Sort.ahead, Array.getElem?_modify, this]
theorem take_putK (cur : Array Value) (F : Array Value) (h : F.size ≤ cur.size) : (putCells id 0 F cur).toList.take F.size = F.toList := by
  apply List.ext_getElem?
  intro j
  by_cases hj : j < F.size
  · rw [List.getElem?_take_of_lt hj, Array.getElem?_toList, Array.getElem?_toList]
    simp [putCells, hj, show j < cur.size by omega]
  · rw [List.getElem?_take_eq_none (by omega), List.getElem?_eq_none (by simp; omega)]

theorem cmpE (blk off size : Nat) (w : World) : CmpLays Try.prog 49 #[] enc2 2 orderI blk off size w :=
  fun _ _ _ _ x y => orderG_any x y _

set_option maxHeartbeats 1000000 in
/-- Entries of the call's own, sorted. -/
theorem sortE_any (base : Nat) (v : Value) (l : List (Int × Int)) (w : World) (h : w.ownsRow base 95 2 v l.length (entC l)) (hn : l.length ≤ 1000000) :
    Calls Try.prog 48 #[v, .func (.func 49) #[] #[]] w fun e w' => e = .returned (.tuple #[]) ∧ w'.ownsRow base 95 2 v l.length (entC (sortE l)) ∧ w.grownBy w' v.ownBlock := by
  have eg : ∀ args w, (callFunc 49 args).run Try.prog w = .ok (.enter 49 args) w := enters_of Try.func49 (by kernel_rfl) rfl
  rcases h.2 with ⟨rfl, h0⟩ | ⟨g, cap, cur, rfl, hg, hb, h1, h2, h3, h4⟩
  · rw [h0]
    refine (AnyF.slices_SortFunc_none Try.sortE none 0 _ w).mono ?_
    rintro e w' ⟨rfl, rfl⟩
    have : l = [] := List.eq_nil_of_length_eq_zero h0
    subst this
    have e0 : sortE [] = [] := by simp [sortE]
    rw [e0]
    exact ⟨rfl, h, ⟨rfl, rfl, rfl, Nat.le_refl _, fun _ _ _ => rfl⟩⟩
  · have hlt : g < w.heap.size := (Array.getElem?_eq_some_iff.1 hb).1
    have hH : HoldsK enc2 2 w g 0 l.toArray := by
      intro j hj
      have hj' : j < l.length * 2 := by simpa using hj
      refine ⟨?_, by simp [World.frozen?, hb]⟩
      have e1 : (cur.toList.take (l.length * 2))[j]? = (entC l)[j]? := by rw [h4]
      rw [List.getElem?_take_of_lt hj'] at e1
      have e2 : (flatK enc2 2 l.toArray)[j]? = (entC l)[j]? := by rw [← flat_entC, Array.getElem?_toList]
      rw [Array.getElem?_eq_getElem hj] at e2
      rw [getElem!_pos _ j hj]
      simp only [World.cell?, hb, Nat.zero_add, id]
      simp only [Option.isSome_none, Bool.false_eq_true, if_false]
      rw [← Array.getElem?_toList, e1, ← e2]
    have hcon := AnyQ.slices_SortFunc_total Try.sortE 2 Try.isAgg95 Try.sizeOf95 enc2 (fun _ => rfl) (fun x v hv => by simp [enc2] at hv; rcases hv with rfl | rfl <;> rfl) orderI swoE 49 #[] g 0 cap l.toArray w eg (cmpE g 0 _ w) hH hlt (by simp; omega) (fun x y h1 h2 => by rw [ltOrder] at h1 h2; exact aheadE_total h1 h2)
    change Calls Try.prog 48 _ _ _ at hcon
    have hs : (l.mergeSort fun x y => !(ltOf orderI) y x) = sortE l := by
      unfold sortE
      congr 1
      funext x y
      rw [ltOrder]
    have e0 : l.toArray.size = l.length := by simp
    rw [e0] at hcon
    refine hcon.mono ?_
    rintro e w' ⟨rfl, n, os, rfl⟩
    simp only [List.toList_toArray, hs]
    have hsz : (flatK enc2 2 (sortE l).toArray).size = l.length * 2 := by simp [sortE_length]
    refine ⟨by first | rfl | trivial, ⟨by rw [entC_length, sortE_length], .inr ⟨g, cap, _, rfl, hg, heap_sortK _ hb, h1, h2, by simp [putCells, h3], ?_⟩⟩, grown_sortK _⟩
    have := take_putK cur (flatK enc2 2 (sortE l).toArray) (by rw [hsz, h3]; omega)
    rw [hsz, flat_entC] at this
    exact this
end Go.Proofs.Ytfgfjnlkgadkhaa
end

-- A set of flows: the starts, in order.
section
namespace Go.Proofs.Ytfgfjnlkgadkhaa
set_option linter.unusedVariables false
set_option linter.unusedSimpArgs false
set_option maxRecDepth 20000
open Go.RowKit Go.Proofs.YtfgfjnlkgadkhaaMem Go.Proofs.YtfgfjnlkgadkhaaMapK

theorem EI : ElT Try.prog 48 98 (.agg #[.int .u64 0, .int .i64 0]) 2 := ⟨Try.underlying48, ⟨16, by kernel_rfl, by omega⟩, rfl, by omega⟩
def SfS.starts (s : SfS) : List (Int × Int) := sortE (entL s.fs)
theorem take_nthE (l : List (Int × Int)) {k : Nat} (h : k < l.length) : l.take (k + 1) = l.take k ++ [nthE l k] := by
  unfold nthE
  rw [List.take_add_one, List.getD_eq_getElem?_getD, List.getElem?_eq_getElem h]
  rfl
theorem entL_le (fs : List (Int × FlS)) : (entL fs).length ≤ fs.length := by
  unfold entL
  rw [List.length_map]
  exact List.length_filter_le _ _

set_option maxHeartbeats 1000000 in
theorem startsS_any (b : Nat) (s : SfS) (F : Nat → Prop) (w : World) (h : SfsAt w b s F) (hn : s.fs.length ≤ 1000000) :
    Calls Try.prog 32 #[.pointer (some ⟨b, 0, none⟩)] w fun e w' => ∃ v, e = .returned v ∧ w'.ownsRow w.heap.size 98 2 v s.starts.length (entC s.starts) ∧ Below w.heap.size w w' := by
  go_enter Try.func32, Try.ntmps32
  go_wp2_with fail
  refine (entries_any b s F w h hn).mono ?_
  rintro e w1 ⟨v, es, rfl, hp, hown, hb1⟩
  have hes : es.length ≤ 1000000 := by rw [hp.length_eq]; exact Nat.le_trans (entL_le _) hn
  have hs : sortE es = s.starts := sortE_congr hp
  have hlt1 := hown.lt
  go_wp2_with fail
  refine (sortE_any _ v es w1 hown hes).mono ?_
  rintro e w2 ⟨rfl, hown2, hg2⟩
  rw [hs] at hown2
  have hL : s.starts.length = es.length := by rw [← hs, sortE_length]
  obtain ⟨a, c, rfl⟩ := owns_slice hown2
  have hb2 : Below w.heap.size w w2 := hb1.grown hg2 hb1.size fun k hk => (hlt1 k hk).1
  generalize hLs : s.starts = L at *
  have HLS := Lib.hid hLs
  clear hLs
  have hrd := owns_rdS hown2 (entC_one L)
  have hsz := hb2.size
  have HL := Lib.hid hL
  have HB := Lib.hid hb2
  generalize hnn : es.length = n at *
  clear hown hown2 hp hs hg2 hb1 hb2 h hlt1 hL hnn
  go_wp2_with fail
  go_loopw [4, 6, 13] (fun v4 _ v13 wr => ∃ k : Nat, k ≤ n ∧ v13 = .int .i64 k ∧ wr.ownsRow w2.heap.size 98 2 v4 k (entC (L.take k)) ∧ Below w2.heap.size w2 wr) (fun _ _ v13 _ => n - (intOf v13).toNat)
  case atStart => exact ⟨0, Nat.zero_le _, rfl, owns_nil _ _ _ _, Below.refl _ _⟩
  case round =>
    obtain ⟨k, hk, rfl, hown, hbr⟩ := hrel
    have hszr := hbr.size
    by_cases hl : k < n
    · have i1 : (k : Int) < (n : Int) := by omega
      obtain ⟨b0, o0, rfl, hlt0, hc0⟩ := rds_ent hrd HL.out hl
      obtain ⟨n0, n1⟩ := hc0 _ hbr
      have HE := Lib.hid (take_nthE L (by rw [HL.out]; exact hl))
      have hown' := hown.alloc (.cells #[.int .u64 (nthE L k).1, .int .i64 (nthE L k).2] 95)
      have hbx := hbr.alloc hszr (.cells #[.int .u64 (nthE L k).1, .int .i64 (nthE L k).2] 95)
      have Bx := Blk.new wr [.int .u64 (nthE L k).1, .int .i64 (nthE L k).2] 95
      have x0 := Bx.cell 0
      have x1 := Bx.cell 1
      simp only [List.getElem?_cons_succ, List.getElem?_cons_zero] at x0 x1
      have hszx := hbx.size
      have hn2 : k + 1 ≤ 1099511627776 := by omega
      clear hc0 hown
      go_upto_region 7 with fail
      generalize hWX : wr.alloc (.cells #[.int .u64 (nthE L k).1, .int .i64 (nthE L k).2] 95) = wx at *
      clear hWX
      go_wp2_with ((at_builtin; refine ap_new wx #[.int .u64 (nthE L k).1, .int .i64 (nthE L k).2] EI rfl _ _ rfl w2.heap.size _ k _ rfl hown' hszx 1 rfl rfl (one2 _ _) hn2 ?_; intro v' w3 hown3 hg3 hb3 hfr3))
      go_roundw
      case rel =>
        refine ⟨k + 1, by omega, by go_num, ?_, hbx.trans hb3⟩
        rw [HE.out, entC_append]
        simpa [entC] using hown3
      case measure => simp [intOf]; omega
    · obtain rfl : k = n := by omega
      have hT : L.take k = L := List.take_of_length_le (by rw [HL.out]; exact Nat.le_refl _)
      rw [hT] at hown
      go_wp2
      go_ret
      exact ⟨_, rfl, by rw [HLS.out, HL.out]; exact owns_base hown hsz, HB.out.trans (hbr.mono hsz)⟩
end Go.Proofs.Ytfgfjnlkgadkhaa
end

-- Which flows there are, rising: slices.Sorted(maps.Keys(..)) at the flows' map.
section
namespace Go.Proofs.Ytfgfjnlkgadkhaa
set_option linter.unusedVariables false
set_option linter.unusedSimpArgs false
set_option maxRecDepth 20000
open Go.RowKit Go.Proofs.YtfgfjnlkgadkhaaMem Go.Proofs.YtfgfjnlkgadkhaaMapK Go.Sort Go.Shelf

/-- Whatever stands at a key: it is not read. -/
def RN : Value → Option (DataW Unit × List MemPlace) := fun _ => some (.nil, [])
def keyZ : Value → Int | .int _ a => a | _ => 0
theorem ownsMap_of {w : World} {mb : Nat} {m : List (Int × Value)} (h : IsMapAt w mb (Value.int .i64) m) (hk : ∀ e ∈ m, I64 e.1) (hn : m.length ≤ 1000000) :
    ∃ D : DataW Unit, w.ownsMap Try.prog 3 RN mb m.length D ∧ (intKeys D).Perm (m.map (·.1)) ∧ Maps.size D = m.length := by
  obtain ⟨es, clock, h⟩ := h
  have hlen : es.toList.length = m.length := by have := congrArg List.length h.ents; simpa using this
  have hkey := h.keyEq
  have hread : ∀ x ∈ es.toList, WideElems.rd Try.prog 3 RN x = some (.int .i64 (keyZ x.key), .nil) := by
    intro x hx
    have hx2 : x.key ∈ (m.map (·.1)).map (Value.int .i64) := by rw [← hkey]; exact List.mem_map.2 ⟨x, hx, rfl⟩
    obtain ⟨k, hk1, hk2⟩ := List.mem_map.1 hx2
    obtain ⟨e, he, rfl⟩ := List.mem_map.1 hk1
    have hb := hk e he
    have hw : (Lit.int .i64 e.1).wf = true := by unfold I64 at hb; simp [Lit.wf, IntKind.min, IntKind.max, IntKind.bits, IntKind.signed]; exact hb
    obtain ⟨key, val, born⟩ := x
    simp only at hk2
    subst hk2
    exact WideElems.rd_mk (R := RN) (yv := (.nil, [])) (Maps.keyOf_int_mk Try.underlying3 hw) rfl
  have hst : MapKept.Stamped es clock := by
    refine ⟨h.born, h.stamps, ?_⟩
    rw [hkey]
    exact List.pairwise_map.2 (h.keys.imp fun hne e => hne (by simpa using e))
  refine ⟨_, ⟨es, clock, h.heap, ⟨by rw [← Array.length_toList, hlen]; unfold maxLen; omega, hst, fun x hx => ⟨_, hread x hx⟩⟩, by rw [← Array.length_toList, hlen]; exact Nat.le_refl _, rfl⟩, ?_, ?_⟩
  · show (List.map (fun p : Lit × DataW Unit => Go.intOf p.1) _).Perm _
    have e1 : List.map (fun p : Lit × DataW Unit => Go.intOf p.1) (es.toList.map (WideElems.rg Try.prog 3 RN)) = m.map (·.1) := by
      rw [List.map_map]
      have e2 : List.map ((fun p : Lit × DataW Unit => Go.intOf p.1) ∘ WideElems.rg Try.prog 3 RN) es.toList = (es.toList.map (·.key)).map keyZ := by
        rw [List.map_map]
        refine List.map_congr_left fun x hx => ?_
        simp only [Function.comp, WideElems.rg_of (hread x hx)]
        rfl
      rw [e2, hkey, List.map_map]
      conv => rhs; rw [← List.map_id (m.map (·.1))]
      rfl
    rw [← e1]
    exact (WideShapes.sorted_perm _).map _
  · show (List.foldr DataW.insert [] _).length = _
    rw [(WideShapes.sorted_perm _).length_eq, List.length_map, hlen]

theorem sortsIn (n : Nat) : AnyZI.SortsIn Try.prog Try.sortedF_ren Fence.wide n :=
  ⟨fun blk off cap ss W hH hblk hsz => callsIn_wide.2 (AnyM.slices_Sort_int Try.sortF blk off cap ss W hH hblk hsz),
   fun p cap W => callsIn_wide.2 (AnyM.slices_Sort_int_none Try.sortF p cap W)⟩

theorem keysC (mb : Option Nat) (w : World) : Calls Try.prog 46 #[.map mb] w fun e w' => e = .returned (.func (.func 62) #[] #[.pointer (some ⟨w.heap.size, 0, none⟩)]) ∧ w' = w.alloc (.cells #[.map mb] 83) :=
  callsIn_wide.1 (AnyZI.keys_in Try.keysF Fence.wide 5 trivial rfl mb w)

theorem sortedC {mb : Nat} {m : List (Int × Value)} {w : World} (h : IsMapAt w mb (Value.int .i64) m) (hk : ∀ e ∈ m, I64 e.1) (hn : m.length ≤ 1000000) :
    Calls Try.prog 45 #[.func (.func 62) #[] #[.pointer (some ⟨w.heap.size, 0, none⟩)]] (w.alloc (.cells #[.map (some mb)] 83)) fun e w' => ∃ v, e = .returned v ∧
      w'.ownsRow w.heap.size 3 1 v m.length (((m.map (·.1)).mergeSort fun x y => decide (x ≤ y)).map (Value.int .i64)) ∧ Below w.heap.size w w' := by
  obtain ⟨D0, hown, hp, hsz⟩ := ownsMap_of h hk hn
  have hbl := hown.lt
  have hseq : SeqGives Fence.wide 2 Try.prog 62 #[.pointer (some ⟨w.heap.size, 0, none⟩)] encZ (fun ss => ss.Perm (intKeys D0)) (Maps.size D0) (w.alloc (.cells #[.map (some mb)] 83)) :=
    AnyZI.keys_gives (ρ := Try.keysF_ren) { Try.keysF with } Fence.wide _ trivial rfl (by omega) w.heap.size mb _ D0 _ (by simp) (by simp) (by
      obtain ⟨es, clock, hb, Ft, hs, hD⟩ := hown
      exact ⟨es, clock, (Below.heap_alloc _ _ mb hbl).trans hb, Ft, hs, hD⟩)
  have cS := AnyZI.sorted_in Try.sortedF Fence.wide 5 trivial trivial trivial trivial rfl (by omega) (sortsIn _) (enters_of Try.func61 (by kernel_rfl) rfl) 62 #[.pointer (some ⟨w.heap.size, 0, none⟩)] trivial (enters_of Try.func62 (by kernel_rfl) rfl) _ (Maps.size D0) (by rw [hsz]; unfold maxLen; omega) (by rw [hsz]; omega) _ hseq
  change CallsIn _ _ Try.prog 45 _ _ _ at cS
  refine (callsIn_wide.1 cS).mono ?_
  rintro e w' ⟨v, ss, rfl, hS, hrow, -, hb⟩
  have e1 : ss.length = m.length := by rw [(hS.trans hp).length_eq, List.length_map]
  have e2 : (ss.mergeSort fun x y => decide (x ≤ y)) = ((m.map (·.1)).mergeSort fun x y => decide (x ≤ y)) := mergeSort_of_perm_i (hS.trans hp)
  rw [e1, e2] at hrow
  exact ⟨v, rfl, ownsRow_base_a hrow (by simp), ((Below.refl _ w).alloc (Nat.le_refl _) _).trans (hb.mono (by simp))⟩

set_option maxHeartbeats 1000000 in
theorem flowsS_any (b : Nat) (s : SfS) (F : Nat → Prop) (w : World) (h : SfsAt w b s F) (hi : ∀ e ∈ s.fs, I64 e.1) (hn : s.fs.length ≤ 1000000) :
    Calls Try.prog 31 #[.pointer (some ⟨b, 0, none⟩)] w fun e w' => ∃ v, e = .returned v ∧ w'.ownsRow w.heap.size 3 1 v s.fs.length ((s.ids.mergeSort fun x y => decide (x ≤ y)).map (Value.int .i64)) ∧ Below w.heap.size w w' := by
  obtain ⟨mb, l, hl, R⟩ := h
  have c0 := R.blk.cell 0
  simp only [List.getElem?_cons_zero] at c0
  have hlt := R.blk.lt
  have hids : (l.map FlR.ent).map (·.1) = s.ids := by unfold SfS.ids; rw [← hl]; simp [FlR.ent, FlR.pl, Function.comp_def]
  have hlen : (l.map FlR.ent).length = s.fs.length := by rw [← hl]; simp
  have cS := sortedC R.map (fun e he => by
    obtain ⟨x, hx, rfl⟩ := List.mem_map.1 he
    exact hi x.pl (by rw [← hl]; exact List.mem_map.2 ⟨x, hx, rfl⟩)) (by rw [hlen]; exact hn)
  rw [hids, hlen] at cS
  clear R hids hlen hl
  go_enter Try.func31, Try.ntmps31
  go_wp2_with fail
  refine (keysC _ _).mono ?_
  rintro e w1 ⟨rfl, rfl⟩
  go_wp2_with fail
  refine cS.mono ?_
  rintro e w2 ⟨v, rfl, hrow, hb⟩
  obtain ⟨ao, cp, rfl⟩ := owns_slice hrow
  go_wp2
  go_ret
  exact ⟨_, rfl, hrow, hb⟩
end Go.Proofs.Ytfgfjnlkgadkhaa
end

-- A config in a variable of the call's own.
section
namespace Go.Proofs.Ytfgfjnlkgadkhaa
set_option linter.unusedVariables false
set_option linter.unusedSimpArgs false
set_option maxRecDepth 20000
open Go.RowKit Go.Proofs.YtfgfjnlkgadkhaaMem Go.Proofs.YtfgfjnlkgadkhaaFlat Go.Proofs.YtfgfjnlkgadkhaaMapK

/-- Behind the config that was made right: the box holds it. -/
structure CfgIn (w W : World) (c : Cfg) : Prop where
  bel : Below w.heap.size w W
  box : Blk W w.heap.size c.cells 24
theorem CfgIn.below {w W W' : World} {c : Cfg} (h : CfgIn w W c) (hb : Below W.heap.size W W') : CfgIn w W' c := ⟨h.bel.trans (hb.mono h.bel.size), h.box.below hb⟩
theorem CfgIn.set {w W : World} {c : Cfg} (h : CfgIn w W c) (c' : Cfg) : CfgIn w (((((W.setCell ⟨w.heap.size, 0, none⟩ (.int .i64 c'.shards)).setCell ⟨w.heap.size, 1, none⟩ (.int .i64 c'.slots)).setCell ⟨w.heap.size, 2, none⟩ (.int .i64 c'.workers)).setCell ⟨w.heap.size, 3, none⟩ (.int .i64 c'.width)).setCell ⟨w.heap.size, 4, none⟩ (.int .u64 c'.unit)) c' := by
  have hz : w.heap.size ≤ w.heap.size := Nat.le_refl _
  exact ⟨((((h.bel.setCell (p := ⟨w.heap.size, 0, none⟩) hz _).setCell (p := ⟨w.heap.size, 1, none⟩) hz _).setCell (p := ⟨w.heap.size, 2, none⟩) hz _).setCell (p := ⟨w.heap.size, 3, none⟩) hz _).setCell (p := ⟨w.heap.size, 4, none⟩) hz _,
    ((((h.box.set 0 (.int .i64 c'.shards)).set 1 (.int .i64 c'.slots)).set 2 (.int .i64 c'.workers)).set 3 (.int .i64 c'.width)).set 4 (.int .u64 c'.unit)⟩
theorem CfgIn.cells {w W : World} {c : Cfg} (h : CfgIn w W c) : W.cell? ⟨w.heap.size, 0, none⟩ = some (.int .i64 c.shards) ∧ W.cell? ⟨w.heap.size, 1, none⟩ = some (.int .i64 c.slots) ∧ W.cell? ⟨w.heap.size, 2, none⟩ = some (.int .i64 c.workers) ∧ W.cell? ⟨w.heap.size, 3, none⟩ = some (.int .i64 c.width) ∧ W.cell? ⟨w.heap.size, 4, none⟩ = some (.int .u64 c.unit) ∧ w.heap.size < W.heap.size :=
  ⟨h.box.cell 0, h.box.cell 1, h.box.cell 2, h.box.cell 3, h.box.cell 4, h.box.lt⟩
theorem CfgIn.frozen {w W : World} {c : Cfg} (h : CfgIn w W c) : W.frozen? ⟨w.heap.size, 0, none⟩ = false ∧ W.frozen? ⟨w.heap.size, 1, none⟩ = false ∧ W.frozen? ⟨w.heap.size, 2, none⟩ = false ∧ W.frozen? ⟨w.heap.size, 3, none⟩ = false ∧ W.frozen? ⟨w.heap.size, 4, none⟩ = false :=
  ⟨h.box.frozen 0, h.box.frozen 1, h.box.frozen 2, h.box.frozen 3, h.box.frozen 4⟩
theorem CfgIn.start (w : World) (c : Cfg) : CfgIn w (w.alloc (.cells #[.int .i64 c.shards, .int .i64 c.slots, .int .i64 c.workers, .int .i64 c.width, .int .u64 c.unit] 24)) c := ⟨below1 _ _, Blk.new w c.cells 24⟩
theorem cfg_of {cs : List Value} (h : FlatOk [.int .i64, .int .i64, .int .i64, .int .i64, .int .u64] cs) : ∃ c : Cfg, cs = c.cells ∧ W64 c.unit := by
  obtain ⟨_, _, rfl, ⟨a, rfl, ha⟩, _, _, rfl, ⟨b, rfl, hb⟩, _, _, rfl, ⟨c, rfl, hc⟩, _, _, rfl, ⟨d, rfl, hd⟩, _, _, rfl, ⟨e, rfl, he⟩, rfl⟩ := h
  refine ⟨⟨a, b, c, d, e⟩, rfl, ?_⟩
  simp only [Lit.wf, Bool.and_eq_true, decide_eq_true_eq, IntKind.min, IntKind.max] at he
  simp [IntKind.signed, IntKind.bits] at he
  show W64 e
  unfold W64
  omega
end Go.Proofs.Ytfgfjnlkgadkhaa
end

-- The reference: which configs are right.
section
namespace Go.Proofs.Ytfgfjnlkgadkhaa
set_option linter.unusedVariables false
set_option linter.unusedSimpArgs false
set_option maxRecDepth 20000
open Go.RowKit Go.Proofs.YtfgfjnlkgadkhaaMem Go.Proofs.YtfgfjnlkgadkhaaFlat Go.Proofs.YtfgfjnlkgadkhaaMapK

set_option maxHeartbeats 4000000 in
theorem refRight_any (c : Cfg) (w : World) : Calls Try.prog 13 #[.agg #[.int .i64 c.shards, .int .i64 c.slots, .int .i64 c.workers, .int .i64 c.width, .int .u64 c.unit]] w fun e w' => e = .returned (.bool c.right) ∧ Below w.heap.size w w' := by
  have I := CfgIn.start w c
  have hr : c.right = ((decide (1 ≤ c.shards) && decide (c.shards ≤ 4)) && (decide (1 ≤ c.slots) && decide (c.slots ≤ 4)) && (decide (1 ≤ c.workers) && decide (c.workers ≤ 6)) && (decide (0 ≤ c.width) && decide (c.width ≤ 40)) && decide (1 ≤ c.unit) && decide (c.unit ≤ 4611686018427387904)) := rfl
  have HR := Lib.hid hr
  clear hr
  generalize c.right = R at *
  go_enter Try.func13, Try.ntmps13
  go_upto_region 1 with fail
  generalize (w.alloc (.cells #[.int .i64 c.shards, .int .i64 c.slots, .int .i64 c.workers, .int .i64 c.width, .int .u64 c.unit] 24)) = W at *
  obtain ⟨x0, x1, x2, x3, x4, xl⟩ := I.cells
  have HI := Lib.hid I
  clear I
  generalize h0 : decide (1 ≤ c.shards) = y0 at *
  generalize h1 : decide (c.shards ≤ 4) = y1 at *
  generalize h2 : decide (1 ≤ c.slots) = y2 at *
  generalize h3 : decide (c.slots ≤ 4) = y3 at *
  generalize h4 : decide (1 ≤ c.workers) = y4 at *
  generalize h5 : decide (c.workers ≤ 6) = y5 at *
  generalize h6 : decide (0 ≤ c.width) = y6 at *
  generalize h7 : decide (c.width ≤ 40) = y7 at *
  generalize h8 : decide (1 ≤ c.unit) = y8 at *
  generalize h9 : decide (c.unit ≤ 4611686018427387904) = y9 at *
  cases y0 with
  | false =>
    go_wp2
    go_ret
    exact ⟨by rw [HR.out]; rfl, HI.out.bel⟩
  | true =>
  cases y1 with
  | false =>
    go_wp2
    go_ret
    exact ⟨by rw [HR.out]; rfl, HI.out.bel⟩
  | true =>
  cases y2 with
  | false =>
    go_wp2
    go_ret
    exact ⟨by rw [HR.out]; rfl, HI.out.bel⟩
  | true =>
  cases y3 with
  | false =>
    go_wp2
    go_ret
    exact ⟨by rw [HR.out]; rfl, HI.out.bel⟩
  | true =>
  cases y4 with
  | false =>
    go_wp2
    go_ret
    exact ⟨by rw [HR.out]; rfl, HI.out.bel⟩
  | true =>
  cases y5 with
  | false =>
    go_wp2
    go_ret
    exact ⟨by rw [HR.out]; rfl, HI.out.bel⟩
  | true =>
  cases y6 with
  | false =>
    go_wp2
    go_ret
    exact ⟨by rw [HR.out]; rfl, HI.out.bel⟩
  | true =>
  cases y7 with
  | false =>
    go_wp2
    go_ret
    exact ⟨by rw [HR.out]; rfl, HI.out.bel⟩
  | true =>
  cases y8 with
  | false =>
    go_wp2
    go_ret
    exact ⟨by rw [HR.out]; rfl, HI.out.bel⟩
  | true =>
  cases y9 with
  | false =>
    go_wp2
    go_ret
    exact ⟨by rw [HR.out]; rfl, HI.out.bel⟩
  | true =>
    go_wp2
    go_ret
    exact ⟨by rw [HR.out]; rfl, HI.out.bel⟩
end Go.Proofs.Ytfgfjnlkgadkhaa
end

-- The model: its starts, its flows.
section
namespace Go.Proofs.Ytfgfjnlkgadkhaa
set_option linter.unusedVariables false
set_option linter.unusedSimpArgs false
set_option maxRecDepth 20000
open Go.RowKit Go.Proofs.YtfgfjnlkgadkhaaMem Go.Proofs.YtfgfjnlkgadkhaaMapK

set_option maxHeartbeats 1000000 in
theorem mdStarts_any (b : Nat) (c : Cfg) (s : SfS) (served : Int) (F : Nat → Prop) (w : World) (h : MdAt w b c s served F) (hn : s.fs.length ≤ 1000000) :
    Calls Try.prog 17 #[.pointer (some ⟨b, 0, none⟩)] w fun e w' => ∃ v, e = .returned v ∧ w'.ownsRow w.heap.size 98 2 v s.starts.length (entC s.starts) ∧ Below w.heap.size w w' := by
  obtain ⟨sb, lm, Fs, h⟩ := h
  obtain ⟨q0, q1, q4, q5, q6, q7, hlt⟩ := h.cells
  have hV := startsS_any sb s Fs w h.sfq hn
  clear h
  go_enter Try.func17, Try.ntmps17
  go_wp2_with fail
  refine hV.mono ?_
  rintro e w' ⟨v, rfl, h1, h2⟩
  obtain ⟨ao, cp, rfl⟩ := owns_slice h1
  go_wp2
  go_ret
  exact ⟨_, rfl, h1, h2⟩
set_option maxHeartbeats 1000000 in
theorem mdFlows_any (b : Nat) (c : Cfg) (s : SfS) (served : Int) (F : Nat → Prop) (w : World) (h : MdAt w b c s served F) (hi : ∀ e ∈ s.fs, I64 e.1) (hn : s.fs.length ≤ 1000000) :
    Calls Try.prog 16 #[.pointer (some ⟨b, 0, none⟩)] w fun e w' => ∃ v, e = .returned v ∧ w'.ownsRow w.heap.size 3 1 v s.fs.length ((s.ids.mergeSort fun x y => decide (x ≤ y)).map (Value.int .i64)) ∧ Below w.heap.size w w' := by
  obtain ⟨sb, lm, Fs, h⟩ := h
  obtain ⟨q0, q1, q4, q5, q6, q7, hlt⟩ := h.cells
  have hV := flowsS_any sb s Fs w h.sfq hi hn
  clear h
  go_enter Try.func16, Try.ntmps16
  go_wp2_with fail
  refine hV.mono ?_
  rintro e w' ⟨v, rfl, h1, h2⟩
  obtain ⟨ao, cp, rfl⟩ := owns_slice h1
  go_wp2
  go_ret
  exact ⟨_, rfl, h1, h2⟩
end Go.Proofs.Ytfgfjnlkgadkhaa
end

-- What a program that does nothing does not answer: the model.
section
namespace Go.Proofs.Ytfgfjnlkgadkhaa
set_option linter.unusedVariables false
set_option linter.unusedSimpArgs false
set_option maxRecDepth 20000
open Go.RowKit Go.Proofs.YtfgfjnlkgadkhaaMem Go.Proofs.YtfgfjnlkgadkhaaMapK

def awC : Cfg := ⟨2, 1, 1, 0, 100⟩
def awD : Nat → CallS
  | 0 => ⟨1, 1, 1, 2⟩
  | 1 => ⟨3, 1, 5, 9⟩
  | 2 => ⟨4, 0, 0, 0⟩
  | 3 => ⟨4, 0, 0, 0⟩
  | _ => ⟨7, 0, 0, 0⟩
def awM : Nat → MdS
  | 0 => .new
  | k + 1 => ((awM k).doo awC (awD k)).1
def awR (k : Nat) : RetS := ((awM k).doo awC (awD k)).2
theorem aw11_d (k : Nat) : (awD k).Ok := by
  unfold awD
  split <;> exact ⟨by decide, by decide, by decide, by decide⟩
theorem awC_ok : awC.Ok := ⟨by show W64 100; unfold W64; omega, by decide⟩
theorem awM_good : ∀ k, (awM k).Good k
  | 0 => .new
  | k + 1 => (awM_good k).doo awC_ok.unit (aw11_d k)
theorem aw11_r : awC.right = true ∧ (awR 0).e = 0 ∧ (awR 1).e = 0 ∧ (awR 2).ps = [⟨1, 5, 9⟩] ∧ (awR 3).e = 10 ∧ (awR 4).e = 2 ∧ (awM 5).s.v = 500 ∧ (awM 5).served = 1 := by decide
theorem doAw {w wx : World} {b : Nat} (k : Nat) (hk : k ≤ 5) (h : OwnM w wx b awC (awM k)) :
    Calls Try.prog 9 #[.pointer (some ⟨b, 0, none⟩), .agg #[.int .i64 (awD k).op, .int .i64 (awD k).flow, .int .i64 (awD k).a, .int .i64 (awD k).b]] wx fun e w' => GotR (awR k) e w' ∧ OwnM w w' b awC (awM (k + 1)) :=
  doO h ((awM_good k).bat (by omega)) awC_ok (awD k) (aw11_d k)
theorem retFld (v0 v1 v2 v3 : Value) (w : World) : (Instr.field 37 (.agg #[v0, v1, v2, v3]) 0).run Try.prog w = .ok v0 w := rfl
set_option maxHeartbeats 2000000 in
theorem awake11_any (w : World) : Calls Try.prog 7 #[] w fun e w' => e = .returned (.bool true) ∧ Below w.heap.size w w' := by
  obtain ⟨a0, a1, a2, a3, a4, a5, a6, a7⟩ := aw11_r
  have N0 := new11_any awC w
  have FL := retFld
  unfold NewPost at N0
  rw [a0] at N0
  go_enter Try.func7, Try.ntmps7
  go_wp2_with fail
  refine N0.mono ?_
  rintro e w1 ⟨b, rfl, md, hb1⟩
  have O0 : OwnM w w1 b awC (awM 0) := ⟨_, md, fun k hk => hk.1, hb1⟩
  clear md hb1 N0
  go_wp2_with fail
  refine (doAw 0 (by omega) O0).mono ?_
  rintro e w2 ⟨⟨ao, cap, rfl, rd⟩, O1⟩
  rw [a1]
  clear rd O0
  go_wp2_with fail
  refine (doAw 1 (by omega) O1).mono ?_
  rintro e w3 ⟨⟨ao, cap, rfl, rd⟩, O2⟩
  rw [a2]
  clear rd O1
  go_wp2_with fail
  refine (doAw 2 (by omega) O2).mono ?_
  rintro e w4 ⟨⟨ao, cap, rfl, rd⟩, O3⟩
  rw [a3] at rd ⊢
  clear O2
  have hlen : ([⟨1, 5, 9⟩] : List Pk).length = 1 := rfl
  rw [hlen] at rd ⊢
  have hbx := below1 w4 (.cells #[.int .i64 (awR 2).e, .slice ao 1 cap, .int .i64 (awR 2).n, .int .u64 (awR 2).v] 37)
  have Bx := Blk.new w4 [.int .i64 (awR 2).e, .slice ao 1 cap, .int .i64 (awR 2).n, .int .u64 (awR 2).v] 37
  have rd2 := rd.below hbx
  have O4 := O3.below hbx
  obtain ⟨g, off, rfl, hgl, c0⟩ := rd2.at_ 0 _ rfl
  obtain ⟨g', off', e1, -, c1⟩ := rd2.at_ 1 _ rfl
  cases e1
  obtain ⟨g', off', e1, -, c2⟩ := rd2.at_ 2 _ rfl
  cases e1
  rw [Nat.add_zero] at c0
  have x1 := Bx.cell 1
  have xl := Bx.lt
  have hcap := rd.le
  simp only [List.getElem?_cons_succ, List.getElem?_cons_zero] at x1
  clear rd rd2 O3 Bx hbx hlen a0 a1 a2
  go_upto_region 5 with fail
  generalize w4.alloc (.cells #[.int .i64 (awR 2).e, .slice (some ⟨g, off, none⟩) 1 cap, .int .i64 (awR 2).n, .int .u64 (awR 2).v] 37) = w5 at *
  go_wp2_with fail
  refine (doAw 3 (by omega) O4).mono ?_
  rintro e w6 ⟨⟨ao, cap, rfl, rd⟩, O5⟩
  rw [a4]
  clear rd O4
  go_wp2_with fail
  refine (doAw 4 (by omega) O5).mono ?_
  rintro e w7 ⟨⟨ao, cap, rfl, rd⟩, O6⟩
  rw [a5]
  clear rd O5
  go_wp2_with fail
  refine (vM O6).mono ?_
  rw [a6]
  rintro e w8 ⟨rfl, rfl⟩
  go_wp2_with fail
  refine (servedM O6).mono ?_
  rw [a7]
  rintro e w8 ⟨rfl, rfl⟩
  go_wp2
  go_ret
  exact ⟨rfl, O6.bel⟩
end Go.Proofs.Ytfgfjnlkgadkhaa
end

-- ModelRight.
section
namespace Go.Proofs.Ytfgfjnlkgadkhaa
set_option linter.unusedVariables false
set_option linter.unusedSimpArgs false
set_option maxRecDepth 20000
open Go.RowKit Go.Proofs.YtfgfjnlkgadkhaaMem Go.Proofs.YtfgfjnlkgadkhaaFlat Go.Proofs.YtfgfjnlkgadkhaaMapK

theorem flows0 {w wx : World} {b : Nat} {c : Cfg} (h : OwnM w wx b c .new) : Calls Try.prog 16 #[.pointer (some ⟨b, 0, none⟩)] wx fun e w' => ∃ ao cap, e = .returned (.slice ao 0 cap) ∧ OwnM w w' b c .new := by
  obtain ⟨F, h1, h2, h3⟩ := h
  refine (mdFlows_any b c _ _ F wx h1 (fun e he => by cases he) (by decide)).mono ?_
  rintro e w' ⟨v, rfl, hr, hb⟩
  obtain ⟨ao, cap, rfl⟩ := owns_slice hr
  exact ⟨ao, cap, rfl, OwnM.below ⟨F, h1, h2, h3⟩ hb⟩
theorem starts0 {w wx : World} {b : Nat} {c : Cfg} (h : OwnM w wx b c .new) : Calls Try.prog 17 #[.pointer (some ⟨b, 0, none⟩)] wx fun e w' => ∃ ao cap, e = .returned (.slice ao 0 cap) ∧ OwnM w w' b c .new := by
  obtain ⟨F, h1, h2, h3⟩ := h
  refine (mdStarts_any b c _ _ F wx h1 (by decide)).mono ?_
  rintro e w' ⟨v, rfl, hr, hb⟩
  have h0 : MdS.new.s.starts.length = 0 := by unfold SfS.starts; rw [sortE_length]; rfl
  rw [h0] at hr
  obtain ⟨ao, cap, rfl⟩ := owns_slice hr
  exact ⟨ao, cap, rfl, OwnM.below ⟨F, h1, h2, h3⟩ hb⟩
theorem wrI {x : Int} (h : -9223372036854775808 ≤ x ∧ x ≤ 9223372036854775807) : Value.int .i64 (IntKind.i64.wrap x) = .int .i64 x := by
  rw [IntWalk.i64_left, IntWalk.wrap64_in _ (by omega)]
set_option maxHeartbeats 4000000 in
theorem right_in (c : Cfg) (hu : W64 c.unit) (near : Bool) (w : World) :
    Calls Try.prog 4 #[.agg #[.int .i64 c.shards, .int .i64 c.slots, .int .i64 c.workers, .int .i64 c.width, .int .u64 c.unit], .bool near] w fun e w' => e = .returned (.bool true) ∧ Below w.heap.size w w' := by
  have I := CfgIn.start w c
  go_enter Try.func4, Try.ntmps4
  go_upto_region 1 with fail
  generalize (w.alloc (.cells #[.int .i64 c.shards, .int .i64 c.slots, .int .i64 c.workers, .int .i64 c.width, .int .u64 c.unit] 24)) = W at *
  obtain ⟨x0, x1, x2, x3, x4, xl⟩ := I.cells
  obtain ⟨f0, f1, f2, f3, f4⟩ := I.frozen
  have HI := Lib.hid I
  clear I
  go_upto_if 7 with fail
  go_cut [] from 8 to 37 (fun wx => ∃ c', CfgIn w wx c' ∧ W64 c'.unit)
  case first =>
    cases near with
    | false =>
      go_wp2
      go_meet
      exact ⟨c, HI.out, hu⟩
    | true =>
      obtain ⟨u1, u2⟩ := hu
      have hu : W64 c.unit := ⟨u1, u2⟩
      have C0 := mod_any c.shards 7 (by omega) (by omega)
      have C1 := mod_any c.slots 7 (by omega) (by omega)
      have C2 := mod_any c.workers 9 (by omega) (by omega)
      have C3 := mod_any c.width 44 (by omega) (by omega)
      have h3 := modZ_bd c.width (n := 44) (by omega)
      have e1 : Value.int .i64 (IntKind.i64.wrap (modZ c.width 44 - 1)) = .int .i64 (modZ c.width 44 - 1) := wrI (by omega)
      have hU : Hid (W64 (c.unit % 4611686018427387906)) := Lib.hid (by unfold W64 at *; omega)
      clear h3 hu u2
      go_upto_region 2 with fail
      go_still_tail 17, (by kernel_rfl)
      still_call ((C0 _).mono fun e w' h => ⟨h.1, h.2.symm⟩)
      repeat still_step
      still_call ((C1 _).mono fun e w' h => ⟨h.1, h.2.symm⟩)
      repeat still_step
      still_call ((C2 _).mono fun e w' h => ⟨h.1, h.2.symm⟩)
      repeat still_step
      still_call ((C3 _).mono fun e w' h => ⟨h.1, h.2.symm⟩)
      repeat still_step
      refine wpStill_nil ?_
      change wpList _ _ _ _ _ W.drew
      go_upto_region 3 with fail
      replace HI := Lib.hid ((HI.out.set ⟨modZ c.shards 7, modZ c.slots 7, modZ c.workers 9, modZ c.width 44 - 1, c.unit % 4611686018427387906⟩).below (Below.refl _ _).drew)
      simp only at HI
      generalize (((((W.setCell ⟨w.heap.size, 0, none⟩ (.int .i64 (modZ c.shards 7))).setCell ⟨w.heap.size, 1, none⟩ (.int .i64 (modZ c.slots 7))).setCell ⟨w.heap.size, 2, none⟩ (.int .i64 (modZ c.workers 9))).setCell ⟨w.heap.size, 3, none⟩ (.int .i64 (modZ c.width 44 - 1))).setCell ⟨w.heap.size, 4, none⟩ (.int .u64 (c.unit % 4611686018427387906))).drew = W2 at *
      generalize c.unit % 4611686018427387906 = u at *
      clear x0 x1 x2 x3 x4 xl f0 f1 f2 f3 f4 C0 C1 C2 C3 e1
      obtain ⟨x0, x1, x2, x3, x4, xl⟩ := HI.out.cells
      obtain ⟨f0, f1, f2, f3, f4⟩ := HI.out.frozen
      simp only at x4
      have hu0 : 0 ≤ u := hU.out.1
      have hnn : ∀ n : Int, 0 < n → 0 ≤ u % n ∧ u % n < n := fun n hn => ⟨Int.emod_nonneg _ (by omega), Int.emod_lt_of_pos _ hn⟩
      by_cases hb : 9000 < u ∧ u % 2 = 0
      · obtain ⟨b1, b2⟩ := hb
        have b3 : u > 9000 := b1
        have b4 : (u % 2 == 0) = true := by simpa using b2
        replace HI := Lib.hid (HI.out)
        have hq : CfgIn w (W2.setCell ⟨w.heap.size, 4, none⟩ (.int .u64 (u % 3))) ⟨modZ c.shards 7, modZ c.slots 7, modZ c.workers 9, modZ c.width 44 - 1, u % 3⟩ := ⟨HI.out.bel.setCell (p := ⟨w.heap.size, 4, none⟩) (Nat.le_refl _) _, HI.out.box.set 4 _⟩
        have HQ := Lib.hid hq
        have h3 := hnn 3 (by omega)
        have H3 : Hid (W64 (u % 3)) := Lib.hid (by unfold W64; omega)
        clear hq h3 hnn b2
        go_wp2
        go_meet
        exact ⟨_, HQ.out, H3.out⟩
      · by_cases b1 : 9000 < u
        · have b3 : u > 9000 := b1
          have b4 : (u % 2 == 0) = false := by
            have : ¬ u % 2 = 0 := fun h => hb ⟨b1, h⟩
            simpa using this
          clear hb hnn
          go_wp2
          go_meet
          exact ⟨_, HI.out, hU.out⟩
        · have b3 : ¬ u > 9000 := b1
          clear hb hnn
          go_wp2
          go_meet
          exact ⟨_, HI.out, hU.out⟩
  case rest =>
    obtain ⟨c', I, hu'⟩ := hcut
    obtain ⟨x0, x1, x2, x3, x4, xl⟩ := I.cells
    replace HI := Lib.hid I
    clear I f0 f1 f2 f3 f4
    have N0 := new11_any c' wc
    have hWz : w.heap.size ≤ wc.heap.size := Nat.le_of_lt xl
    go_wp2_with fail
    refine N0.mono ?_
    rintro e W3 hN
    unfold NewPost at hN
    have HU' := Lib.hid hu'
    clear x0 x1 x2 x3 x4 xl N0 hu'
    cases hR : c'.right with
    | false =>
      rw [hR] at hN
      obtain ⟨rfl, hb3⟩ := hN
      replace HI : Hid (CfgIn w W3 c') := Lib.hid (HI.out.below hb3)
      clear hb3
      have HCL : Hid (∀ w', Below W3.heap.size W3 w' → w'.cell? ⟨w.heap.size, 0, none⟩ = some (.int .i64 c'.shards) ∧ w'.cell? ⟨w.heap.size, 1, none⟩ = some (.int .i64 c'.slots) ∧ w'.cell? ⟨w.heap.size, 2, none⟩ = some (.int .i64 c'.workers) ∧ w'.cell? ⟨w.heap.size, 3, none⟩ = some (.int .i64 c'.width) ∧ w'.cell? ⟨w.heap.size, 4, none⟩ = some (.int .u64 c'.unit)) := Lib.hid fun w' hb => by
        obtain ⟨x0, x1, x2, x3, x4, xl⟩ := (HI.out.below hb).cells
        exact ⟨x0, x1, x2, x3, x4⟩
      have HRR := Lib.hid hR
      have Td : Below W3.heap.size W3 W3.drew := (Below.refl _ _).drew
      clear hR
      go_upto_region 6 with fail
      go_region_held3 (fun w' => w'.cell? ⟨w.heap.size, 0, none⟩ = some (.int .i64 c'.shards) ∧ w'.cell? ⟨w.heap.size, 1, none⟩ = some (.int .i64 c'.slots) ∧ w'.cell? ⟨w.heap.size, 2, none⟩ = some (.int .i64 c'.workers) ∧ w'.cell? ⟨w.heap.size, 3, none⟩ = some (.int .i64 c'.width) ∧ w'.cell? ⟨w.heap.size, 4, none⟩ = some (.int .u64 c'.unit)) (exact HCL.out _ Td)
        (first
          | (go_at_call 7; refine (awake11_any _).mono ?_; rintro e w4 ⟨rfl, hb4⟩; replace Td := Td.trans (hb4.mono Td.size))
          | (go_at_call 12; refine (right_any c' _).mono ?_; rw [HRR.out]; rintro e w5 ⟨rfl, hb5⟩; replace Td := Td.trans (hb5.mono Td.size))
          | (go_at_call 13; refine (refRight_any c' _).mono ?_; rw [HRR.out]; rintro e w6 ⟨rfl, hb6⟩; replace Td := Td.trans (hb6.mono Td.size)))
      obtain ⟨x0, x1, x2, x3, x4⟩ := HCL.out _ Td
      have xl := Nat.lt_of_lt_of_le (HI.out.cells.2.2.2.2.2) Td.size
      go_wp2_with fail
      refine (refRight_any c' _).mono ?_
      rw [HRR.out]
      rintro e W4 ⟨rfl, hb4⟩
      have HB := Lib.hid ((HI.out.bel.trans (Td.mono HI.out.bel.size)).trans (hb4.mono (Nat.le_trans HI.out.bel.size Td.size)))
      clear hb4 Td
      go_wp2
      go_ret
      exact ⟨rfl, HB.out⟩
    | true =>
      rw [hR] at hN
      obtain ⟨b, rfl, md, hb3⟩ := hN
      replace HI : Hid (CfgIn w W3 c') := Lib.hid (HI.out.below hb3)
      have O : OwnM w W3 b c' .new := ⟨_, md, fun k hk => by omega, HI.out.bel⟩
      have HO := Lib.hid O
      clear hb3 md O
      have HCL : Hid (∀ w', Below W3.heap.size W3 w' → w'.cell? ⟨w.heap.size, 0, none⟩ = some (.int .i64 c'.shards) ∧ w'.cell? ⟨w.heap.size, 1, none⟩ = some (.int .i64 c'.slots) ∧ w'.cell? ⟨w.heap.size, 2, none⟩ = some (.int .i64 c'.workers) ∧ w'.cell? ⟨w.heap.size, 3, none⟩ = some (.int .i64 c'.width) ∧ w'.cell? ⟨w.heap.size, 4, none⟩ = some (.int .u64 c'.unit)) := Lib.hid fun w' hb => by
        obtain ⟨x0, x1, x2, x3, x4, xl⟩ := (HI.out.below hb).cells
        exact ⟨x0, x1, x2, x3, x4⟩
      have HRR := Lib.hid hR
      have Td : Below W3.heap.size W3 W3.drew := (Below.refl _ _).drew
      clear hR
      go_upto_region 6 with fail
      go_region_held3 (fun w' => w'.cell? ⟨w.heap.size, 0, none⟩ = some (.int .i64 c'.shards) ∧ w'.cell? ⟨w.heap.size, 1, none⟩ = some (.int .i64 c'.slots) ∧ w'.cell? ⟨w.heap.size, 2, none⟩ = some (.int .i64 c'.workers) ∧ w'.cell? ⟨w.heap.size, 3, none⟩ = some (.int .i64 c'.width) ∧ w'.cell? ⟨w.heap.size, 4, none⟩ = some (.int .u64 c'.unit)) (exact HCL.out _ Td)
        (first
          | (go_at_call 7; refine (awake11_any _).mono ?_; rintro e w4 ⟨rfl, hb4⟩; replace Td := Td.trans (hb4.mono Td.size))
          | (go_at_call 12; refine (right_any c' _).mono ?_; rw [HRR.out]; rintro e w5 ⟨rfl, hb5⟩; replace Td := Td.trans (hb5.mono Td.size))
          | (go_at_call 13; refine (refRight_any c' _).mono ?_; rw [HRR.out]; rintro e w6 ⟨rfl, hb6⟩; replace Td := Td.trans (hb6.mono Td.size)))
      obtain ⟨x0, x1, x2, x3, x4⟩ := HCL.out _ Td
      have xl := Nat.lt_of_lt_of_le (HI.out.cells.2.2.2.2.2) Td.size
      go_wp2_with fail
      refine (refRight_any c' _).mono ?_
      rw [HRR.out]
      rintro e W4 ⟨rfl, hb4⟩
      have HO4 := Lib.hid ((HO.out.below Td).below hb4)
      clear hb4 Td
      go_wp2_with fail
      refine (vM HO4.out).mono ?_
      rw [show MdS.new.s.v = 0 from rfl]
      rintro e w' ⟨rfl, rfl⟩
      go_wp2_with fail
      refine (servedM HO4.out).mono ?_
      rw [show MdS.new.served = 0 from rfl]
      rintro e w' ⟨rfl, rfl⟩
      go_wp2_with fail
      refine (flows0 HO4.out).mono ?_
      rintro e W5 ⟨ao5, k5, rfl, O5⟩
      have HO5 := Lib.hid O5
      clear O5
      go_wp2_with fail
      refine (starts0 HO5.out).mono ?_
      rintro e W6 ⟨ao6, k6, rfl, O6⟩
      have HB := Lib.hid O6.bel
      clear O6
      go_wp2
      go_ret
      exact ⟨rfl, HB.out⟩
theorem ModelRight_any (w : World) (c : List Value) (w0 : FlatOk [.int .i64, .int .i64, .int .i64, .int .i64, .int .u64] c) (near : Bool) :
    Calls Try.prog 4 #[.agg c.toArray, .bool near] w fun e w' => e = .returned (.bool true) ∧ Below w.heap.size w w' := by
  obtain ⟨d, rfl, hu⟩ := cfg_of w0
  exact right_in d hu near w
end Go.Proofs.Ytfgfjnlkgadkhaa
end
