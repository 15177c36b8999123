/- Several texts in one: Sim Srt Sfq12 Fls. -/
import Derived.Test.YtfgfjnlkgadkhaaGreatGe
import Derived.Test.YtfgfjnlkgadkhaaGreatGd
import Derived.Test.YtfgfjnlkgadkhaaGreatShlf
import Derived.Shelf.SlSortCmp.NoneTotal
import Derived.Shelf.SlIterI.Nil
import Derived.Shelf.SortM.Plain
import Derived.Shelf.SortM.SortNone
-- The program's flows and the reference's, as plain data: they tell the same.
section
namespace Go.Proofs.YtfgfjnlkgadkhaaGreat
set_option linter.unusedVariables false
set_option linter.unusedSimpArgs false
open Go.RowKit Go.Proofs.YtfgfjnlkgadkhaaGreatMem Go.Proofs.YtfgfjnlkgadkhaaGreatMapK

/-- The same flows, in whatever order the one has them; the other has them by rising numbers. -/
structure Sim (s t : SfS) : Prop where
  v : s.v = t.v
  most : s.most = t.most
  perm : s.fs.Perm t.fs
  rise : t.fs.Pairwise fun a c => a.1 < c.1
theorem Sim.tn {s t : SfS} (h : Sim s t) : (t.fs.map (·.1)).Nodup := by
  rw [List.Nodup, List.pairwise_map]
  exact h.rise.imp fun h e => by omega
theorem Sim.sn {s t : SfS} (h : Sim s t) : (s.fs.map (·.1)).Nodup := (h.perm.map (·.1)).nodup_iff.2 h.tn
theorem Sim.len {s t : SfS} (h : Sim s t) : s.fs.length = t.fs.length := h.perm.length_eq
theorem getF_iff {fs : List (Int × FlS)} (hn : (fs.map (·.1)).Nodup) {id : Int} {x : FlS} : getF fs id = some x ↔ (id, x) ∈ fs := by
  constructor
  · exact getF_mem
  · intro h
    induction fs with
    | nil => cases h
    | cons e l ih =>
      simp only [List.map_cons, List.nodup_cons] at hn
      unfold getF
      rw [List.find?_cons]
      rcases List.mem_cons.1 h with h | h
      · subst h; simp
      · have hne : e.1 ≠ id := fun e0 => hn.1 (List.mem_map.2 ⟨(id, x), h, e0.symm⟩)
        have hd : decide (e.1 = id) = false := decide_eq_false hne
        rw [hd]
        exact ih hn.2 h
theorem Sim.get {s t : SfS} (h : Sim s t) (id : Int) : getF s.fs id = getF t.fs id := by
  cases ht : getF t.fs id with
  | some x => exact (getF_iff h.sn).2 (h.perm.mem_iff.2 ((getF_iff h.tn).1 ht))
  | none =>
    cases hs : getF s.fs id with
    | none => rfl
    | some x => rw [(getF_iff h.tn).2 (h.perm.mem_iff.1 ((getF_iff h.sn).1 hs))] at ht; cases ht
theorem Sim.new : Sim SfS.new SfS.new := ⟨rfl, rfl, List.Perm.refl _, List.Pairwise.nil⟩
theorem getF_no {fs : List (Int × FlS)} {id : Int} (h : getF fs id = none) : ∀ e ∈ fs, e.1 ≠ id := by
  intro e he e1
  unfold getF at h
  simp only [Option.map_eq_none_iff, List.find?_eq_none, decide_eq_true_eq] at h
  exact h e he e1
theorem insF_rise {fs : List (Int × FlS)} {id : Int} {x : FlS} (hr : fs.Pairwise fun a c => a.1 < c.1) (hg : getF fs id = none) : (insF fs (id, x)).Pairwise fun a c => a.1 < c.1 := by
  have hno := getF_no hg
  show (fs.take (insK fs id) ++ (id, x) :: fs.drop (insK fs id)).Pairwise _
  refine pairwise_ins _ hr (fun e he => ?_) (fun e he => ?_)
  · obtain ⟨j, hj⟩ := List.getElem?_of_mem he
    have hjK : j < insK fs id := by
      rcases Nat.lt_or_ge j (insK fs id) with h | h
      · exact h
      · rw [List.getElem?_eq_none (by rw [List.length_take]; exact Nat.le_trans (Nat.min_le_left _ _) h)] at hj; cases hj
    rw [List.getElem?_take_of_lt hjK] at hj
    exact insK_lt hjK hj
  · obtain ⟨j, hj⟩ := List.getElem?_of_mem he
    have hne := hno e (List.mem_of_mem_drop he)
    rw [List.getElem?_drop] at hj
    show id < e.1
    rcases Nat.eq_zero_or_pos j with rfl | hj0
    · have := insK_at (fs := fs) (id := id) (e := e) (by simpa using hj)
      omega
    · have hKl : insK fs id < fs.length := by
        rcases Nat.lt_or_ge (insK fs id) fs.length with h | h
        · exact h
        · rw [List.getElem?_eq_none (by omega)] at hj; cases hj
      have h1 := insK_at (fs := fs) (id := id) (e := fs[insK fs id]) (List.getElem?_eq_getElem hKl)
      have hjl : insK fs id + j < fs.length := by
        rcases Nat.lt_or_ge (insK fs id + j) fs.length with h | h
        · exact h
        · rw [List.getElem?_eq_none h] at hj; cases hj
      rw [List.getElem?_eq_getElem hjl] at hj
      cases hj
      have := List.pairwise_iff_getElem.1 hr (insK fs id) (insK fs id + j) hKl hjl (by omega)
      omega
theorem Sim.add {s t : SfS} (h : Sim s t) (id r m : Int) : Sim (s.add id r m) (t.addR id r m) := by
  unfold SfS.add SfS.addR
  rw [h.get]
  cases hg : getF t.fs id with
  | some x => exact h
  | none => exact ⟨h.v, h.most, (h.perm.append_right _).trans (insF_perm t.fs (id, FlS.new r m)).symm, insF_rise h.rise hg⟩
theorem setF_fst (fs : List (Int × FlS)) (id : Int) (x : FlS) : (setF fs id x).map (·.1) = fs.map (·.1) := by
  unfold setF
  rw [List.map_map]
  refine List.map_congr_left fun e _ => ?_
  simp only [Function.comp]
  split
  · rename_i h; exact h.symm
  · rfl
theorem rise_map {fs : List (Int × FlS)} : fs.Pairwise (fun a c => a.1 < c.1) ↔ (fs.map (·.1)).Pairwise (· < ·) := by rw [List.pairwise_map]
theorem Sim.set {s t : SfS} (h : Sim s t) (v most id : Int) (x : FlS) : Sim ⟨v, most, setF s.fs id x⟩ ⟨v, most, setF t.fs id x⟩ :=
  ⟨rfl, rfl, h.perm.map _, by rw [rise_map]; show ((setF t.fs id x).map (·.1)).Pairwise _; rw [setF_fst]; exact rise_map.1 h.rise⟩
theorem Sim.arrive {s t : SfS} (h : Sim s t) (p : Pk) : Sim (s.arrive p) (t.arrive p) ∧ s.arriveE p = t.arriveE p := by
  unfold SfS.arrive SfS.arriveE
  rw [h.get, h.v, h.most]
  cases hg : getF t.fs p.flow with
  | none => exact ⟨h, rfl⟩
  | some x => exact ⟨h.set _ _ _ _, rfl⟩
theorem Sim.remove {s t : SfS} (h : Sim s t) (id : Int) : Sim (s.remove id) (t.remove id) ∧ s.removeE id = t.removeE id := by
  unfold SfS.remove SfS.removeE
  rw [h.get]
  cases hg : getF t.fs id with
  | none => exact ⟨h, rfl⟩
  | some x =>
    refine ⟨?_, rfl⟩
    simp only
    split
    · exact ⟨h.v, h.most, h.perm.filter _, h.rise.sublist List.filter_sublist⟩
    · exact h
theorem Sim.ent {s t : SfS} (h : Sim s t) : (entL s.fs).Perm (entL t.fs) := (h.perm.filter _).map _
theorem Sim.serve {s t : SfS} (h : Sim s t) : Sim s.serve t.serve ∧ s.has = t.has ∧ s.head = t.head := by
  have he := h.ent
  by_cases hn : entL t.fs = []
  · have hn' : entL s.fs = [] := by rw [hn] at he; exact he.eq_nil
    unfold SfS.serve SfS.has SfS.head
    rw [if_pos hn, if_pos hn', if_pos hn, if_pos hn', hn, hn']
    exact ⟨⟨by rw [h.v, h.most], h.most, h.perm, h.rise⟩, rfl, rfl⟩
  · have hn' : entL s.fs ≠ [] := fun e => hn (by rw [e] at he; exact he.symm.eq_nil)
    have hf : s.first = t.first := minK_perm he hn'
    have hhas : ∀ u : SfS, entL u.fs ≠ [] → u.has = true := fun u hu => by
      unfold SfS.has
      cases hx : entL u.fs with
      | nil => exact absurd hx hu
      | cons _ _ => rfl
    refine ⟨?_, by rw [hhas s hn', hhas t hn], ?_⟩
    · unfold SfS.serve
      rw [if_neg hn, if_neg hn', hf, h.get]
      cases hg : getF t.fs t.first.2 with
      | none => exact h
      | some x => simp only [h.most]; exact h.set _ _ _ _
    · unfold SfS.head
      rw [if_neg hn, if_neg hn', hf, h.get]
/-- Which flows there are. -/
def SfS.ids (s : SfS) : List Int := s.fs.map (·.1)
theorem Sim.idsE {s t : SfS} (h : Sim s t) : (s.ids.mergeSort fun x y => decide (x ≤ y)) = t.ids := by
  have tr : ∀ a b c : Int, decide (a ≤ b) = true → decide (b ≤ c) = true → decide (a ≤ c) = true := fun a b c h1 h2 => by simp only [decide_eq_true_eq] at *; omega
  have tot : ∀ a b : Int, (decide (a ≤ b) || decide (b ≤ a)) = true := fun a b => by simp only [Bool.or_eq_true, decide_eq_true_eq]; omega
  refine List.Perm.eq_of_pairwise (le := fun x y : Int => decide (x ≤ y) = true) (fun a b _ _ h1 h2 => by simp only [decide_eq_true_eq] at h1 h2; omega) (List.pairwise_mergeSort tr tot _) ?_ ((List.mergeSort_perm _ _).trans (h.perm.map _))
  exact (rise_map.1 h.rise).imp fun h => by simp only [decide_eq_true_eq]; omega
end Go.Proofs.YtfgfjnlkgadkhaaGreat
end

-- Entries sorted by the library (slices.SortFunc), in memory of the call's own.
section
namespace Go.Proofs.YtfgfjnlkgadkhaaGreat
set_option linter.unusedVariables false
set_option linter.unusedSimpArgs false
set_option maxRecDepth 20000
open Go.RowKit Go.Proofs.YtfgfjnlkgadkhaaGreatMem Go.Proofs.YtfgfjnlkgadkhaaGreatMapK Go.Sort Go.Lib

/-- New blocks and draws, no more. -/
def Gr (w w' : World) : Prop := ∃ q os, w' = grow (w.drewN q) os
theorem Gr.refl (w : World) : Gr w w := ⟨0, #[], by rw [grow_empty]; rfl⟩
theorem Gr.alloc {w w' : World} (h : Gr w w') (o : Obj) : Gr w (w'.alloc o) := by
  obtain ⟨q, os, rfl⟩ := h
  exact ⟨q, os ++ #[o], by rw [alloc_eq_grow, grow_grow]⟩
theorem Gr.drew {w w' : World} (h : Gr w w') : Gr w w'.drew := by
  obtain ⟨q, os, rfl⟩ := h
  exact ⟨q + 1, os, by rw [drew_grow]; rfl⟩
theorem Gr.trans {a b c : World} (h : Gr a b) (k : Gr b c) : Gr a c := by
  obtain ⟨q, os, rfl⟩ := h
  obtain ⟨q', os', rfl⟩ := k
  have key : ∀ n (w : World) (os : Array Obj), (grow w os).drewN n = grow (w.drewN n) os := by
    intro n
    induction n with
    | zero => intro w os; rfl
    | succ n ih => intro w os; show ((grow w os).drewN n).drew = _; rw [ih, drew_grow]; rfl
  have key2 : ∀ m n (w : World), (w.drewN n).drewN m = w.drewN (n + m) := by
    intro m
    induction m with
    | zero => intro n w; rfl
    | succ m ih => intro n w; show ((w.drewN n).drewN m).drew = _; rw [ih]; rfl
  exact ⟨q + q', os ++ os', by rw [key, key2, grow_grow]⟩
theorem Gr.below {w w' : World} (h : Gr w w') : Below w.heap.size w w' := by
  obtain ⟨q, os, rfl⟩ := h
  have hd : ∀ n (w : World), Below w.heap.size w (w.drewN n) := by
    intro n
    induction n with
    | zero => intro w; exact Below.refl _ _
    | succ n ih => intro w; exact (ih w).drew
  have h1 := hd q w
  exact h1.trans (⟨rfl, rfl, rfl, by simp, fun k hk => heap_grow_old _ _ (Nat.lt_of_lt_of_le hk h1.size)⟩)

set_option maxHeartbeats 400000 in
theorem aheadG_any (k i l j : Int) (w : World) :
    Calls Tryz.prog 95 #[.agg #[.int .u64 k, .int .i64 i], .agg #[.int .u64 l, .int .i64 j]] w fun e w' => e = .returned (.bool (aheadB k i l j)) ∧ Gr w w' := by
  by_cases h1 : k < l
  · have E : Hid (aheadB k i l j = true) := by unfold Hid aheadB; simp; omega
    go_enter Tryz.func95, Tryz.ntmps95
    go_wp2
    go_ret
    exact ⟨by rw [E.out]; rfl, by repeat (first | exact Gr.refl _ | refine Gr.alloc ?_ _ | refine Gr.drew ?_)⟩
  by_cases h2 : k = l
  · subst h2
    by_cases h3 : i < j
    · have E : Hid (aheadB k i k j = true) := by unfold Hid aheadB; simp; omega
      go_enter Tryz.func95, Tryz.ntmps95
      go_wp2
      go_ret
      exact ⟨by rw [E.out]; rfl, by repeat (first | exact Gr.refl _ | refine Gr.alloc ?_ _ | refine Gr.drew ?_)⟩
    · have E : Hid (aheadB k i k j = false) := by unfold Hid aheadB; simp; omega
      have hd : decide (i < j) = false := by simpa using h3
      go_enter Tryz.func95, Tryz.ntmps95
      go_wp2
      go_ret
      exact ⟨by rw [E.out]; rfl, by repeat (first | exact Gr.refl _ | refine Gr.alloc ?_ _ | refine Gr.drew ?_)⟩
  · have E : Hid (aheadB k i l j = false) := by unfold Hid aheadB; simp; omega
    have h2' : (k == l) = false := by simpa using h2
    go_enter Tryz.func95, Tryz.ntmps95
    go_wp2
    go_ret
    exact ⟨by rw [E.out]; rfl, by repeat (first | exact Gr.refl _ | refine Gr.alloc ?_ _ | refine Gr.drew ?_)⟩

set_option maxHeartbeats 1000000 in
theorem orderG_any (a c : Int × Int) (w : World) :
    Calls Tryz.prog 76 #[.agg #[.int .u64 a.1, .int .i64 a.2], .agg #[.int .u64 c.1, .int .i64 c.2]] w fun e w' => e = .returned (.int .i64 (orderI a c)) ∧ Gr w w' := by
  obtain ⟨k, i⟩ := a
  obtain ⟨l, j⟩ := c
  have hbox : Gr w ((w.alloc (.cells #[.int .u64 k, .int .i64 i] 116)).alloc (.cells #[.int .u64 l, .int .i64 j] 116)) := ((Gr.refl _).alloc _).alloc _
  generalize hR : orderI (k, i) (l, j) = R
  go_enter Tryz.func76, Tryz.ntmps76
  go_wp2_with fail
  refine (aheadG_any k i l j _).mono ?_
  rintro e w' ⟨rfl, hg⟩
  have hb := hg.below
  have B1 := ((Blk.new w [.int .u64 k, .int .i64 i] 116).alloc (.cells #[.int .u64 l, .int .i64 j] 116)).below hb
  have B2 := (Blk.new (w.alloc (.cells #[.int .u64 k, .int .i64 i] 116)) [.int .u64 l, .int .i64 j] 116).below hb
  rw [show (w.alloc (.cells #[.int .u64 k, .int .i64 i] 116)).heap.size = w.heap.size + 1 by simp] at B2
  have c0 := B1.cell 0
  have c1 := B1.cell 1
  have c2 := B2.cell 0
  have c3 := B2.cell 1
  simp only [List.getElem?_cons_succ, List.getElem?_cons_zero] at c0 c1 c2 c3
  have HB := Lib.hid (hbox.trans hg)
  clear B1 B2 hbox hb hg
  cases ha : aheadB k i l j with
  | true =>
    have hR1 : R = -1 := by rw [← hR]; unfold orderI aheadE; rw [if_pos ha]
    subst hR1
    clear hR
    go_wp2
    go_ret
    exact ⟨rfl, HB.out⟩
  | false =>
    by_cases he : k = l ∧ i = j
    · obtain ⟨rfl, rfl⟩ := he
      have hR1 : R = 0 := by rw [← hR]; unfold orderI aheadE; rw [if_neg (by rw [ha]; simp), if_pos rfl]
      subst hR1
      clear hR
      go_wp2
      go_ret
      exact ⟨rfl, HB.out⟩
    · have hR1 : R = 1 := by rw [← hR]; unfold orderI aheadE; rw [if_neg (by rw [ha]; simp), if_neg (by simpa using he)]
      subst hR1
      clear hR
      by_cases h1 : k = l
      · have h2 : (i == j) = false := by simp; exact fun h2 => he ⟨h1, h2⟩
        subst h1
        clear he
        go_wp2
        go_ret
        exact ⟨rfl, HB.out⟩
      · have h2 : (k == l) = false := by simpa using h1
        clear he
        go_wp2
        go_ret
        exact ⟨rfl, HB.out⟩

theorem ltOrder (a c : Int × Int) : ltOf orderI a c = aheadE a c := by
  unfold ltOf
  cases ha : aheadE a c with
  | true => exact decide_eq_true (orderI_neg.2 ha)
  | false => exact decide_eq_false fun h => by rw [orderI_neg.1 h] at ha; cases ha
theorem swoE : SWO (ltOf orderI) where
  irrefl x := by rw [ltOrder]; exact aheadE_irrefl x
  trans x y z h1 h2 := by rw [ltOrder] at *; exact aheadE_trans h1 h2
  ntrans x y z h1 h2 := by
    rw [ltOrder] at *
    unfold aheadE aheadB at *
    simp only [decide_eq_false_iff_not] at *
    omega

/-- Entries in order. -/
def sortE (l : List (Int × Int)) : List (Int × Int) := l.mergeSort fun x y => !aheadE y x
theorem sortE_perm (l : List (Int × Int)) : (sortE l).Perm l := List.mergeSort_perm _ _
theorem sortE_length (l : List (Int × Int)) : (sortE l).length = l.length := (sortE_perm l).length_eq
theorem aheadE_asymm {x y : Int × Int} (h : aheadE x y = true) : aheadE y x = false := by
  cases h2 : aheadE y x with
  | false => rfl
  | true => have := aheadE_trans h h2; rw [aheadE_irrefl] at this; cases this
theorem aheadE_negtrans' {a b c : Int × Int} (h1 : aheadE b a = false) (h2 : aheadE c b = false) : aheadE c a = false := by
  unfold aheadE aheadB at *
  simp only [decide_eq_false_iff_not] at *
  omega
theorem sortE_pairwise (l : List (Int × Int)) : (sortE l).Pairwise fun x y => aheadE y x = false := by
  have := List.pairwise_mergeSort (le := fun x y : Int × Int => !aheadE y x) (fun a b c h1 h2 => by
    simp only [Bool.not_eq_true'] at *
    exact aheadE_negtrans' h1 h2) (fun a b => by
    cases h : aheadE b a with
    | false => rfl
    | true => simp [aheadE_asymm h]) l
  exact this.imp fun {a b} h => by simpa using h
theorem sortE_congr {l l' : List (Int × Int)} (h : l.Perm l') : sortE l = sortE l' :=
  List.Perm.eq_of_pairwise (le := fun x y => aheadE y x = false) (fun a b _ _ h1 h2 => (aheadE_total h2 h1)) (sortE_pairwise l) (sortE_pairwise l') (((sortE_perm l).trans h).trans (sortE_perm l').symm)

def enc2 (x : Int × Int) : List Value := [.int .u64 x.1, .int .i64 x.2]
theorem entC_enc2 (l : List (Int × Int)) : entC l = l.flatMap enc2 := by
  induction l with
  | nil => rfl
  | cons e l ih => simp only [entC, List.flatMap_cons, ih]; rfl
theorem flat_entC (l : List (Int × Int)) : (flatK enc2 2 l.toArray).toList = entC l := by
  refine List.ext_getElem? fun t => ?_
  by_cases ht : t < l.length * 2
  · have h1 : (flatK enc2 2 l.toArray).toList[t]? = some ((flatK enc2 2 l.toArray)[t]!) := by
      rw [Array.getElem?_toList, Array.getElem?_eq_getElem (by simpa using ht), getElem!_pos _ t (by simpa using ht)]
    rw [h1, get_flatK _ _ _ _ (by simpa using ht)]
    obtain ⟨q, hq⟩ : ∃ q, t = q * 2 ∨ t = q * 2 + 1 := ⟨t / 2, by omega⟩
    have hk : q < l.length := by omega
    obtain ⟨c0, c1⟩ := entC_at l q hk
    have hx : l.toArray[q]! = nthE l q := by
      rw [getElem!_pos _ _ (by simpa using hk)]
      unfold nthE
      rw [List.getD_eq_getElem?_getD, List.getElem?_eq_getElem hk]
      rfl
    rcases hq with rfl | rfl
    · rw [show q * 2 / 2 = q by omega, show q * 2 % 2 = 0 by omega, hx, c0]
      rfl
    · rw [show (q * 2 + 1) / 2 = q by omega, show (q * 2 + 1) % 2 = 1 by omega, hx, c1]
      rfl
  · rw [List.getElem?_eq_none (by simp; omega), List.getElem?_eq_none (by rw [entC_length]; omega)]

theorem heap_sortK {w : World} {g n : Nat} {os : Array Obj} {cur : Array Value} {e : TypeId} {fr : Nat × Nat} (d : Array (Int × Int)) (hb : w.heap[g]? = some (.cells cur e fr)) :
    (sortWorldK enc2 2 w g 0 n d os).heap[g]? = some (.cells (putCells id 0 (flatK enc2 2 d) cur) e fr) := by
  have hg : g < w.heap.size := (Array.getElem?_eq_some_iff.1 hb).1
  unfold sortWorldK putRowK
  rw [heap_grow_old _ _ (by simpa using hg)]
  simp [putRow, mapBlock, Sort.ahead, Array.getElem?_modify, hb, onCells]
theorem grown_sortK {w : World} {g n : Nat} {os : Array Obj} (d : Array (Int × Int)) : w.grownBy (sortWorldK enc2 2 w g 0 n d os) (some g) := by
  refine ⟨rfl, rfl, rfl, by unfold sortWorldK putRowK; simp, fun k hk hne => ?_⟩
  unfold sortWorldK putRowK
  rw [heap_grow_old _ _ (by simpa using hk)]
  have : g ≠ k := fun e => hne (by rw [e])
  simp [putRow, mapBlock, Sort.ahead, Array.getElem?_modify, this]
theorem take_putK (cur : Array Value) (F : Array Value) (h : F.size ≤ cur.size) : (putCells id 0 F cur).toList.take F.size = F.toList := by
  apply List.ext_getElem?
  intro j
  by_cases hj : j < F.size
  · rw [List.getElem?_take_of_lt hj, Array.getElem?_toList, Array.getElem?_toList]
    simp [putCells, hj, show j < cur.size by omega]
  · rw [List.getElem?_take_eq_none (by omega), List.getElem?_eq_none (by simp; omega)]

theorem cmpE (blk off size : Nat) (w : World) : CmpLays Tryz.prog 76 #[] enc2 2 orderI blk off size w :=
  fun _ _ _ _ x y => orderG_any x y _

set_option maxHeartbeats 1000000 in
/-- Entries of the call's own, sorted. -/
theorem sortE_any (base : Nat) (v : Value) (l : List (Int × Int)) (w : World) (h : w.ownsRow base 116 2 v l.length (entC l)) (hn : l.length ≤ 1000000) :
    Calls Tryz.prog 75 #[v, .func (.func 76) #[] #[]] w fun e w' => e = .returned (.tuple #[]) ∧ w'.ownsRow base 116 2 v l.length (entC (sortE l)) ∧ w.grownBy w' v.ownBlock := by
  have eg : ∀ args w, (callFunc 76 args).run Tryz.prog w = .ok (.enter 76 args) w := enters_of Tryz.func76 (by kernel_rfl) rfl
  rcases h.2 with ⟨rfl, h0⟩ | ⟨g, cap, cur, rfl, hg, hb, h1, h2, h3, h4⟩
  · rw [h0]
    refine (AnyF.slices_SortFunc_none Tryz.sortE none 0 _ w).mono ?_
    rintro e w' ⟨rfl, rfl⟩
    have : l = [] := List.eq_nil_of_length_eq_zero h0
    subst this
    have e0 : sortE [] = [] := by simp [sortE]
    rw [e0]
    exact ⟨rfl, h, ⟨rfl, rfl, rfl, Nat.le_refl _, fun _ _ _ => rfl⟩⟩
  · have hlt : g < w.heap.size := (Array.getElem?_eq_some_iff.1 hb).1
    have hH : HoldsK enc2 2 w g 0 l.toArray := by
      intro j hj
      have hj' : j < l.length * 2 := by simpa using hj
      refine ⟨?_, by simp [World.frozen?, hb]⟩
      have e1 : (cur.toList.take (l.length * 2))[j]? = (entC l)[j]? := by rw [h4]
      rw [List.getElem?_take_of_lt hj'] at e1
      have e2 : (flatK enc2 2 l.toArray)[j]? = (entC l)[j]? := by rw [← flat_entC, Array.getElem?_toList]
      rw [Array.getElem?_eq_getElem hj] at e2
      rw [getElem!_pos _ j hj]
      simp only [World.cell?, hb, Nat.zero_add, id]
      simp only [Option.isSome_none, Bool.false_eq_true, if_false]
      rw [← Array.getElem?_toList, e1, ← e2]
    have hcon := AnyQ.slices_SortFunc_total Tryz.sortE 2 Tryz.isAgg116 Tryz.sizeOf116 enc2 (fun _ => rfl) (fun x v hv => by simp [enc2] at hv; rcases hv with rfl | rfl <;> rfl) orderI swoE 76 #[] g 0 cap l.toArray w eg (cmpE g 0 _ w) hH hlt (by simp; omega) (fun x y h1 h2 => by rw [ltOrder] at h1 h2; exact aheadE_total h1 h2)
    change Calls Tryz.prog 75 _ _ _ at hcon
    have hs : (l.mergeSort fun x y => !(ltOf orderI) y x) = sortE l := by
      unfold sortE
      congr 1
      funext x y
      rw [ltOrder]
    have e0 : l.toArray.size = l.length := by simp
    rw [e0] at hcon
    refine hcon.mono ?_
    rintro e w' ⟨rfl, n, os, rfl⟩
    simp only [List.toList_toArray, hs]
    have hsz : (flatK enc2 2 (sortE l).toArray).size = l.length * 2 := by simp [sortE_length]
    refine ⟨by first | rfl | trivial, ⟨by rw [entC_length, sortE_length], .inr ⟨g, cap, _, rfl, hg, heap_sortK _ hb, h1, h2, by simp [putCells, h3], ?_⟩⟩, grown_sortK _⟩
    have := take_putK cur (flatK enc2 2 (sortE l).toArray) (by rw [hsz, h3]; omega)
    rw [hsz, flat_entC] at this
    exact this
end Go.Proofs.YtfgfjnlkgadkhaaGreat
end

-- A set of flows: the starts, in order.
section
namespace Go.Proofs.YtfgfjnlkgadkhaaGreat
set_option linter.unusedVariables false
set_option linter.unusedSimpArgs false
set_option maxRecDepth 20000
open Go.RowKit Go.Proofs.YtfgfjnlkgadkhaaGreatMem Go.Proofs.YtfgfjnlkgadkhaaGreatMapK

theorem EI : ElT Tryz.prog 48 47 (.agg #[.int .u64 0, .int .i64 0]) 2 := ⟨Tryz.underlying48, ⟨16, by kernel_rfl, by omega⟩, rfl, by omega⟩
def SfS.starts (s : SfS) : List (Int × Int) := sortE (entL s.fs)
theorem take_nthE (l : List (Int × Int)) {k : Nat} (h : k < l.length) : l.take (k + 1) = l.take k ++ [nthE l k] := by
  unfold nthE
  rw [List.take_add_one, List.getD_eq_getElem?_getD, List.getElem?_eq_getElem h]
  rfl
theorem entL_le (fs : List (Int × FlS)) : (entL fs).length ≤ fs.length := by
  unfold entL
  rw [List.length_map]
  exact List.length_filter_le _ _

set_option maxHeartbeats 1000000 in
theorem startsS_any (b : Nat) (s : SfS) (F : Nat → Prop) (w : World) (h : SfsAt w b s F) (hn : s.fs.length ≤ 1000000) :
    Calls Tryz.prog 48 #[.pointer (some ⟨b, 0, none⟩)] w fun e w' => ∃ v, e = .returned v ∧ w'.ownsRow w.heap.size 47 2 v s.starts.length (entC s.starts) ∧ Below w.heap.size w w' := by
  go_enter Tryz.func48, Tryz.ntmps48
  go_wp2_with fail
  refine (entries_any b s F w h hn).mono ?_
  rintro e w1 ⟨v, es, rfl, hp, hown, hb1⟩
  have hes : es.length ≤ 1000000 := by rw [hp.length_eq]; exact Nat.le_trans (entL_le _) hn
  have hs : sortE es = s.starts := sortE_congr hp
  have hlt1 := hown.lt
  go_wp2_with fail
  refine (sortE_any _ v es w1 hown hes).mono ?_
  rintro e w2 ⟨rfl, hown2, hg2⟩
  rw [hs] at hown2
  have hL : s.starts.length = es.length := by rw [← hs, sortE_length]
  obtain ⟨a, c, rfl⟩ := owns_slice hown2
  have hb2 : Below w.heap.size w w2 := hb1.grown hg2 hb1.size fun k hk => (hlt1 k hk).1
  generalize hLs : s.starts = L at *
  have HLS := Lib.hid hLs
  clear hLs
  have hrd := owns_rdS hown2 (entC_one L)
  have hsz := hb2.size
  have HL := Lib.hid hL
  have HB := Lib.hid hb2
  generalize hnn : es.length = n at *
  clear hown hown2 hp hs hg2 hb1 hb2 h hlt1 hL hnn
  go_wp2_with fail
  go_loopw [4, 6, 13] (fun v4 _ v13 wr => ∃ k : Nat, k ≤ n ∧ v13 = .int .i64 k ∧ wr.ownsRow w2.heap.size 47 2 v4 k (entC (L.take k)) ∧ Below w2.heap.size w2 wr) (fun _ _ v13 _ => n - (intOf v13).toNat)
  case atStart => exact ⟨0, Nat.zero_le _, rfl, owns_nil _ _ _ _, Below.refl _ _⟩
  case round =>
    obtain ⟨k, hk, rfl, hown, hbr⟩ := hrel
    have hszr := hbr.size
    by_cases hl : k < n
    · have i1 : (k : Int) < (n : Int) := by omega
      obtain ⟨b0, o0, rfl, hlt0, hc0⟩ := rds_ent hrd HL.out hl
      obtain ⟨n0, n1⟩ := hc0 _ hbr
      have HE := Lib.hid (take_nthE L (by rw [HL.out]; exact hl))
      have hown' := hown.alloc (.cells #[.int .u64 (nthE L k).1, .int .i64 (nthE L k).2] 116)
      have hbx := hbr.alloc hszr (.cells #[.int .u64 (nthE L k).1, .int .i64 (nthE L k).2] 116)
      have Bx := Blk.new wr [.int .u64 (nthE L k).1, .int .i64 (nthE L k).2] 116
      have x0 := Bx.cell 0
      have x1 := Bx.cell 1
      simp only [List.getElem?_cons_succ, List.getElem?_cons_zero] at x0 x1
      have hszx := hbx.size
      have hn2 : k + 1 ≤ 1099511627776 := by omega
      clear hc0 hown
      go_upto_region 7 with fail
      generalize hWX : wr.alloc (.cells #[.int .u64 (nthE L k).1, .int .i64 (nthE L k).2] 116) = wx at *
      clear hWX
      go_wp2_with ((at_builtin; refine ap_new wx #[.int .u64 (nthE L k).1, .int .i64 (nthE L k).2] EI rfl _ _ rfl w2.heap.size _ k _ rfl hown' hszx 1 rfl rfl (one2 _ _) hn2 ?_; intro v' w3 hown3 hg3 hb3 hfr3))
      go_roundw
      case rel =>
        refine ⟨k + 1, by omega, by go_num, ?_, hbx.trans hb3⟩
        rw [HE.out, entC_append]
        simpa [entC] using hown3
      case measure => simp [intOf]; omega
    · obtain rfl : k = n := by omega
      have hT : L.take k = L := List.take_of_length_le (by rw [HL.out]; exact Nat.le_refl _)
      rw [hT] at hown
      go_wp2
      go_ret
      exact ⟨_, rfl, by rw [HLS.out, HL.out]; exact owns_base hown hsz, HB.out.trans (hbr.mono hsz)⟩
end Go.Proofs.YtfgfjnlkgadkhaaGreat
end

-- Which flows there are, rising: slices.Sorted(maps.Keys(..)) at the flows' map.
section
namespace Go.Proofs.YtfgfjnlkgadkhaaGreat
set_option linter.unusedVariables false
set_option linter.unusedSimpArgs false
set_option maxRecDepth 20000
open Go.RowKit Go.Proofs.YtfgfjnlkgadkhaaGreatMem Go.Proofs.YtfgfjnlkgadkhaaGreatMapK Go.Sort Go.Shelf

/-- Whatever stands at a key: it is not read. -/
def RN : Value → Option (DataW Unit × List MemPlace) := fun _ => some (.nil, [])
def keyZ : Value → Int | .int _ a => a | _ => 0
theorem ownsMap_of {w : World} {mb : Nat} {m : List (Int × Value)} (h : IsMapAt w mb (Value.int .i64) m) (hk : ∀ e ∈ m, I64 e.1) (hn : m.length ≤ 1000000) :
    ∃ D : DataW Unit, w.ownsMap Tryz.prog 3 RN mb m.length D ∧ (intKeys D).Perm (m.map (·.1)) ∧ Maps.size D = m.length := by
  obtain ⟨es, clock, h⟩ := h
  have hlen : es.toList.length = m.length := by have := congrArg List.length h.ents; simpa using this
  have hkey := h.keyEq
  have hread : ∀ x ∈ es.toList, WideElems.rd Tryz.prog 3 RN x = some (.int .i64 (keyZ x.key), .nil) := by
    intro x hx
    have hx2 : x.key ∈ (m.map (·.1)).map (Value.int .i64) := by rw [← hkey]; exact List.mem_map.2 ⟨x, hx, rfl⟩
    obtain ⟨k, hk1, hk2⟩ := List.mem_map.1 hx2
    obtain ⟨e, he, rfl⟩ := List.mem_map.1 hk1
    have hb := hk e he
    have hw : (Lit.int .i64 e.1).wf = true := by unfold I64 at hb; simp [Lit.wf, IntKind.min, IntKind.max, IntKind.bits, IntKind.signed]; exact hb
    obtain ⟨key, val, born⟩ := x
    simp only at hk2
    subst hk2
    exact WideElems.rd_mk (R := RN) (yv := (.nil, [])) (Maps.keyOf_int_mk Tryz.underlying3 hw) rfl
  have hst : MapKept.Stamped es clock := by
    refine ⟨h.born, h.stamps, ?_⟩
    rw [hkey]
    exact List.pairwise_map.2 (h.keys.imp fun hne e => hne (by simpa using e))
  refine ⟨_, ⟨es, clock, h.heap, ⟨by rw [← Array.length_toList, hlen]; unfold maxLen; omega, hst, fun x hx => ⟨_, hread x hx⟩⟩, by rw [← Array.length_toList, hlen]; exact Nat.le_refl _, rfl⟩, ?_, ?_⟩
  · show (List.map (fun p : Lit × DataW Unit => Go.intOf p.1) _).Perm _
    have e1 : List.map (fun p : Lit × DataW Unit => Go.intOf p.1) (es.toList.map (WideElems.rg Tryz.prog 3 RN)) = m.map (·.1) := by
      rw [List.map_map]
      have e2 : List.map ((fun p : Lit × DataW Unit => Go.intOf p.1) ∘ WideElems.rg Tryz.prog 3 RN) es.toList = (es.toList.map (·.key)).map keyZ := by
        rw [List.map_map]
        refine List.map_congr_left fun x hx => ?_
        simp only [Function.comp, WideElems.rg_of (hread x hx)]
        rfl
      rw [e2, hkey, List.map_map]
      conv => rhs; rw [← List.map_id (m.map (·.1))]
      rfl
    rw [← e1]
    exact (WideShapes.sorted_perm _).map _
  · show (List.foldr DataW.insert [] _).length = _
    rw [(WideShapes.sorted_perm _).length_eq, List.length_map, hlen]

theorem sortsIn (n : Nat) : AnyZI.SortsIn Tryz.prog Tryz.sortedF_ren Fence.wide n :=
  ⟨fun blk off cap ss W hH hblk hsz => callsIn_wide.2 (AnyM.slices_Sort_int Tryz.sortF blk off cap ss W hH hblk hsz),
   fun p cap W => callsIn_wide.2 (AnyM.slices_Sort_int_none Tryz.sortF p cap W)⟩

theorem keysC (mb : Option Nat) (w : World) : Calls Tryz.prog 80 #[.map mb] w fun e w' => e = .returned (.func (.func 100) #[] #[.pointer (some ⟨w.heap.size, 0, none⟩)]) ∧ w' = w.alloc (.cells #[.map mb] 100) :=
  callsIn_wide.1 (AnyZI.keys_in Tryz.keysF Fence.wide 5 trivial rfl mb w)

theorem sortedC {mb : Nat} {m : List (Int × Value)} {w : World} (h : IsMapAt w mb (Value.int .i64) m) (hk : ∀ e ∈ m, I64 e.1) (hn : m.length ≤ 1000000) :
    Calls Tryz.prog 79 #[.func (.func 100) #[] #[.pointer (some ⟨w.heap.size, 0, none⟩)]] (w.alloc (.cells #[.map (some mb)] 100)) fun e w' => ∃ v, e = .returned v ∧
      w'.ownsRow w.heap.size 3 1 v m.length (((m.map (·.1)).mergeSort fun x y => decide (x ≤ y)).map (Value.int .i64)) ∧ Below w.heap.size w w' := by
  obtain ⟨D0, hown, hp, hsz⟩ := ownsMap_of h hk hn
  have hbl := hown.lt
  have hseq : SeqGives Fence.wide 2 Tryz.prog 100 #[.pointer (some ⟨w.heap.size, 0, none⟩)] encZ (fun ss => ss.Perm (intKeys D0)) (Maps.size D0) (w.alloc (.cells #[.map (some mb)] 100)) :=
    AnyZI.keys_gives (ρ := Tryz.keysF_ren) { Tryz.keysF with } Fence.wide _ trivial rfl (by omega) w.heap.size mb _ D0 _ (by simp) (by simp) (by
      obtain ⟨es, clock, hb, Ft, hs, hD⟩ := hown
      exact ⟨es, clock, (Below.heap_alloc _ _ mb hbl).trans hb, Ft, hs, hD⟩)
  have cS := AnyZI.sorted_in Tryz.sortedF Fence.wide 5 trivial trivial trivial trivial rfl (by omega) (sortsIn _) (enters_of Tryz.func99 (by kernel_rfl) rfl) 100 #[.pointer (some ⟨w.heap.size, 0, none⟩)] trivial (enters_of Tryz.func100 (by kernel_rfl) rfl) _ (Maps.size D0) (by rw [hsz]; unfold maxLen; omega) (by rw [hsz]; omega) _ hseq
  change CallsIn _ _ Tryz.prog 79 _ _ _ at cS
  refine (callsIn_wide.1 cS).mono ?_
  rintro e w' ⟨v, ss, rfl, hS, hrow, -, hb⟩
  have e1 : ss.length = m.length := by rw [(hS.trans hp).length_eq, List.length_map]
  have e2 : (ss.mergeSort fun x y => decide (x ≤ y)) = ((m.map (·.1)).mergeSort fun x y => decide (x ≤ y)) := mergeSort_of_perm_i (hS.trans hp)
  rw [e1, e2] at hrow
  exact ⟨v, rfl, ownsRow_base_a hrow (by simp), ((Below.refl _ w).alloc (Nat.le_refl _) _).trans (hb.mono (by simp))⟩

set_option maxHeartbeats 1000000 in
theorem flowsS_any (b : Nat) (s : SfS) (F : Nat → Prop) (w : World) (h : SfsAt w b s F) (hi : ∀ e ∈ s.fs, I64 e.1) (hn : s.fs.length ≤ 1000000) :
    Calls Tryz.prog 52 #[.pointer (some ⟨b, 0, none⟩)] w fun e w' => ∃ v, e = .returned v ∧ w'.ownsRow w.heap.size 3 1 v s.fs.length ((s.ids.mergeSort fun x y => decide (x ≤ y)).map (Value.int .i64)) ∧ Below w.heap.size w w' := by
  obtain ⟨mb, l, hl, R⟩ := h
  have c0 := R.blk.cell 0
  simp only [List.getElem?_cons_zero] at c0
  have hlt := R.blk.lt
  have hids : (l.map FlR.ent).map (·.1) = s.ids := by unfold SfS.ids; rw [← hl]; simp [FlR.ent, FlR.pl, Function.comp_def]
  have hlen : (l.map FlR.ent).length = s.fs.length := by rw [← hl]; simp
  have cS := sortedC R.map (fun e he => by
    obtain ⟨x, hx, rfl⟩ := List.mem_map.1 he
    exact hi x.pl (by rw [← hl]; exact List.mem_map.2 ⟨x, hx, rfl⟩)) (by rw [hlen]; exact hn)
  rw [hids, hlen] at cS
  clear R hids hlen hl
  go_enter Tryz.func52, Tryz.ntmps52
  go_wp2_with fail
  refine (keysC _ _).mono ?_
  rintro e w1 ⟨rfl, rfl⟩
  go_wp2_with fail
  refine cS.mono ?_
  rintro e w2 ⟨v, rfl, hrow, hb⟩
  obtain ⟨ao, cp, rfl⟩ := owns_slice hrow
  go_wp2
  go_ret
  exact ⟨_, rfl, hrow, hb⟩
end Go.Proofs.YtfgfjnlkgadkhaaGreat
end
