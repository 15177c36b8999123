/- HistBatch, its first lines: two calls brought near, in their boxes. -/
import Derived.Test.YtonldjkmbapjeaaHistParts
import Derived.Test.YtonldjkmbapjeaaHelpK
import Derived.Deep.RegionWith
import Derived.Deep.RegionLaw
import Derived.Deep.CutBlock
namespace Go.Proofs.Ytonldjkmbapjeaa
set_option linter.unusedVariables false
set_option linter.unusedSimpArgs false
open Go.RowKit Go.Proofs.YtonldjkmbapjeaaMem Go.Proofs.YtonldjkmbapjeaaFlat

section
variable {P : Program} {ops : Array Oper} {o : Oper} {a : Act} {Q : Exit → Act → World → Prop}
theorem step_store_mid {K : Act → World → Prop} {Ep : Prop} {w : World} (hgd : o.guard = none) (ty : TypeId) (x y : Operand) (ho : o.op = .store ty x y) (b off : Nat) (cells : Array Value) (hx : a.eval x = .pointer (some ⟨b, off, none⟩)) (hy : a.eval y = .agg cells)
    (ht : w.there b off cells.size) (hi : (P.info? ty).map (·.size) = some cells.size) (h1 : cells.all (·.oneCell') = true) (h : K (a.put o.dst undef) (w.setCells b off cells.toList)) :
    if Region.wanted o (yielded ops a.tmps) = true then Oper.wp P o a w K Q else Ep := by
  rw [if_pos (by simp [Region.wanted, hgd])]
  exact wp_store_mid ty x y ho b off cells hx hy ht hi h1 h
theorem step_load_mid {K : Act → World → Prop} {Ep : Prop} {w : World} (hgd : o.guard = none) (ty : TypeId) (x : Operand) (ho : o.op = .load ty x) (b off : Nat) (hx : a.eval x = .pointer (some ⟨b, off, none⟩)) (cs : List Value) (d : TypeDesc) (hc : w.rangeAt b off cs)
    (hu : P.underlying ty = some d) (hd : d.isRow = true) (hi : (P.info? ty).map (·.size) = some cs.length) (h : K (a.put o.dst (.agg cs.toArray)) w) :
    if Region.wanted o (yielded ops a.tmps) = true then Oper.wp P o a w K Q else Ep := by
  rw [if_pos (by simp [Region.wanted, hgd])]
  exact wp_load_mid ty x ho b off hx cs d hc hu hd hi h
end
theorem below_setCells {B : Nat} {w w' : World} {g : Nat} (h : Below B w w') (hg : B ≤ g) (o : Nat) (us : List Value) : Below B w (w'.setCells g o us) := by
  induction us generalizing w' o with
  | nil => exact h
  | cons u us ih => exact ih (h.setCell (p := ⟨g, o, none⟩) hg u) (o + 1)
theorem setCells_far {w : World} {g b : Nat} (hne : b ≠ g) (o : Nat) (us : List Value) : (w.setCells g o us).heap[b]? = w.heap[b]? := by
  induction us generalizing w o with
  | nil => rfl
  | cons u us ih => exact (ih (o + 1)).trans (Below.heap_setCell w ⟨g, o, none⟩ u b hne)
theorem BoxD.range {w : World} {b : Nat} {x : DoneS} {t : TypeId} (h : BoxD w b x t) : w.rangeAt b 0 x.cells := by
  intro j v hv
  rw [Nat.zero_add]
  exact (Blk.cell (cs := x.cells) h j).trans hv
theorem BoxD.there {w : World} {b : Nat} {x : DoneS} {t : TypeId} (h : BoxD w b x t) : w.there b 0 12 := by
  intro j hj
  rw [Nat.zero_add]
  refine ⟨?_, h.frozen j⟩
  rw [Blk.cell (cs := x.cells) h j, List.getElem?_eq_getElem (by rw [doneS_cells]; exact hj)]; rfl
theorem BoxD.storeAll {w : World} {b : Nat} {x : DoneS} {t : TypeId} (h : BoxD w b x t) (y : DoneS) : BoxD (w.setCells b 0 y.cells) b y t := by
  rw [setCells_put]
  have h1 := putCells_heap y.cells w b 0 _ h
  have h2 : setList x.cells.toArray 0 y.cells = y.cells.toArray := by
    apply Array.toList_inj.1
    rw [setList_toList _ _ _ (by simp [doneS_cells])]
    simp [doneS_cells]
  have h3 : (putCells w b 0 y.cells).heap[b]? = some (.cells y.cells.toArray t (0, 0)) := by
    rw [← h2]; exact h1
  exact h3
theorem BoxD.farAll {w : World} {b g : Nat} {x : DoneS} {t : TypeId} (h : BoxD w b x t) (hne : b ≠ g) (o : Nat) (us : List Value) : BoxD (w.setCells g o us) b x t := (setCells_far hne o us).trans h

/-- The three boxes. -/
structure Bx (w W : World) (A : Nat) (a d b : DoneS) : Prop where
  a : BoxD W A a 31
  d : BoxD W (A + 1) d 31
  b : BoxD W (A + 2) b 31
  bel : Below w.heap.size w W
  ge : w.heap.size ≤ A
theorem Bx.below {w W V : World} {A : Nat} {a d b : DoneS} (h : Bx w W A a d b) (hb : Below W.heap.size W V) : Bx w V A a d b := ⟨h.a.below hb, h.d.below hb, h.b.below hb, h.bel.trans (hb.mono h.bel.size), h.ge⟩
theorem Bx.drew {w W : World} {A : Nat} {a d b : DoneS} (h : Bx w W A a d b) : Bx w W.drew A a d b := ⟨h.a, h.d, h.b, h.bel.drew, h.ge⟩
theorem Bx.allA {w W : World} {A : Nat} {a d b : DoneS} (h : Bx w W A a d b) (y : DoneS) : Bx w (W.setCells A 0 y.cells) A y d b :=
  ⟨h.a.storeAll y, h.d.farAll (by omega) _ _, h.b.farAll (by omega) _ _, below_setCells h.bel h.ge _ _, h.ge⟩
theorem Bx.allB {w W : World} {A : Nat} {a d b : DoneS} (h : Bx w W A a d b) (y : DoneS) : Bx w (W.setCells (A + 2) 0 y.cells) A a d y :=
  ⟨h.a.farAll (by omega) _ _, h.d.farAll (by omega) _ _, h.b.storeAll y, below_setCells h.bel (by have := h.ge; omega) _ _, h.ge⟩
theorem Bx.putA {w W : World} {A : Nat} {a d b : DoneS} (h : Bx w W A a d b) {i : Nat} {u : Value} {z : DoneS} (e : a.cells.set i u = z.cells) : Bx w (W.setCell ⟨A, i, none⟩ u) A z d b :=
  ⟨h.a.put e, h.d.far (by omega) u, h.b.far (by omega) u, h.bel.setCell (p := ⟨A, i, none⟩) h.ge u, h.ge⟩
theorem Bx.putD {w W : World} {A : Nat} {a d b : DoneS} (h : Bx w W A a d b) {i : Nat} {u : Value} {z : DoneS} (e : d.cells.set i u = z.cells) : Bx w (W.setCell ⟨A + 1, i, none⟩ u) A a z b :=
  ⟨h.a.far (by omega) u, h.d.put e, h.b.far (by omega) u, h.bel.setCell (p := ⟨A + 1, i, none⟩) (show w.heap.size ≤ A + 1 by have := h.ge; omega) u, h.ge⟩
theorem Bx.putB {w W : World} {A : Nat} {a d b : DoneS} (h : Bx w W A a d b) {i : Nat} {u : Value} {z : DoneS} (e : b.cells.set i u = z.cells) : Bx w (W.setCell ⟨A + 2, i, none⟩ u) A a d z :=
  ⟨h.a.far (by omega) u, h.d.far (by omega) u, h.b.put e, h.bel.setCell (p := ⟨A + 2, i, none⟩) (show w.heap.size ≤ A + 2 by have := h.ge; omega) u, h.ge⟩
theorem Bx.start (w : World) (a d b : DoneS) : Bx w (((w.alloc (.cells #[.int .i64 a.who, .int .i64 a.place, .int .i64 a.op, .int .i64 a.fl, .int .i64 a.a, .int .i64 a.b, .int .i64 a.e, .slice a.ao a.len a.cap, .int .i64 a.n, .int .u64 a.v, .int .i64 a.fr, .int .i64 a.to] 31)).alloc (.cells #[.int .i64 d.who, .int .i64 d.place, .int .i64 d.op, .int .i64 d.fl, .int .i64 d.a, .int .i64 d.b, .int .i64 d.e, .slice d.ao d.len d.cap, .int .i64 d.n, .int .u64 d.v, .int .i64 d.fr, .int .i64 d.to] 31)).alloc (.cells #[.int .i64 b.who, .int .i64 b.place, .int .i64 b.op, .int .i64 b.fl, .int .i64 b.a, .int .i64 b.b, .int .i64 b.e, .slice b.ao b.len b.cap, .int .i64 b.n, .int .u64 b.v, .int .i64 b.fr, .int .i64 b.to] 31)) w.heap.size a d b := by
  have t := two_boxesD w a d 31
  have e : ((w.alloc (.cells #[.int .i64 a.who, .int .i64 a.place, .int .i64 a.op, .int .i64 a.fl, .int .i64 a.a, .int .i64 a.b, .int .i64 a.e, .slice a.ao a.len a.cap, .int .i64 a.n, .int .u64 a.v, .int .i64 a.fr, .int .i64 a.to] 31)).alloc (.cells #[.int .i64 d.who, .int .i64 d.place, .int .i64 d.op, .int .i64 d.fl, .int .i64 d.a, .int .i64 d.b, .int .i64 d.e, .slice d.ao d.len d.cap, .int .i64 d.n, .int .u64 d.v, .int .i64 d.fr, .int .i64 d.to] 31)).heap.size = w.heap.size + 2 := by simp
  have o := one_boxD ((w.alloc (.cells #[.int .i64 a.who, .int .i64 a.place, .int .i64 a.op, .int .i64 a.fl, .int .i64 a.a, .int .i64 a.b, .int .i64 a.e, .slice a.ao a.len a.cap, .int .i64 a.n, .int .u64 a.v, .int .i64 a.fr, .int .i64 a.to] 31)).alloc (.cells #[.int .i64 d.who, .int .i64 d.place, .int .i64 d.op, .int .i64 d.fl, .int .i64 d.a, .int .i64 d.b, .int .i64 d.e, .slice d.ao d.len d.cap, .int .i64 d.n, .int .u64 d.v, .int .i64 d.fr, .int .i64 d.to] 31)) b 31
  rw [e] at o
  exact ⟨t.1.below (below1 _ _), t.2.below (below1 _ _), o, below_step (below2 w _ _) (below1 _ _), Nat.le_refl _⟩

def errB (k : Int) : Int := if k = 0 then 0 else if k = 1 then 10 else 1
def ndA (a : DoneS) : DoneS := { nearD a with op := 3 }
def ndB (b : DoneS) : DoneS := { nearD b with op := 6 }
def ndD (d : DoneS) (e : Int) : DoneS := { d with op := 5, e := errB (modZ e 3) }
theorem one_of_bare {x d : DoneS} {e : Int} {l : List PkS} (h : x.bare = oneD d e 0 0 none 0 0 l) : x = oneD d e 0 0 x.ao x.len x.cap l := by
  obtain ⟨x1, x2, x3, x4, x5, x6, x7, x8, x9, x10, x11, x12, x13, x14, x15⟩ := x
  simp only [DoneS.bare, oneD, DoneS.mk.injEq] at h ⊢
  simp_all
theorem parts3 {lp P : List DoneS} {x y : DoneS} (h : lp.map DoneS.bare = x :: (P ++ [y])) : lp.length = P.length + 2 ∧ (nthD lp 0).bare = x ∧ (nthD lp (P.length + 1)).bare = y ∧ ∀ i, 1 ≤ i → i ≤ P.length → (nthD lp i).bare = nthD P (i - 1) := by
  have hl : lp.length = P.length + 2 := by have := congrArg List.length h; simpa using this
  have key : ∀ k, k < lp.length → (x :: (P ++ [y]))[k]? = some (nthD lp k).bare := by
    intro k hk
    rw [← h, List.getElem?_map, nthD_some hk]; rfl
  refine ⟨hl, ?_, ?_, fun i h1 h2 => ?_⟩
  · have := key 0 (by omega); simpa using this.symm
  · have := key (P.length + 1) (by omega)
    rw [List.getElem?_cons_succ, List.getElem?_append_right (Nat.le_refl _)] at this
    simpa using this.symm
  · have := key i (by omega)
    obtain ⟨j, rfl⟩ : ∃ j, i = j + 1 := ⟨i - 1, by omega⟩
    rw [List.getElem?_cons_succ, List.getElem?_append_left (by omega)] at this
    rw [Nat.add_sub_cancel]
    rw [nthD_some (show j < P.length by omega)] at this
    simpa using this.symm

/-- One packet of a slice of packets, resliced. -/
theorem RdK.one {w : World} {pb po n cap : Nat} {l : List PkS} (h : RdK w (some ⟨pb, po, none⟩) n cap l) {j : Nat} (hj : j < n) : RdK w (some ⟨pb, po + j * 3, none⟩) 1 (cap - j) [nthK l j] := by
  have hle := h.rd.le
  have hjl : j < l.length := by rw [h.len]; exact hj
  refine ⟨⟨rfl, by omega, (fun e => by cases e), by omega, pkC_one _, fun i u hu => ?_⟩, rfl, fun p hp => ?_⟩
  · have hc : (pkC [nthK l j]) = (nthK l j).cells := by simp [pkC]
    rw [hc] at hu
    obtain ⟨b, off, e, hb, hcell⟩ := h.rd.at_ (j * 3 + i) u (recs_at pkS_cells l j _ (nthK_some hjl) i u hu)
    simp only [Option.some.injEq, Addr.mk.injEq, and_true] at e
    obtain ⟨rfl, rfl⟩ := e
    exact ⟨pb, po + j * 3, rfl, hb, by rw [Nat.add_assoc]; exact hcell⟩
  · simp only [List.mem_singleton] at hp
    subst hp; exact h.ok_nth hj
theorem packD_at {d : DoneS} {l : List PkS} {m : List DoneS} {i : Nat} (h : i < l.length) : nthD (packD d l ++ m) i = oneD d 0 0 0 none 0 0 [nthK l i] := by
  have h1 : (packD d l ++ m)[i]? = some (oneD d 0 0 0 none 0 0 [nthK l i]) := by
    rw [List.getElem?_append_left (by simpa [packD] using h)]
    simp only [packD, List.getElem?_map, nthK_some h, Option.map_some]
  simp [nthD, List.getD_eq_getElem?_getD, h1]
theorem packD_end {d : DoneS} {l : List PkS} {y : DoneS} : nthD (packD d l ++ [y]) l.length = y := by
  have h1 : (packD d l ++ [y])[l.length]? = some y := by
    rw [List.getElem?_append_right (by simp [packD])]; simp [packD]
  simp [nthD, List.getD_eq_getElem?_getD, h1]
theorem partsD_three (a d b : DoneS) (e : Int) : partsD [ndA a, ndD d e, ndB b] = (ndA a).bare :: (partD (ndD d e) ++ [(ndB b).bare]) := by
  have h1 : partD (ndA a) = [(ndA a).bare] := rfl
  have h2 : partD (ndB b) = [(ndB b).bare] := rfl
  simp only [partsD, List.flatMap_cons, List.flatMap_nil, h1, h2, List.append_nil, List.cons_append, List.nil_append]

set_option maxRecDepth 20000 in
set_option maxHeartbeats 4000000 in
theorem HistBatch_1 (a d b : DoneS) (e : Int) (w : World) (ga : a.Ok ∧ RdK w a.ao a.len a.cap a.l) (gd : d.Ok ∧ RdK w d.ao d.len d.cap d.l) (gb : b.Ok ∧ RdK w b.ao b.len b.cap b.l) (sa : a.len ≤ 1048576) (sd : d.len ≤ 1048576) (sb : b.len ≤ 1048576) :
    Calls Try.prog 6 #[(.agg #[.int .i64 a.who, .int .i64 a.place, .int .i64 a.op, .int .i64 a.fl, .int .i64 a.a, .int .i64 a.b, .int .i64 a.e, .slice a.ao a.len a.cap, .int .i64 a.n, .int .u64 a.v, .int .i64 a.fr, .int .i64 a.to]), (.agg #[.int .i64 d.who, .int .i64 d.place, .int .i64 d.op, .int .i64 d.fl, .int .i64 d.a, .int .i64 d.b, .int .i64 d.e, .slice d.ao d.len d.cap, .int .i64 d.n, .int .u64 d.v, .int .i64 d.fr, .int .i64 d.to]), (.agg #[.int .i64 b.who, .int .i64 b.place, .int .i64 b.op, .int .i64 b.fl, .int .i64 b.a, .int .i64 b.b, .int .i64 b.e, .slice b.ao b.len b.cap, .int .i64 b.n, .int .u64 b.v, .int .i64 b.fr, .int .i64 b.to]), .int .i64 e] w fun e w' => e = .returned (.bool true) ∧ Below w.heap.size w w' := by
  have GA : Hid ((ndA a).Ok ∧ RdK w (ndA a).ao (ndA a).len (ndA a).cap (ndA a).l) := by
    obtain ⟨e1, e2, e3, e4⟩ := nearD_packets a
    obtain ⟨h0, h1, h2, h3, h4, h5, h6, h7, h8, h9, h10⟩ := nearD_ok ga.1
    exact ⟨⟨h0, h1, by unfold I64; simp [ndA], h3, h4, h5, h6, h7, h8, h9, h10⟩, by simp only [ndA]; rw [e1, e2, e3, e4]; exact ga.2⟩
  have GB : Hid ((ndB b).Ok ∧ RdK w (ndB b).ao (ndB b).len (ndB b).cap (ndB b).l) := by
    obtain ⟨e1, e2, e3, e4⟩ := nearD_packets b
    obtain ⟨h0, h1, h2, h3, h4, h5, h6, h7, h8, h9, h10⟩ := nearD_ok gb.1
    exact ⟨⟨h0, h1, by unfold I64; simp [ndB], h3, h4, h5, h6, h7, h8, h9, h10⟩, by simp only [ndB]; rw [e1, e2, e3, e4]; exact gb.2⟩
  have GD : Hid ((ndD d e).Ok ∧ RdK w (ndD d e).ao (ndD d e).len (ndD d e).cap (ndD d e).l) := by
    obtain ⟨h0, h1, h2, h3, h4, h5, h6, h7, h8, h9, h10⟩ := gd.1
    exact ⟨⟨h0, h1, by unfold I64; simp [ndD], h3, h4, h5, by unfold I64; simp only [ndD, errB]; (repeat' split) <;> omega, h7, h8, h9, h10⟩, gd.2⟩
  have SA : Hid ((ndA a).len ≤ 1048576) := by unfold Hid; simp only [ndA]; rw [(nearD_packets a).2.1]; exact sa
  have SB : Hid ((ndB b).len ≤ 1048576) := by unfold Hid; simp only [ndB]; rw [(nearD_packets b).2.1]; exact sb
  have SD := Lib.hid sd
  clear ga gb gd sa sb sd
  go_enter Try.func6, Try.ntmps6
  go_upto_region 1 with fail
  have hB := Bx.start w a d b
  generalize ((w.alloc (.cells #[.int .i64 a.who, .int .i64 a.place, .int .i64 a.op, .int .i64 a.fl, .int .i64 a.a, .int .i64 a.b, .int .i64 a.e, .slice a.ao a.len a.cap, .int .i64 a.n, .int .u64 a.v, .int .i64 a.fr, .int .i64 a.to] 31)).alloc (.cells #[.int .i64 d.who, .int .i64 d.place, .int .i64 d.op, .int .i64 d.fl, .int .i64 d.a, .int .i64 d.b, .int .i64 d.e, .slice d.ao d.len d.cap, .int .i64 d.n, .int .u64 d.v, .int .i64 d.fr, .int .i64 d.to] 31)).alloc (.cells #[.int .i64 b.who, .int .i64 b.place, .int .i64 b.op, .int .i64 b.fl, .int .i64 b.a, .int .i64 b.b, .int .i64 b.e, .slice b.ao b.len b.cap, .int .i64 b.n, .int .u64 b.v, .int .i64 b.fr, .int .i64 b.to] 31) = W at *
  have eA : Hid (w.heap.size + 1 + 1 = w.heap.size + 1 + 1) := rfl
  generalize hA : w.heap.size = A at *
  go_cut [] from 9 to 180 (fun wx => Bx w wx A (nearD a) d (nearD b))
  case first =>
    as_aux_lemma =>
        refine wp_region_any (by kernel_rfl) ?_
        change wpAny _ _ _ _ _ _ _ (World.drew _)
        have HB := Lib.hid hB.drew
        clear hB
        refine wpAny_ready (rs := [0, 2]) (by kernel_rfl) (by simp) ?_
        refine AllReady.cons rfl (fun K hK => ?_) (AllReady.cons rfl (fun K hK => ?_) AllReady.nil)
        · refine step_load_mid rfl _ _ rfl (A) 0 rfl a.cells _ HB.out.a.range Try.underlying31 rfl (by kernel_rfl) ?_
          refine hK _ _ ?_
          clear hK K
          try simp only [List.getElem_toArray, List.getElem_cons_succ, List.getElem_cons_zero, Act.put, List.setIfInBounds_toArray, List.set_cons_zero, List.set_cons_succ]
          simp only [DoneS.cells]
          refine wpAny_ready (rs := [1, 2]) (by kernel_rfl) (by simp) ?_
          refine AllReady.cons rfl (fun K hK => ?_) (AllReady.cons rfl (fun K hK => ?_) AllReady.nil)
          · go_simp
            (go_at_call 20; refine (near_any a _).mono ?_; rintro e w' ⟨rfl, hb'⟩; go_wp2_with fail)
            have HB0 := HB
            clear HB
            have HB := Lib.hid (HB0.out.below hb')
            clear HB0 hb'
            try simp only [List.getElem_toArray, List.getElem_cons_succ, List.getElem_cons_zero, Act.put, List.setIfInBounds_toArray, List.set_cons_zero, List.set_cons_succ]
            refine wpAny_ready (rs := [2]) (by kernel_rfl) (by simp) ?_
            refine AllReady.cons rfl (fun K hK => ?_) AllReady.nil
            refine step_load_mid rfl _ _ rfl (A + 2) 0 rfl b.cells _ HB.out.b.range Try.underlying31 rfl (by kernel_rfl) ?_
            refine hK _ _ ?_
            clear hK K
            try simp only [List.getElem_toArray, List.getElem_cons_succ, List.getElem_cons_zero, Act.put, List.setIfInBounds_toArray, List.set_cons_zero, List.set_cons_succ]
            simp only [DoneS.cells]
            refine wpAny_ready (rs := [3]) (by kernel_rfl) (by simp) ?_
            refine AllReady.cons rfl (fun K hK => ?_) AllReady.nil
            go_simp
            (go_at_call 20; refine (near_any b _).mono ?_; rintro e w' ⟨rfl, hb'⟩; go_wp2_with fail)
            have HB0 := HB
            clear HB
            have HB := Lib.hid (HB0.out.below hb')
            clear HB0 hb'
            try simp only [List.getElem_toArray, List.getElem_cons_succ, List.getElem_cons_zero, Act.put, List.setIfInBounds_toArray, List.set_cons_zero, List.set_cons_succ]
            refine wpAny_ready (rs := [4]) (by kernel_rfl) (by simp) ?_
            refine AllReady.cons rfl (fun K hK => ?_) AllReady.nil
            refine step_store_mid rfl _ _ _ rfl (A) 0 #[.int .i64 (nearD a).who, .int .i64 (nearD a).place, .int .i64 (nearD a).op, .int .i64 (nearD a).fl, .int .i64 (nearD a).a, .int .i64 (nearD a).b, .int .i64 (nearD a).e, .slice (nearD a).ao (nearD a).len (nearD a).cap, .int .i64 (nearD a).n, .int .u64 (nearD a).v, .int .i64 (nearD a).fr, .int .i64 (nearD a).to] rfl rfl HB.out.a.there (by kernel_rfl) (by simp [Value.oneCell']) ?_
            have HB0 := HB
            clear HB
            have HB : Hid (Bx w (w'.setCells (A) 0 (#[.int .i64 (nearD a).who, .int .i64 (nearD a).place, .int .i64 (nearD a).op, .int .i64 (nearD a).fl, .int .i64 (nearD a).a, .int .i64 (nearD a).b, .int .i64 (nearD a).e, .slice (nearD a).ao (nearD a).len (nearD a).cap, .int .i64 (nearD a).n, .int .u64 (nearD a).v, .int .i64 (nearD a).fr, .int .i64 (nearD a).to] : Array Value).toList) A (nearD a) d b) := HB0.out.allA (nearD a)
            clear HB0
            refine hK _ _ ?_
            clear hK K
            generalize w'.setCells (A) 0 (#[.int .i64 (nearD a).who, .int .i64 (nearD a).place, .int .i64 (nearD a).op, .int .i64 (nearD a).fl, .int .i64 (nearD a).a, .int .i64 (nearD a).b, .int .i64 (nearD a).e, .slice (nearD a).ao (nearD a).len (nearD a).cap, .int .i64 (nearD a).n, .int .u64 (nearD a).v, .int .i64 (nearD a).fr, .int .i64 (nearD a).to] : Array Value).toList = W2 at *
            try simp only [List.getElem_toArray, List.getElem_cons_succ, List.getElem_cons_zero, Act.put, List.setIfInBounds_toArray, List.set_cons_zero, List.set_cons_succ]
            refine wpAny_ready (rs := [5]) (by kernel_rfl) (by simp) ?_
            refine AllReady.cons rfl (fun K hK => ?_) AllReady.nil
            refine step_store_mid rfl _ _ _ rfl (A + 2) 0 #[.int .i64 (nearD b).who, .int .i64 (nearD b).place, .int .i64 (nearD b).op, .int .i64 (nearD b).fl, .int .i64 (nearD b).a, .int .i64 (nearD b).b, .int .i64 (nearD b).e, .slice (nearD b).ao (nearD b).len (nearD b).cap, .int .i64 (nearD b).n, .int .u64 (nearD b).v, .int .i64 (nearD b).fr, .int .i64 (nearD b).to] rfl rfl HB.out.b.there (by kernel_rfl) (by simp [Value.oneCell']) ?_
            have HB0 := HB
            clear HB
            have HB : Hid (Bx w (W2.setCells (A + 2) 0 (#[.int .i64 (nearD b).who, .int .i64 (nearD b).place, .int .i64 (nearD b).op, .int .i64 (nearD b).fl, .int .i64 (nearD b).a, .int .i64 (nearD b).b, .int .i64 (nearD b).e, .slice (nearD b).ao (nearD b).len (nearD b).cap, .int .i64 (nearD b).n, .int .u64 (nearD b).v, .int .i64 (nearD b).fr, .int .i64 (nearD b).to] : Array Value).toList) A (nearD a) d (nearD b)) := HB0.out.allB (nearD b)
            clear HB0
            refine hK _ _ ?_
            clear hK K
            generalize W2.setCells (A + 2) 0 (#[.int .i64 (nearD b).who, .int .i64 (nearD b).place, .int .i64 (nearD b).op, .int .i64 (nearD b).fl, .int .i64 (nearD b).a, .int .i64 (nearD b).b, .int .i64 (nearD b).e, .slice (nearD b).ao (nearD b).len (nearD b).cap, .int .i64 (nearD b).n, .int .u64 (nearD b).v, .int .i64 (nearD b).fr, .int .i64 (nearD b).to] : Array Value).toList = W3 at *
            try simp only [List.getElem_toArray, List.getElem_cons_succ, List.getElem_cons_zero, Act.put, List.setIfInBounds_toArray, List.set_cons_zero, List.set_cons_succ]
            refine wpAny_done (by kernel_rfl) ?_ _
            go_wp2
            go_meet
            exact HB.out
          · refine step_load_mid rfl _ _ rfl (A + 2) 0 rfl b.cells _ HB.out.b.range Try.underlying31 rfl (by kernel_rfl) ?_
            refine hK _ _ ?_
            clear hK K
            try simp only [List.getElem_toArray, List.getElem_cons_succ, List.getElem_cons_zero, Act.put, List.setIfInBounds_toArray, List.set_cons_zero, List.set_cons_succ]
            simp only [DoneS.cells]
            refine wpAny_ready (rs := [1]) (by kernel_rfl) (by simp) ?_
            refine AllReady.cons rfl (fun K hK => ?_) AllReady.nil
            go_simp
            (go_at_call 20; refine (near_any a _).mono ?_; rintro e w' ⟨rfl, hb'⟩; go_wp2_with fail)
            have HB0 := HB
            clear HB
            have HB := Lib.hid (HB0.out.below hb')
            clear HB0 hb'
            try simp only [List.getElem_toArray, List.getElem_cons_succ, List.getElem_cons_zero, Act.put, List.setIfInBounds_toArray, List.set_cons_zero, List.set_cons_succ]
            refine wpAny_ready (rs := [3]) (by kernel_rfl) (by simp) ?_
            refine AllReady.cons rfl (fun K hK => ?_) AllReady.nil
            go_simp
            (go_at_call 20; refine (near_any b _).mono ?_; rintro e w' ⟨rfl, hb'⟩; go_wp2_with fail)
            have HB0 := HB
            clear HB
            have HB := Lib.hid (HB0.out.below hb')
            clear HB0 hb'
            try simp only [List.getElem_toArray, List.getElem_cons_succ, List.getElem_cons_zero, Act.put, List.setIfInBounds_toArray, List.set_cons_zero, List.set_cons_succ]
            refine wpAny_ready (rs := [4]) (by kernel_rfl) (by simp) ?_
            refine AllReady.cons rfl (fun K hK => ?_) AllReady.nil
            refine step_store_mid rfl _ _ _ rfl (A) 0 #[.int .i64 (nearD a).who, .int .i64 (nearD a).place, .int .i64 (nearD a).op, .int .i64 (nearD a).fl, .int .i64 (nearD a).a, .int .i64 (nearD a).b, .int .i64 (nearD a).e, .slice (nearD a).ao (nearD a).len (nearD a).cap, .int .i64 (nearD a).n, .int .u64 (nearD a).v, .int .i64 (nearD a).fr, .int .i64 (nearD a).to] rfl rfl HB.out.a.there (by kernel_rfl) (by simp [Value.oneCell']) ?_
            have HB0 := HB
            clear HB
            have HB : Hid (Bx w (w'.setCells (A) 0 (#[.int .i64 (nearD a).who, .int .i64 (nearD a).place, .int .i64 (nearD a).op, .int .i64 (nearD a).fl, .int .i64 (nearD a).a, .int .i64 (nearD a).b, .int .i64 (nearD a).e, .slice (nearD a).ao (nearD a).len (nearD a).cap, .int .i64 (nearD a).n, .int .u64 (nearD a).v, .int .i64 (nearD a).fr, .int .i64 (nearD a).to] : Array Value).toList) A (nearD a) d b) := HB0.out.allA (nearD a)
            clear HB0
            refine hK _ _ ?_
            clear hK K
            generalize w'.setCells (A) 0 (#[.int .i64 (nearD a).who, .int .i64 (nearD a).place, .int .i64 (nearD a).op, .int .i64 (nearD a).fl, .int .i64 (nearD a).a, .int .i64 (nearD a).b, .int .i64 (nearD a).e, .slice (nearD a).ao (nearD a).len (nearD a).cap, .int .i64 (nearD a).n, .int .u64 (nearD a).v, .int .i64 (nearD a).fr, .int .i64 (nearD a).to] : Array Value).toList = W2 at *
            try simp only [List.getElem_toArray, List.getElem_cons_succ, List.getElem_cons_zero, Act.put, List.setIfInBounds_toArray, List.set_cons_zero, List.set_cons_succ]
            refine wpAny_ready (rs := [5]) (by kernel_rfl) (by simp) ?_
            refine AllReady.cons rfl (fun K hK => ?_) AllReady.nil
            refine step_store_mid rfl _ _ _ rfl (A + 2) 0 #[.int .i64 (nearD b).who, .int .i64 (nearD b).place, .int .i64 (nearD b).op, .int .i64 (nearD b).fl, .int .i64 (nearD b).a, .int .i64 (nearD b).b, .int .i64 (nearD b).e, .slice (nearD b).ao (nearD b).len (nearD b).cap, .int .i64 (nearD b).n, .int .u64 (nearD b).v, .int .i64 (nearD b).fr, .int .i64 (nearD b).to] rfl rfl HB.out.b.there (by kernel_rfl) (by simp [Value.oneCell']) ?_
            have HB0 := HB
            clear HB
            have HB : Hid (Bx w (W2.setCells (A + 2) 0 (#[.int .i64 (nearD b).who, .int .i64 (nearD b).place, .int .i64 (nearD b).op, .int .i64 (nearD b).fl, .int .i64 (nearD b).a, .int .i64 (nearD b).b, .int .i64 (nearD b).e, .slice (nearD b).ao (nearD b).len (nearD b).cap, .int .i64 (nearD b).n, .int .u64 (nearD b).v, .int .i64 (nearD b).fr, .int .i64 (nearD b).to] : Array Value).toList) A (nearD a) d (nearD b)) := HB0.out.allB (nearD b)
            clear HB0
            refine hK _ _ ?_
            clear hK K
            generalize W2.setCells (A + 2) 0 (#[.int .i64 (nearD b).who, .int .i64 (nearD b).place, .int .i64 (nearD b).op, .int .i64 (nearD b).fl, .int .i64 (nearD b).a, .int .i64 (nearD b).b, .int .i64 (nearD b).e, .slice (nearD b).ao (nearD b).len (nearD b).cap, .int .i64 (nearD b).n, .int .u64 (nearD b).v, .int .i64 (nearD b).fr, .int .i64 (nearD b).to] : Array Value).toList = W3 at *
            try simp only [List.getElem_toArray, List.getElem_cons_succ, List.getElem_cons_zero, Act.put, List.setIfInBounds_toArray, List.set_cons_zero, List.set_cons_succ]
            refine wpAny_done (by kernel_rfl) ?_ _
            go_wp2
            go_meet
            exact HB.out
        · refine step_load_mid rfl _ _ rfl (A + 2) 0 rfl b.cells _ HB.out.b.range Try.underlying31 rfl (by kernel_rfl) ?_
          refine hK _ _ ?_
          clear hK K
          try simp only [List.getElem_toArray, List.getElem_cons_succ, List.getElem_cons_zero, Act.put, List.setIfInBounds_toArray, List.set_cons_zero, List.set_cons_succ]
          simp only [DoneS.cells]
          refine wpAny_ready (rs := [0]) (by kernel_rfl) (by simp) ?_
          refine AllReady.cons rfl (fun K hK => ?_) AllReady.nil
          refine step_load_mid rfl _ _ rfl (A) 0 rfl a.cells _ HB.out.a.range Try.underlying31 rfl (by kernel_rfl) ?_
          refine hK _ _ ?_
          clear hK K
          try simp only [List.getElem_toArray, List.getElem_cons_succ, List.getElem_cons_zero, Act.put, List.setIfInBounds_toArray, List.set_cons_zero, List.set_cons_succ]
          simp only [DoneS.cells]
          refine wpAny_ready (rs := [1]) (by kernel_rfl) (by simp) ?_
          refine AllReady.cons rfl (fun K hK => ?_) AllReady.nil
          go_simp
          (go_at_call 20; refine (near_any a _).mono ?_; rintro e w' ⟨rfl, hb'⟩; go_wp2_with fail)
          have HB0 := HB
          clear HB
          have HB := Lib.hid (HB0.out.below hb')
          clear HB0 hb'
          try simp only [List.getElem_toArray, List.getElem_cons_succ, List.getElem_cons_zero, Act.put, List.setIfInBounds_toArray, List.set_cons_zero, List.set_cons_succ]
          refine wpAny_ready (rs := [3]) (by kernel_rfl) (by simp) ?_
          refine AllReady.cons rfl (fun K hK => ?_) AllReady.nil
          go_simp
          (go_at_call 20; refine (near_any b _).mono ?_; rintro e w' ⟨rfl, hb'⟩; go_wp2_with fail)
          have HB0 := HB
          clear HB
          have HB := Lib.hid (HB0.out.below hb')
          clear HB0 hb'
          try simp only [List.getElem_toArray, List.getElem_cons_succ, List.getElem_cons_zero, Act.put, List.setIfInBounds_toArray, List.set_cons_zero, List.set_cons_succ]
          refine wpAny_ready (rs := [4]) (by kernel_rfl) (by simp) ?_
          refine AllReady.cons rfl (fun K hK => ?_) AllReady.nil
          refine step_store_mid rfl _ _ _ rfl (A) 0 #[.int .i64 (nearD a).who, .int .i64 (nearD a).place, .int .i64 (nearD a).op, .int .i64 (nearD a).fl, .int .i64 (nearD a).a, .int .i64 (nearD a).b, .int .i64 (nearD a).e, .slice (nearD a).ao (nearD a).len (nearD a).cap, .int .i64 (nearD a).n, .int .u64 (nearD a).v, .int .i64 (nearD a).fr, .int .i64 (nearD a).to] rfl rfl HB.out.a.there (by kernel_rfl) (by simp [Value.oneCell']) ?_
          have HB0 := HB
          clear HB
          have HB : Hid (Bx w (w'.setCells (A) 0 (#[.int .i64 (nearD a).who, .int .i64 (nearD a).place, .int .i64 (nearD a).op, .int .i64 (nearD a).fl, .int .i64 (nearD a).a, .int .i64 (nearD a).b, .int .i64 (nearD a).e, .slice (nearD a).ao (nearD a).len (nearD a).cap, .int .i64 (nearD a).n, .int .u64 (nearD a).v, .int .i64 (nearD a).fr, .int .i64 (nearD a).to] : Array Value).toList) A (nearD a) d b) := HB0.out.allA (nearD a)
          clear HB0
          refine hK _ _ ?_
          clear hK K
          generalize w'.setCells (A) 0 (#[.int .i64 (nearD a).who, .int .i64 (nearD a).place, .int .i64 (nearD a).op, .int .i64 (nearD a).fl, .int .i64 (nearD a).a, .int .i64 (nearD a).b, .int .i64 (nearD a).e, .slice (nearD a).ao (nearD a).len (nearD a).cap, .int .i64 (nearD a).n, .int .u64 (nearD a).v, .int .i64 (nearD a).fr, .int .i64 (nearD a).to] : Array Value).toList = W2 at *
          try simp only [List.getElem_toArray, List.getElem_cons_succ, List.getElem_cons_zero, Act.put, List.setIfInBounds_toArray, List.set_cons_zero, List.set_cons_succ]
          refine wpAny_ready (rs := [5]) (by kernel_rfl) (by simp) ?_
          refine AllReady.cons rfl (fun K hK => ?_) AllReady.nil
          refine step_store_mid rfl _ _ _ rfl (A + 2) 0 #[.int .i64 (nearD b).who, .int .i64 (nearD b).place, .int .i64 (nearD b).op, .int .i64 (nearD b).fl, .int .i64 (nearD b).a, .int .i64 (nearD b).b, .int .i64 (nearD b).e, .slice (nearD b).ao (nearD b).len (nearD b).cap, .int .i64 (nearD b).n, .int .u64 (nearD b).v, .int .i64 (nearD b).fr, .int .i64 (nearD b).to] rfl rfl HB.out.b.there (by kernel_rfl) (by simp [Value.oneCell']) ?_
          have HB0 := HB
          clear HB
          have HB : Hid (Bx w (W2.setCells (A + 2) 0 (#[.int .i64 (nearD b).who, .int .i64 (nearD b).place, .int .i64 (nearD b).op, .int .i64 (nearD b).fl, .int .i64 (nearD b).a, .int .i64 (nearD b).b, .int .i64 (nearD b).e, .slice (nearD b).ao (nearD b).len (nearD b).cap, .int .i64 (nearD b).n, .int .u64 (nearD b).v, .int .i64 (nearD b).fr, .int .i64 (nearD b).to] : Array Value).toList) A (nearD a) d (nearD b)) := HB0.out.allB (nearD b)
          clear HB0
          refine hK _ _ ?_
          clear hK K
          generalize W2.setCells (A + 2) 0 (#[.int .i64 (nearD b).who, .int .i64 (nearD b).place, .int .i64 (nearD b).op, .int .i64 (nearD b).fl, .int .i64 (nearD b).a, .int .i64 (nearD b).b, .int .i64 (nearD b).e, .slice (nearD b).ao (nearD b).len (nearD b).cap, .int .i64 (nearD b).n, .int .u64 (nearD b).v, .int .i64 (nearD b).fr, .int .i64 (nearD b).to] : Array Value).toList = W3 at *
          try simp only [List.getElem_toArray, List.getElem_cons_succ, List.getElem_cons_zero, Act.put, List.setIfInBounds_toArray, List.set_cons_zero, List.set_cons_succ]
          refine wpAny_done (by kernel_rfl) ?_ _
          go_wp2
          go_meet
          exact HB.out
  case rest =>
   have H1 := hcut
   clear hcut hB
   obtain ⟨-, -, a2, -, -, -, -, -, -, -, -, -⟩ := H1.a.cells
   obtain ⟨-, -, d2, -, -, -, -, -, -, -, -, -⟩ := H1.d.cells
   have hb2 : wc.cell? ⟨A + 1 + 1, 2, none⟩ = some (.int .i64 (nearD b).op) := H1.b.cells.2.2.1
   have za := H1.a.frozen 2
   have zd := H1.d.frozen 2
   have zb : wc.frozen? ⟨A + 1 + 1, 2, none⟩ = false := H1.b.frozen 2
   have H2 : Bx w (((wc.setCell ⟨A, 2, none⟩ (.int .i64 3)).setCell ⟨A + 1 + 1, 2, none⟩ (.int .i64 6)).setCell ⟨A + 1, 2, none⟩ (.int .i64 5)) A (ndA a) { d with op := 5 } (ndB b) :=
     ((H1.putA (i := 2) (u := .int .i64 3) (z := ndA a) rfl).putB (i := 2) (u := .int .i64 6) (z := ndB b) rfl).putD (i := 2) (u := .int .i64 5) (z := { d with op := 5 }) rfl
   clear H1
   go_upto_region 4 with fail
   generalize ((wc.setCell ⟨A, 2, none⟩ (.int .i64 3)).setCell ⟨A + 1 + 1, 2, none⟩ (.int .i64 6)).setCell ⟨A + 1, 2, none⟩ (.int .i64 5) = W1 at *
   clear a2 d2 hb2 za zd zb
   have HD : Hid (ndD d e = { d with op := 5, e := errB (modZ e 3) }) := rfl
   go_cut [] from 9 to 180 (fun wx => Bx w wx A (ndA a) (ndD d e) (ndB b))
   case first =>
     as_aux_lemma =>
         have m3 := modZ_bd e (n := 3) (by omega)
         obtain ⟨M, hM⟩ : ∃ M, modZ e 3 = M := ⟨_, rfl⟩
         rw [hM] at m3
         obtain ⟨-, -, -, -, -, -, d6, -, -, -, -, -⟩ := H2.d.cells
         have zd := H2.d.frozen 6
         have dl := H2.d.lt
         have H2h := Lib.hid H2
         clear H2
         rcases (show M = 0 ∨ M = 1 ∨ M = 2 by omega) with rfl | rfl | rfl
         all_goals
           have HM := Lib.hid hM
           clear hM m3
           go_wp2_with fail
           refine (mod_any e 3 (by omega) (by omega) _).mono ?_
           rw [HM.out]
           rintro e w' ⟨rfl, rfl⟩
           go_wp2
           go_meet
           have h3 := H2h.out.putD (i := 6) (z := ndD d _) (by rw [HD.out, HM.out]; rfl)
           exact h3.below (below1 _ _)
   case rest =>
    have H3 := Lib.hid hcut
    clear hcut H2
    generalize wc = W2 at *
    obtain ⟨a0, a1, a2, a3, a4, a5, a6, a7, a8, a9, a10, a11⟩ := H3.out.a.cells
    obtain ⟨d0, d1, d2, d3, d4, d5, d6, d7, d8, d9, d10, d11⟩ := H3.out.d.cells
    obtain ⟨b0, b1, b2, b3, b4, b5, b6, b7, b8, b9, b10, b11⟩ : W2.cell? ⟨A + 1 + 1, 0, none⟩ = some (.int .i64 (ndB b).who) ∧ W2.cell? ⟨A + 1 + 1, 1, none⟩ = some (.int .i64 (ndB b).place) ∧ W2.cell? ⟨A + 1 + 1, 2, none⟩ = some (.int .i64 (ndB b).op) ∧ W2.cell? ⟨A + 1 + 1, 3, none⟩ = some (.int .i64 (ndB b).fl) ∧ W2.cell? ⟨A + 1 + 1, 4, none⟩ = some (.int .i64 (ndB b).a) ∧ W2.cell? ⟨A + 1 + 1, 5, none⟩ = some (.int .i64 (ndB b).b) ∧ W2.cell? ⟨A + 1 + 1, 6, none⟩ = some (.int .i64 (ndB b).e) ∧ W2.cell? ⟨A + 1 + 1, 7, none⟩ = some (.slice (ndB b).ao (ndB b).len (ndB b).cap) ∧ W2.cell? ⟨A + 1 + 1, 8, none⟩ = some (.int .i64 (ndB b).n) ∧ W2.cell? ⟨A + 1 + 1, 9, none⟩ = some (.int .u64 (ndB b).v) ∧ W2.cell? ⟨A + 1 + 1, 10, none⟩ = some (.int .i64 (ndB b).fr) ∧ W2.cell? ⟨A + 1 + 1, 11, none⟩ = some (.int .i64 (ndB b).to) := H3.out.b.cells
    have hp3 := Lib.hid (partsD_three a d b e)
    have hlo : (partD (ndD d e)).length ≤ 1048577 := by
      have h1 := partD_length (ndD d e)
      have h2 := GD.out.2.len
      have h3 := SD.out
      have h4 : (ndD d e).len = d.len := rfl
      omega
    have HLO := Lib.hid hlo
    clear hlo HD
    have hAd : (ndD d e).len = d.len := rfl
    have HAD := Lib.hid hAd
    clear hAd
    generalize ndA a = xa at *
    generalize hxd : ndD d e = xd at *
    generalize ndB b = xb at *
    go_wp2_with fail
    have RR := lit_rdD W2 [xa, xd, xb] _ 3 rfl rfl (by omega) (by
      intro x hx
      simp only [List.mem_cons, List.not_mem_nil, or_false] at hx
      rcases hx with rfl | rfl | rfl
      · exact ⟨GA.out.1, GA.out.2.below H3.out.bel⟩
      · exact ⟨GD.out.1, GD.out.2.below H3.out.bel⟩
      · exact ⟨GB.out.1, GB.out.2.below H3.out.bel⟩)
    refine (histParts_any _ _ _ [xa, xd, xb] _ RR (by omega) (by
      intro x hx
      simp only [List.mem_cons, List.not_mem_nil, or_false] at hx
      rcases hx with rfl | rfl | rfl
      · exact SA.out
      · rw [HAD.out]; exact SD.out
      · exact SB.out)).mono ?_
    rintro e4 w4 ⟨v, lp, rfl, hmap, hown, hb4⟩
    have H4 := Lib.hid ((H3.out.below (below1 _ _)).below hb4)
    rw [hp3.out] at hmap
    obtain ⟨hl, hp0, hpn, hpm⟩ := parts3 hmap
    obtain ⟨q, hq⟩ : ∃ q, (partD xd).length = q := ⟨_, rfl⟩
    rw [hq] at hl hpn hpm
    have HLO2 : q ≤ 1048577 := by rw [← hq]; exact HLO.out
    obtain ⟨pp, ppc, rfl⟩ := hown.slice
    have hrd := hown.rd
    obtain ⟨g, hpp, _, hgl, _⟩ := owns_at hown.1 (recs_at doneS_cells lp 0 _ (nthD_some (by omega)) 0 _ rfl)
    subst hpp
    have hpc : ∀ w', Below w4.heap.size w4 w' → ∀ k, k < q + 2 → ∀ i u, (nthD lp k).cells[i]? = some u → w'.cell? ⟨g, k * 12 + i, none⟩ = some u := by
      intro w' hb k hk i u hu
      obtain ⟨b', off, e', _, hc⟩ := hrd.cells (k := k) (by rw [hl]; exact hk)
      simp only [Option.some.injEq, Addr.mk.injEq, and_true] at e'
      obtain ⟨rfl, rfl⟩ := e'
      have := hc w' hb i u hu
      rw [Nat.zero_add] at this
      exact this
    rw [hl]
    have PC := Lib.hid hpc
    have P0 := Lib.hid hp0
    have PN := Lib.hid hpn
    have PM := Lib.hid hpm
    have PQ := Lib.hid hq
    have RDP := Lib.hid (show ∀ k, k < q + 2 → (nthD lp k).Ok ∧ RdK w4 (nthD lp k).ao (nthD lp k).len (nthD lp k).cap (nthD lp k).l from fun k hk => hrd.nth (by rw [hl]; exact hk))
    have hgW := hgl
    clear a0 a1 a2 a3 a4 a5 a6 a7 a8 a9 a10 a11 d0 d1 d2 d3 d4 d5 d6 d7 d8 d9 d10 d11 b0 b1 b2 b3 b4 b5 b6 b7 b8 b9 b10 b11 hpc hp0 hpn hpm hq hrd hown hmap hl RR hb4 H3
    obtain ⟨d0, d1, d2, d3, d4, d5, d6, d7, d8, d9, d10, d11⟩ := H4.out.d.cells
    have HOP : Hid (xd.op = 5) := by rw [← hxd]; rfl
    have HER : Hid (xd.e = 0 ∨ xd.e = 10 ∨ xd.e = 1) := by
      unfold Hid; rw [← hxd]; simp only [ndD, errB]; (repeat' split) <;> simp
    have HLL : Hid (xd.l.length = xd.len) := GD.out.2.len
    have hlen6 : xd.len ≤ 1048576 := by rw [HAD.out]; exact SD.out
    have dl := H4.out.d.lt
    clear hxd
    go_upto_block 0 with fail
    go_cut [10] from 13 to 180 (fun s10 wx => s10 = .int .i64 q ∧ Below w4.heap.size w4 wx)
    case first =>
      as_aux_lemma =>
          by_cases hC : xd.to = -1 ∨ xd.e = 1
          · have hP : partD xd = [xd.bare] := by
              have hb : ¬ isBat xd = true := by
                unfold isBat endedB
                simp only [Bool.and_eq_true, Bool.or_eq_true, decide_eq_true_eq]
                omega
              unfold partD; rw [if_neg hb]
            have hq1 : q = 1 := by rw [← PQ.out, hP]; rfl
            subst hq1
            have x1 : (nthD lp 1).bare = xd.bare := by rw [PM.out 1 (by omega) (by omega), hP]; rfl
            have Q := Lib.hid fun w' (hs : Below w4.heap.size w4 w') => sameDone_bare (nthD lp 1) xd w' x1 ((RDP.out 1 (by omega)).2.below hs) (GD.out.2.below (H4.out.bel.trans (hs.mono H4.out.bel.size)))
            have pf := fun i u hu => PC.out w4 (Below.refl _ _) 1 (by omega) i u hu
            have c0 : w4.cell? ⟨g, 12, none⟩ = _ := pf 0 _ rfl
            have c1 : w4.cell? ⟨g, 13, none⟩ = _ := pf 1 _ rfl
            have c2 : w4.cell? ⟨g, 14, none⟩ = _ := pf 2 _ rfl
            have c3 : w4.cell? ⟨g, 15, none⟩ = _ := pf 3 _ rfl
            have c4 : w4.cell? ⟨g, 16, none⟩ = _ := pf 4 _ rfl
            have c5 : w4.cell? ⟨g, 17, none⟩ = _ := pf 5 _ rfl
            have c6 : w4.cell? ⟨g, 18, none⟩ = _ := pf 6 _ rfl
            have c7 : w4.cell? ⟨g, 19, none⟩ = _ := pf 7 _ rfl
            have c8 : w4.cell? ⟨g, 20, none⟩ = _ := pf 8 _ rfl
            have c9 : w4.cell? ⟨g, 21, none⟩ = _ := pf 9 _ rfl
            have c10 : w4.cell? ⟨g, 22, none⟩ = _ := pf 10 _ rfl
            have c11 : w4.cell? ⟨g, 23, none⟩ = _ := pf 11 _ rfl
            clear pf x1 hP
            rcases (show xd.to = -1 ∨ (xd.to ≠ -1 ∧ xd.e = 1) by omega) with ht | ⟨ht, he⟩
            · have e1 : (xd.to == -1) = true := by simp [ht]
              clear ht hC
              go_upto_region 9 with fail
              go_region_held3 (fun w' => Below w4.heap.size w4 w' ∧ (∀ b o, b < w4.heap.size → w'.cell? ⟨b, o, none⟩ = w4.cell? ⟨b, o, none⟩)) (first | exact hs_refl ((Below.refl _ _).drew) | assumption | exact hs_step (by assumption) (by assumption))
                (first | (go_at_call 26; (with_reducible refine (Q.out _ (And.left (by assumption))).mono ?_); rintro e w' ⟨rfl, hb'⟩))
              have hSz := ‹Below w4.heap.size w4 _ ∧ _›.1
              go_wp2
              go_meet
              exact ⟨rfl, hSz⟩
            · have e1 : (xd.to == -1) = false := by simpa using ht
              have e2 : (xd.e == 1) = true := by simp [he]
              clear ht he hC
              go_upto_region 9 with fail
              go_region_held3 (fun w' => Below w4.heap.size w4 w' ∧ (∀ b o, b < w4.heap.size → w'.cell? ⟨b, o, none⟩ = w4.cell? ⟨b, o, none⟩)) (first | exact hs_refl ((Below.refl _ _).drew) | assumption | exact hs_step (by assumption) (by assumption))
                (first | (go_at_call 26; (with_reducible refine (Q.out _ (And.left (by assumption))).mono ?_); rintro e w' ⟨rfl, hb'⟩))
              have hSz := ‹Below w4.heap.size w4 _ ∧ _›.1
              go_wp2
              go_meet
              exact ⟨rfl, hSz⟩
          · have hbt : isBat xd = true := by
              have h1 := HOP.out
              have h2 := HER.out
              unfold isBat endedB
              simp only [Bool.and_eq_true, Bool.or_eq_true, decide_eq_true_eq]
              omega
            have e1 : (xd.to == -1) = false := by simp; omega
            have e2 : (xd.e == 1) = false := by simp; omega
            by_cases h10 : xd.e = 10
            · have e3 : (xd.e == 10) = true := by simp [h10]
              have hP : partD xd = packD xd xd.l ++ [oneD xd 10 0 0 none 0 0 []] := by unfold partD emptyD; rw [if_pos hbt, if_pos h10]
              have hq1 : q = xd.len + 1 := by rw [← PQ.out, hP, ← HLL.out]; simp [packD]
              have xq := PM.out q (by omega) (Nat.le_refl _)
              rw [hP, show q - 1 = xd.l.length by rw [HLL.out]; omega, packD_end] at xq
              have xe := one_of_bare xq
              obtain ⟨_, xr⟩ := RDP.out q (by omega)
              have xl0 : (nthD lp q).len = 0 := by rw [← xr.len, xe]; rfl
              have pf := fun i u hu => PC.out w4 (Below.refl _ _) q (by omega) i u hu
              rw [xe] at pf
              have c6 : w4.cell? ⟨g, q * 12 + 6, none⟩ = some (.int .i64 10) := pf 6 _ rfl
              have c7 : w4.cell? ⟨g, q * 12 + 7, none⟩ = some (.slice (nthD lp q).ao (nthD lp q).len (nthD lp q).cap) := pf 7 _ rfl
              have c8 : w4.cell? ⟨g, q * 12 + 8, none⟩ = some (.int .i64 0) := pf 8 _ rfl
              have c9 : w4.cell? ⟨g, q * 12 + 9, none⟩ = some (.int .u64 0) := pf 9 _ rfl
              rw [xl0] at c7
              have xrr : RdK w4 (nthD lp q).ao 0 (nthD lp q).cap [] := by
                have := xr
                rw [xl0] at this
                have e5 : (nthD lp q).l = [] := by rw [xe]; rfl
                rw [e5] at this
                exact this
              have XRR := Lib.hid xrr
              subst hq1
              clear pf xe xq xr xl0 xrr hP h10 hC hbt
              generalize nthD lp (xd.len + 1) = xx at *
              go_wp2_with fail
              refine (sameRet_any 10 0 0 xx.ao none 0 xx.cap 0 [] _ XRR.out (nil_rdK _)).mono ?_
              rintro e w' ⟨rfl, hb'⟩
              go_wp2
              go_meet
              exact ⟨by go_num, hb'⟩
            · have e3 : (xd.e == 10) = false := by simpa using h10
              have hP : partD xd = packD xd xd.l := by unfold partD emptyD; rw [if_pos hbt, if_neg h10]; simp
              have hq1 : q = xd.len := by rw [← PQ.out, hP, ← HLL.out]; simp [packD]
              subst hq1
              clear hP h10 hC hbt
              go_wp2
              go_meet
              exact ⟨rfl, Below.refl _ _⟩
    case rest =>
     obtain ⟨rfl, hb5⟩ := hcut
     have H5 := Lib.hid (H4.out.below hb5)
     have hlo3 := HLO2
     clear d0 d1 d2 d3 d4 d5 d6 d7 d8 d9 d10 d11 dl
     have hgV := Nat.lt_of_lt_of_le hgl hb5.size
     have hbV := H5.out.bel
     have PC5 := Lib.hid fun w' (hb : Below wc.heap.size wc w') k hk i u hu => PC.out w' (hb5.trans (hb.mono hb5.size)) k hk i u hu
     have RD5 := Lib.hid fun k hk => (⟨(RDP.out k hk).1, (RDP.out k hk).2.below hb5⟩ : (nthD lp k).Ok ∧ RdK wc (nthD lp k).ao (nthD lp k).len (nthD lp k).cap (nthD lp k).l)
     clear PC RDP hb5 H4 hgW hgl
     generalize wc = V at *
     go_upto_region 15 with fail
     go_cut [108] from 11 to 180 (fun s108 wx => s108 = .bool false ∧ Below V.heap.size V wx)
     case first =>
       as_aux_lemma =>
           have Q0 := Lib.hid fun w' (hs : Below V.heap.size V w') => sameDone_bare (nthD lp 0) xa w' P0.out ((RD5.out 0 (by omega)).2.below hs) (GA.out.2.below (hbV.trans (hs.mono hbV.size)))
           have Qn := Lib.hid fun w' (hs : Below V.heap.size V w') => sameDone_bare (nthD lp (q + 1)) xb w' PN.out ((RD5.out (q + 1) (by omega)).2.below hs) (GB.out.2.below (hbV.trans (hs.mono hbV.size)))
           obtain ⟨a0, a1, a2, a3, a4, a5, a6, a7, a8, a9, a10, a11⟩ := H5.out.a.cells
           have aL := H5.out.a.lt
           have bL : A + 1 + 1 < V.heap.size := H5.out.b.lt
           have pb := fun i u (hu : xb.cells[i]? = some u) => (Blk.cell (cs := xb.cells) H5.out.b i).trans hu
           have b0 : V.cell? ⟨A + 1 + 1, 0, none⟩ = some (.int .i64 xb.who) := pb 0 _ rfl
           have b1 : V.cell? ⟨A + 1 + 1, 1, none⟩ = some (.int .i64 xb.place) := pb 1 _ rfl
           have b2 : V.cell? ⟨A + 1 + 1, 2, none⟩ = some (.int .i64 xb.op) := pb 2 _ rfl
           have b3 : V.cell? ⟨A + 1 + 1, 3, none⟩ = some (.int .i64 xb.fl) := pb 3 _ rfl
           have b4 : V.cell? ⟨A + 1 + 1, 4, none⟩ = some (.int .i64 xb.a) := pb 4 _ rfl
           have b5 : V.cell? ⟨A + 1 + 1, 5, none⟩ = some (.int .i64 xb.b) := pb 5 _ rfl
           have b6 : V.cell? ⟨A + 1 + 1, 6, none⟩ = some (.int .i64 xb.e) := pb 6 _ rfl
           have b7 : V.cell? ⟨A + 1 + 1, 7, none⟩ = some (.slice xb.ao xb.len xb.cap) := pb 7 _ rfl
           have b8 : V.cell? ⟨A + 1 + 1, 8, none⟩ = some (.int .i64 xb.n) := pb 8 _ rfl
           have b9 : V.cell? ⟨A + 1 + 1, 9, none⟩ = some (.int .u64 xb.v) := pb 9 _ rfl
           have b10 : V.cell? ⟨A + 1 + 1, 10, none⟩ = some (.int .i64 xb.fr) := pb 10 _ rfl
           have b11 : V.cell? ⟨A + 1 + 1, 11, none⟩ = some (.int .i64 xb.to) := pb 11 _ rfl
           have p0 := fun i u hu => PC5.out V (Below.refl _ _) 0 (by omega) i u hu
           have pn := fun i u hu => PC5.out V (Below.refl _ _) (q + 1) (by omega) i u hu
           generalize nthD lp 0 = x0 at *
           generalize nthD lp (q + 1) = xn at *
           have c0 : V.cell? ⟨g, 0, none⟩ = some (.int .i64 x0.who) := p0 0 _ rfl
           have c1 : V.cell? ⟨g, 1, none⟩ = some (.int .i64 x0.place) := p0 1 _ rfl
           have c2 : V.cell? ⟨g, 2, none⟩ = some (.int .i64 x0.op) := p0 2 _ rfl
           have c3 : V.cell? ⟨g, 3, none⟩ = some (.int .i64 x0.fl) := p0 3 _ rfl
           have c4 : V.cell? ⟨g, 4, none⟩ = some (.int .i64 x0.a) := p0 4 _ rfl
           have c5 : V.cell? ⟨g, 5, none⟩ = some (.int .i64 x0.b) := p0 5 _ rfl
           have c6 : V.cell? ⟨g, 6, none⟩ = some (.int .i64 x0.e) := p0 6 _ rfl
           have c7 : V.cell? ⟨g, 7, none⟩ = some (.slice x0.ao x0.len x0.cap) := p0 7 _ rfl
           have c8 : V.cell? ⟨g, 8, none⟩ = some (.int .i64 x0.n) := p0 8 _ rfl
           have c9 : V.cell? ⟨g, 9, none⟩ = some (.int .u64 x0.v) := p0 9 _ rfl
           have c10 : V.cell? ⟨g, 10, none⟩ = some (.int .i64 x0.fr) := p0 10 _ rfl
           have c11 : V.cell? ⟨g, 11, none⟩ = some (.int .i64 x0.to) := p0 11 _ rfl
           have f0 : V.cell? ⟨g, (q + 1) * 12, none⟩ = some (.int .i64 xn.who) := pn 0 _ rfl
           have f1 : V.cell? ⟨g, (q + 1) * 12 + 1, none⟩ = some (.int .i64 xn.place) := pn 1 _ rfl
           have f2 : V.cell? ⟨g, (q + 1) * 12 + 2, none⟩ = some (.int .i64 xn.op) := pn 2 _ rfl
           have f3 : V.cell? ⟨g, (q + 1) * 12 + 3, none⟩ = some (.int .i64 xn.fl) := pn 3 _ rfl
           have f4 : V.cell? ⟨g, (q + 1) * 12 + 4, none⟩ = some (.int .i64 xn.a) := pn 4 _ rfl
           have f5 : V.cell? ⟨g, (q + 1) * 12 + 5, none⟩ = some (.int .i64 xn.b) := pn 5 _ rfl
           have f6 : V.cell? ⟨g, (q + 1) * 12 + 6, none⟩ = some (.int .i64 xn.e) := pn 6 _ rfl
           have f7 : V.cell? ⟨g, (q + 1) * 12 + 7, none⟩ = some (.slice xn.ao xn.len xn.cap) := pn 7 _ rfl
           have f8 : V.cell? ⟨g, (q + 1) * 12 + 8, none⟩ = some (.int .i64 xn.n) := pn 8 _ rfl
           have f9 : V.cell? ⟨g, (q + 1) * 12 + 9, none⟩ = some (.int .u64 xn.v) := pn 9 _ rfl
           have f10 : V.cell? ⟨g, (q + 1) * 12 + 10, none⟩ = some (.int .i64 xn.fr) := pn 10 _ rfl
           have f11 : V.cell? ⟨g, (q + 1) * 12 + 11, none⟩ = some (.int .i64 xn.to) := pn 11 _ rfl
           have i1 : (q : Int) ≤ 1048577 := by omega
           have i7 : (0 : Int) ≤ (q : Int) + 1 := by omega
           have i9 : (0 : Int) < (q : Int) + 2 := by omega
           have i8 : (q : Int) + 1 < (q : Int) + 2 := by omega
           clear pb p0 pn
           have i45 : IntKind.i64.wrap ((q : Int) + 2) = (q : Int) + 2 ∧ IntKind.i64.wrap ((q : Int) + 1) = (q : Int) + 1 := by constructor <;> (rw [IntKind.wrap_i64]; omega)
           obtain ⟨i4, i5⟩ := i45
           go_region_held3 (fun w' => Below V.heap.size V w' ∧ (∀ b o, b < V.heap.size → w'.cell? ⟨b, o, none⟩ = V.cell? ⟨b, o, none⟩)) (first | exact hs_refl ((Below.refl _ _).drew) | assumption | exact hs_step (by assumption) (by assumption))
             (first
               | (go_at_call 11; (with_reducible refine (awake_any _).mono ?_); rintro e w' ⟨rfl, hb'⟩)
               | (go_at_call 26; (with_reducible refine (Q0.out _ (And.left (by assumption))).mono ?_); rintro e w' ⟨rfl, hb'⟩)
               | (go_at_call 26; (with_reducible refine (Qn.out _ (And.left (by assumption))).mono ?_); rintro e w' ⟨rfl, hb'⟩))
           have hSz := ‹Below V.heap.size V _ ∧ _›.1
           go_wp2
           go_meet
           exact ⟨rfl, hSz⟩
     case rest =>
      obtain ⟨rfl, hb6⟩ := hcut
      clear HLO2
      have HLO3 : q ≤ 1048577 := hlo3
      go_wp2_with fail
      go_loopw [11, 12] (fun v11 _ wr => ∃ k : Nat, 1 ≤ k ∧ k ≤ q + 1 ∧ v11 = .int .i64 k ∧ Below V.heap.size V wr) (fun v11 _ _ => q + 1 - (intOf v11).toNat)
      case atStart => exact ⟨1, Nat.le_refl _, by omega, rfl, hb6⟩
      case round =>
        clear hb6
        obtain ⟨k, hk1, hk2, rfl, hbr⟩ := hrel
        have H6 := Lib.hid (H5.out.below hbr)
        obtain ⟨d0, d1, d2, d3, d4, d5, d6, d7, d8, d9, d10, d11⟩ := H6.out.d.cells
        have dl := H6.out.d.lt
        have hbw := Lib.hid (hbV.trans (hbr.mono hbV.size))
        by_cases hkq : k ≤ q
        · by_cases ht : xd.to = -1
          · have e1 : (xd.to != -1) = false := by simp [ht]
            clear ht
            go_wp2
            go_ret
            exact ⟨rfl, by first | exact hbw.out | (rw [← hA]; exact hbw.out)⟩
          · have e1 : (xd.to != -1) = true := by simpa using ht
            by_cases he : xd.e = 1
            · have e2 : (xd.e != 1) = false := by simp [he]
              clear ht he
              go_wp2
              go_ret
              exact ⟨rfl, by first | exact hbw.out | (rw [← hA]; exact hbw.out)⟩
            · have e2 : (xd.e != 1) = true := by simpa using he
              have hbt : isBat xd = true := by
                have h1 := HOP.out
                have h2 := HER.out
                unfold isBat endedB
                simp only [Bool.and_eq_true, Bool.or_eq_true, decide_eq_true_eq]
                omega
              have hPk := PM.out k hk1 hkq
              have hkp : (k : Int) < (q : Int) + 2 := by omega
              have hk0 : (0 : Int) ≤ (k : Int) := by omega
              have hkI : (k : Int) ≤ (q : Int) := by omega
              obtain ⟨_, xr⟩ := RD5.out k (by omega)
              have pf := fun i u hu => PC5.out wr hbr k (by omega) i u hu
              have hgen : ∃ ev pl, (nthD lp k).bare = oneD xd ev 0 0 none 0 0 pl ∧ (k ≤ xd.len → ev = 0 ∧ pl = [nthK xd.l (k - 1)]) := by
                by_cases hkl : k ≤ xd.len
                · have hP : nthD (partD xd) (k - 1) = oneD xd 0 0 0 none 0 0 [nthK xd.l (k - 1)] := by
                    unfold partD; rw [if_pos hbt]; exact packD_at (by rw [HLL.out]; omega)
                  exact ⟨0, _, hPk.trans hP, fun _ => ⟨rfl, rfl⟩⟩
                · by_cases h10 : xd.e = 10
                  · have hPP : partD xd = packD xd xd.l ++ [oneD xd 10 0 0 none 0 0 []] := by unfold partD emptyD; rw [if_pos hbt, if_pos h10]
                    have hq1 : q = xd.len + 1 := by rw [← PQ.out, hPP, ← HLL.out]; simp [packD]
                    have hP : nthD (partD xd) (k - 1) = oneD xd 10 0 0 none 0 0 [] := by
                      rw [hPP, show k - 1 = xd.l.length by rw [HLL.out]; omega]; exact packD_end
                    exact ⟨10, _, hPk.trans hP, fun h => absurd h hkl⟩
                  · have hPP : partD xd = packD xd xd.l := by unfold partD emptyD; rw [if_pos hbt, if_neg h10]; simp
                    have hq1 : q = xd.len := by rw [← PQ.out, hPP, ← HLL.out]; simp [packD]
                    omega
              obtain ⟨ev, pl, hxb, hev⟩ := hgen
              have xe := one_of_bare hxb
              have xll : pl.length = (nthD lp k).len := by rw [← xr.len, xe]; rfl
              have xpl : (nthD lp k).l = pl := by rw [xe]; rfl
              rw [xe] at pf
              rw [xpl] at xr
              generalize hxo : (nthD lp k).ao = xo at *
              generalize hxl : (nthD lp k).len = xl at *
              generalize hxc : (nthD lp k).cap = xc at *
              have c0 : wr.cell? ⟨g, k * 12, none⟩ = some (.int .i64 xd.who) := pf 0 _ rfl
              have c1 : wr.cell? ⟨g, k * 12 + 1, none⟩ = some (.int .i64 xd.place) := pf 1 _ rfl
              have c2 : wr.cell? ⟨g, k * 12 + 2, none⟩ = some (.int .i64 4) := pf 2 _ rfl
              have c3 : wr.cell? ⟨g, k * 12 + 3, none⟩ = some (.int .i64 0) := pf 3 _ rfl
              have c4 : wr.cell? ⟨g, k * 12 + 4, none⟩ = some (.int .i64 0) := pf 4 _ rfl
              have c5 : wr.cell? ⟨g, k * 12 + 5, none⟩ = some (.int .i64 0) := pf 5 _ rfl
              have c6 : wr.cell? ⟨g, k * 12 + 6, none⟩ = some (.int .i64 ev) := pf 6 _ rfl
              have c7 : wr.cell? ⟨g, k * 12 + 7, none⟩ = some (.slice xo xl xc) := pf 7 _ rfl
              have c8 : wr.cell? ⟨g, k * 12 + 8, none⟩ = some (.int .i64 0) := pf 8 _ rfl
              have c9 : wr.cell? ⟨g, k * 12 + 9, none⟩ = some (.int .u64 0) := pf 9 _ rfl
              have c10 : wr.cell? ⟨g, k * 12 + 10, none⟩ = some (.int .i64 xd.fr) := pf 10 _ rfl
              have c11 : wr.cell? ⟨g, k * 12 + 11, none⟩ = some (.int .i64 xd.to) := pf 11 _ rfl
              have XR := Lib.hid xr
              have XLL := Lib.hid xll
              have HEV := Lib.hid hev
              have hgr : g < wr.heap.size := Nat.lt_of_lt_of_le hgV hbr.size
              clear pf xe xll hxo hxl hxc hxb hPk hbt xr xpl hev
              go_upto_region 21 with fail
              have hbX := below1 wr (.cells #[.int .i64 xd.who, .int .i64 xd.place, .int .i64 4, .int .i64 0, .int .i64 0, .int .i64 0, .int .i64 ev, .slice xo xl xc, .int .i64 0, .int .u64 0, .int .i64 xd.fr, .int .i64 xd.to] 31)
              have hX : BoxD (wr.alloc (.cells #[.int .i64 xd.who, .int .i64 xd.place, .int .i64 4, .int .i64 0, .int .i64 0, .int .i64 0, .int .i64 ev, .slice xo xl xc, .int .i64 0, .int .u64 0, .int .i64 xd.fr, .int .i64 xd.to] 31)) wr.heap.size (oneD xd ev 0 0 xo xl xc pl) 31 := one_boxD wr (oneD xd ev 0 0 xo xl xc pl) 31
              have hbr2 := hbr.trans (hbX.mono hbr.size)
              have H7 := Lib.hid (H6.out.below hbX)
              generalize wr.alloc (.cells #[.int .i64 xd.who, .int .i64 xd.place, .int .i64 4, .int .i64 0, .int .i64 0, .int .i64 0, .int .i64 ev, .slice xo xl xc, .int .i64 0, .int .u64 0, .int .i64 xd.fr, .int .i64 xd.to] 31) = X at *
              generalize wr.heap.size = XB at *
              clear c0 c1 c2 c3 c4 c5 c6 c7 c8 c9 c10 c11 d0 d1 d2 d3 d4 d5 d6 d7 d8 d9 d10 d11 dl hbX
              obtain ⟨x0, x1, x2, x3, x4, x5, x6, x7, x8, x9, x10, x11⟩ := hX.cells
              simp only [oneD] at x0 x1 x2 x3 x4 x5 x6 x7 x8 x9 x10 x11
              obtain ⟨d0, d1, -, -, -, -, -, d7, -, -, d10, d11⟩ := H7.out.d.cells
              have hXl := hX.lt
              have hDl := H7.out.d.lt
              clear hX
              go_upto_region 23 with fail
              by_cases hkl : k ≤ xd.len
              · obtain ⟨rfl, hpl⟩ := HEV.out hkl
                obtain ⟨j, rfl⟩ : ∃ j, k = j + 1 := ⟨k - 1, by omega⟩
                rw [Nat.add_sub_cancel] at hpl
                have hkd := GD.out.2
                obtain ⟨pb, po, hpao, hplt, hpc3⟩ := hkd.cells (show j < xd.len by omega)
                rw [hpao] at d7
                have hcap := hkd.rd.le
                have kI2 : ((j : Int) + 1) ≤ (xd.len : Int) := by omega
                have kI3 : ((j : Int) + 1) ≤ (xd.cap : Int) := by omega
                have q1 : ¬ xd.cap - j = 0 := by omega
                have q2 : ¬ xd.cap = j := by omega
                have q3 : j < xd.cap := by omega
                have q4 : j ≤ xd.cap := by omega
                have q5 : j + 1 ≤ xd.cap := by omega
                have q6 : ¬ xd.cap ≤ j := by omega
                have q7 : (j : Int) < (xd.cap : Int) := by omega
                have q8 : (j : Int) ≤ (j : Int) + 1 := by omega
                have q9 : ¬ ((xd.cap : Int) = (j : Int)) := by omega
                have q10 : (0 : Int) ≤ (j : Int) + 1 := by omega
                have hx1 : xl = 1 := by rw [← XLL.out, hpl]; rfl
                subst hx1
                rw [hpao] at hkd
                have Q := Lib.hid fun w' (hs : Below X.heap.size X w') => sameRet_any 0 0 0 xo (some ⟨pb, po + j * 3, none⟩) 1 xc (xd.cap - j) [nthK xd.l j] w' (by have h1 := XR.out.below (hbr2.trans (hs.mono hbr2.size)); rw [hpl] at h1; exact h1) ((hkd.below (H7.out.bel.trans (hs.mono H7.out.bel.size))).one (show j < xd.len by omega))
                clear hpc3 hkd hpl hcap
                have hwj : (IntKind.i64.wrap ((j : Int) + 1 - 1) = (j : Int) ∧ IntKind.i64.wrap (j : Int) = (j : Int)) ∧ IntKind.i64.wrap (((j + 1 : Nat) : Int) - 1) = (j : Int) := by
                  refine ⟨⟨?_, ?_⟩, ?_⟩ <;> (rw [IntKind.wrap_i64]; omega)
                obtain ⟨⟨hwj1, hwj2⟩, hwj3⟩ := hwj
                go_region_held3 (fun w' => Below X.heap.size X w' ∧ (∀ b o, b < X.heap.size → w'.cell? ⟨b, o, none⟩ = X.cell? ⟨b, o, none⟩)) (first | exact hs_refl ((Below.refl _ _).drew) | assumption | exact hs_step (by assumption) (by assumption))
                  (first
                    | (go_at_call 27; (with_reducible refine (Q.out _ (And.left (by assumption))).mono ?_); rintro e w' ⟨rfl, hb'⟩))
                have hSz := ‹Below X.heap.size X _ ∧ _›.1
                clear hwj1 hwj2 hwj3
                go_wp2
                go_roundw
                case rel => exact ⟨j + 1 + 1, by omega, by omega, by go_num, hbr2.trans (hSz.mono hbr2.size)⟩
                case measure => simp [intOf]; omega
              · have kI2 : ¬ ((k : Int) ≤ (xd.len : Int)) := by omega
                go_region
                go_wp2
                go_roundw
                case rel => exact ⟨k + 1, by omega, by omega, by go_num, hbr2.drew⟩
                case measure => simp [intOf]; omega
        · have hkq' : k = q + 1 := by omega
          subst hkq'
          go_wp2
          go_ret
          exact ⟨rfl, by first | exact hbw.out | (rw [← hA]; exact hbw.out)⟩

theorem short_done {cs : List Value} {d : DoneS} (h : cs = d.cells) (hs : bulks.Short 1048576 cs) : d.len ≤ 1048576 := hs d.ao d.len d.cap (by rw [h]; simp [DoneS.cells])
theorem HistBatch_any (w : World) (ca : List Value) (ha : NestOk w doneK ca) (sa : bulks.Short 1048576 ca) (cd : List Value) (hd : NestOk w doneK cd) (sd : bulks.Short 1048576 cd) (cb : List Value) (hb : NestOk w doneK cb) (sb : bulks.Short 1048576 cb) (e : Int) (he : (Lit.int .i64 e).wf = true) :
    Calls Try.prog 6 #[.agg ca.toArray, .agg cd.toArray, .agg cb.toArray, .int .i64 e] w fun e w' => e = .returned (.bool true) ∧ Below w.heap.size w w' := by
  obtain ⟨a, ea, ga⟩ := done_of ha
  obtain ⟨d, ed, gd⟩ := done_of hd
  obtain ⟨b, eb, gb⟩ := done_of hb
  have s1 := short_done ea sa
  have s2 := short_done ed sd
  have s3 := short_done eb sb
  subst ea; subst ed; subst eb
  exact HistBatch_1 a d b e w ga gd gb s1 s2 s3
end Go.Proofs.Ytonldjkmbapjeaa
