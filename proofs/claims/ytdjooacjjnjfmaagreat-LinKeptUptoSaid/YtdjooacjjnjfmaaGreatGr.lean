/- Several texts in one: Hist9 Hist10 Hist11. -/
import Derived.Test.YtdjooacjjnjfmaaGreatGq
-- Parts of calls: a call in memory of its own, a part for one packet.
section
namespace Go.Proofs.YtdjooacjjnjfmaaGreat.H
set_option linter.unusedVariables false
set_option linter.unusedSimpArgs false
open Go.RowKit Go.Proofs.YtdjooacjjnjfmaaGreatMem Go.Proofs.YtdjooacjjnjfmaaGreatFlat

theorem EPK : ElT Tryz.prog 36 59 (.agg #[.int .i64 0, .int .i64 0, .int .i64 0]) 3 := ⟨Tryz.underlying36, ⟨24, by kernel_rfl, by omega⟩, rfl, by omega⟩

set_option maxHeartbeats 1000000 in
theorem cloneK_any (ao : Option Addr) (n cap : Nat) (l : List PkS) (w : World) (h : RdK w ao n cap l) (hn : n ≤ 549755813888) :
    Calls Tryz.prog 88 #[.slice ao n cap] w (RetRow w 59 3 n (pkC l)) := by
  have hse := fun w a n c => Lib.run_eql_slice_nil (P := Tryz.prog) w 36 59 a n c 0 0 Tryz.underlying36
  have hl := h.len
  cases ao with
  | none =>
    obtain ⟨rfl, rfl⟩ := h.rd.nil rfl
    have e : l = [] := List.eq_nil_of_length_eq_zero hl
    subst e
    go_enter Tryz.func88, Tryz.ntmps88
    go_wp2
    go_ret
    exact ⟨_, rfl, World.ownsRow_nil _ _ _ _, Below.refl _ _⟩
  | some ad =>
    have hl2 : (pkC l).length = n * 3 := by rw [pkC_length, hl]
    have hc : ∀ j u, (pkC l)[j]? = some u → ∃ b off, some ad = some ⟨b, off, none⟩ ∧ (w.alloc (.cells #[] 59)).cell? ⟨b, off + j, none⟩ = some u := by
      intro j u hu
      obtain ⟨b, off, e, hlt, hc⟩ := (h.rd.below ((Below.refl _ _).alloc (Nat.le_refl _) (.cells #[] 59))).at_ j u hu
      exact ⟨b, off, e, hc⟩
    have h1 : ∀ u ∈ pkC l, u.oneCell' = true := pkC_one l
    have hn2 : 0 + n ≤ 1099511627776 := by omega
    have HC := Lib.hid hc
    have H1 := Lib.hid h1
    have HL := Lib.hid hl2
    clear hc h1 hl2 hl
    go_enter Tryz.func88, Tryz.ntmps88
    go_wp2_with ((at_builtin; refine ap_src (w.alloc (.cells #[] 59)) EPK rfl _ _ rfl w.heap.size _ 0 _ rfl (owns_empty w w.heap.size 59 3 (Nat.le_refl _)) (by simp) (some ad) n cap (pkC l) rfl (fun h => by cases h) HL.out HC.out H1.out hn2 ?_; intro v' w3 hown3 hg3 hb3 hfr3))
    go_ret
    exact ⟨_, rfl, by simpa using hown3, ((Below.refl _ _).alloc (Nat.le_refl _) _).trans hb3⟩

/-- A call whose packets lie in memory of its own. -/
def OwnK (w : World) (base : Nat) (d : DoneS) : Prop := w.ownsRow base 59 3 (.slice d.ao d.len d.cap) d.len (pkC d.l) ∧ d.Ok ∧ ∀ p ∈ d.l, p.Ok
theorem OwnK.below {w w' : World} {base : Nat} {d : DoneS} (h : OwnK w base d) (hb : Below w.heap.size w w') : OwnK w' base d := ⟨owns_below (B := 0) h.1 hb, h.2⟩
theorem OwnK.base {w : World} {b b' : Nat} {d : DoneS} (h : OwnK w b d) (hb : b' ≤ b) : OwnK w b' d := ⟨owns_base h.1 hb, h.2⟩
theorem OwnK.rd {w : World} {base : Nat} {d : DoneS} (h : OwnK w base d) : d.Ok ∧ RdK w d.ao d.len d.cap d.l :=
  ⟨h.2.1, owns_rdS h.1 (pkC_one _), by have := h.1.1; rw [pkC_length] at this; omega, h.2.2⟩
/-- What it says, wherever its packets lie. -/
def DoneS.bare (d : DoneS) : DoneS := { d with ao := none, len := 0, cap := 0 }
/-- A call that hands back a call with packets of its own. -/
def RetK (w : World) (x : DoneS) (e : Ending) (w' : World) : Prop := ∃ y : DoneS, e = .returned (.agg #[.int .i64 y.who, .int .i64 y.place, .int .i64 y.op, .int .i64 y.fl, .int .i64 y.a, .int .i64 y.b, .int .i64 y.e, .slice y.ao y.len y.cap, .int .i64 y.n, .int .u64 y.v, .int .i64 y.fr, .int .i64 y.to]) ∧ y.bare = x ∧ OwnK w' w.heap.size y ∧ Below w.heap.size w w'

set_option maxHeartbeats 1000000 in
theorem histOwn_any (d : DoneS) (w : World) (ok : d.Ok) (h : RdK w d.ao d.len d.cap d.l) (hn : d.len ≤ 549755813888) :
    Calls Tryz.prog 54 #[(.agg #[.int .i64 d.who, .int .i64 d.place, .int .i64 d.op, .int .i64 d.fl, .int .i64 d.a, .int .i64 d.b, .int .i64 d.e, .slice d.ao d.len d.cap, .int .i64 d.n, .int .u64 d.v, .int .i64 d.fr, .int .i64 d.to])] w (RetK w d.bare) := by
  go_enter Tryz.func54, Tryz.ntmps54
  go_upto_region 1 with fail
  have T := TwoD.start w d DoneS.zero
  obtain ⟨A, hA⟩ : ∃ A, A = w.heap.size := ⟨_, rfl⟩
  simp only [DoneS.zero] at T
  have hAW : A + 2 ≤ ((w.alloc (.cells #[.int .i64 d.who, .int .i64 d.place, .int .i64 d.op, .int .i64 d.fl, .int .i64 d.a, .int .i64 d.b, .int .i64 d.e, .slice d.ao d.len d.cap, .int .i64 d.n, .int .u64 d.v, .int .i64 d.fr, .int .i64 d.to] 42)).alloc (.cells #[.int .i64 0, .int .i64 0, .int .i64 0, .int .i64 0, .int .i64 0, .int .i64 0, .int .i64 0, .slice none 0 0, .int .i64 0, .int .u64 0, .int .i64 0, .int .i64 0] 42)).heap.size := by simp [hA]
  rw [← hA] at T ⊢
  generalize ((w.alloc (.cells #[.int .i64 d.who, .int .i64 d.place, .int .i64 d.op, .int .i64 d.fl, .int .i64 d.a, .int .i64 d.b, .int .i64 d.e, .slice d.ao d.len d.cap, .int .i64 d.n, .int .u64 d.v, .int .i64 d.fr, .int .i64 d.to] 42)).alloc (.cells #[.int .i64 0, .int .i64 0, .int .i64 0, .int .i64 0, .int .i64 0, .int .i64 0, .int .i64 0, .slice none 0 0, .int .i64 0, .int .u64 0, .int .i64 0, .int .i64 0] 42)) = W at *
  have RK := Lib.hid (h.below T.2.2.1)
  obtain ⟨a0, a1, a2, a3, a4, a5, a6, a7, a8, a9, a10, a11⟩ := T.1.cells
  have HA := Lib.hid hA
  have T0 := Lib.hid T
  clear T hA h
  go_wp2_with fail
  refine (cloneK_any _ _ _ _ _ RK.out hn).mono ?_
  rintro e w1 ⟨v, rfl, hown, hb⟩
  obtain ⟨a', c', rfl⟩ := owns_slice hown
  have T1 : TwoD w A d DoneS.zero w1 := ⟨T0.out.1.below hb, T0.out.2.1.below hb, T0.out.2.2.1.trans (hb.mono T0.out.2.2.1.size), T0.out.2.2.2⟩
  clear a0 a1 a2 a3 a4 a5 a6 a7 a8 a9 a10 a11
  have f7 := T1.1.frozen 7
  obtain ⟨_, _, _, _, _, _, _, x7, _, _, _, _⟩ := T1.1.cells
  have hge : ∀ k, (Value.slice a' d.len c').ownBlock = some k → ¬ (k = A ∨ k = A + 1) := fun k hk => by have := (owns_lt hown k hk).1; omega
  have O2 : (w1.setCell ⟨A, 7, none⟩ (.slice a' d.len c')).ownsRow W.heap.size 59 3 (.slice a' d.len c') d.len (pkC d.l) := owns_fr (S := fun k => k = A ∨ k = A + 1) hown ((Fr.refl _ _).setCell (.inl (.inl rfl)) _) hge
  have T2 : TwoD w A { d with ao := a', cap := c' } DoneS.zero (w1.setCell ⟨A, 7, none⟩ (.slice a' d.len c')) := T1.put rfl
  go_upto_region 2 with fail
  generalize w1.setCell ⟨A, 7, none⟩ (.slice a' d.len c') = W2 at *
  clear T1 f7 x7
  obtain ⟨a0, a1, a2, a3, a4, a5, a6, a7, a8, a9, a10, a11⟩ := T2.1.cells
  obtain ⟨b0, b1, b2, b3, b4, b5, b6, b7, b8, b9, b10, b11⟩ := T2.2.1.cells
  simp only [DoneS.zero] at b0 b1 b2 b3 b4 b5 b6 b7 b8 b9 b10 b11
  have z0 := T2.2.1.frozen 0
  have z1 := T2.2.1.frozen 1
  have z2 := T2.2.1.frozen 2
  have z3 := T2.2.1.frozen 3
  have z4 := T2.2.1.frozen 4
  have z5 := T2.2.1.frozen 5
  have z6 := T2.2.1.frozen 6
  have z7 := T2.2.1.frozen 7
  have z8 := T2.2.1.frozen 8
  have z9 := T2.2.1.frozen 9
  have z10 := T2.2.1.frozen 10
  have z11 := T2.2.1.frozen 11
  have TH := Lib.hid T2
  have OH := Lib.hid O2
  have GH := Lib.hid hge
  clear T2 O2 hge hown hb
  go_wp2
  refine bodyPost_ret (v := (.agg #[.int .i64 d.who, .int .i64 d.place, .int .i64 d.op, .int .i64 d.fl, .int .i64 d.a, .int .i64 d.b, .int .i64 d.e, .slice a' d.len c', .int .i64 d.n, .int .u64 d.v, .int .i64 d.fr, .int .i64 d.to])) (by simp [results, Tryz.results54, go_sem, b0, b1, b2, b3, b4, b5, b6, b7, b8, b9, b10, b11]) rfl ⟨{ d with ao := a', cap := c' }, rfl, rfl, ⟨?_, ok, RK.out.ok⟩, ?_⟩
  · refine owns_base (owns_fr (S := fun k => k = A ∨ k = A + 1) OH.out ?_ GH.out) (by have := HA.out; omega)
    iterate 12 refine Fr.setCell ?_ (.inl (.inr rfl)) _
    exact Fr.refl _ _
  · have hle : w.heap.size ≤ A + 1 := by have := TH.out.2.2.2; omega
    iterate 12 refine Below.setCell (p := ⟨A + 1, _, none⟩) ?_ hle _
    exact TH.out.2.2.1

def oneD (d : DoneS) (e n v : Int) (ao : Option Addr) (len cap : Nat) (l : List PkS) : DoneS := { d with op := 4, fl := 0, a := 0, b := 0, e := e, n := n, v := v, ao := ao, len := len, cap := cap, l := l }
theorem oneD_ok {d : DoneS} {e : Int} {ao : Option Addr} {len cap : Nat} {l : List PkS} (h : d.Ok) (he : I64 e) : (oneD d e 0 0 ao len cap l).Ok := by
  obtain ⟨h0, h1, h2, h3, h4, h5, h6, h7, h8, h9, h10⟩ := h
  have z4 : I64 4 := by unfold I64; omega
  have z0 : I64 0 := by unfold I64; omega
  exact ⟨h0, h1, z4, z0, z0, z0, he, z0, by simp [oneD], h9, h10⟩

set_option maxHeartbeats 1000000 in
theorem single_any (d : DoneS) (e n v : Int) (ao : Option Addr) (len cap : Nat) (l : List PkS) (w : World) :
    Calls Tryz.prog 55 #[(.agg #[.int .i64 d.who, .int .i64 d.place, .int .i64 d.op, .int .i64 d.fl, .int .i64 d.a, .int .i64 d.b, .int .i64 d.e, .slice d.ao d.len d.cap, .int .i64 d.n, .int .u64 d.v, .int .i64 d.fr, .int .i64 d.to]), .agg #[.int .i64 e, .slice ao len cap, .int .i64 n, .int .u64 v]] w fun en w' => en = .returned (.agg #[.int .i64 (oneD d e n v ao len cap l).who, .int .i64 (oneD d e n v ao len cap l).place, .int .i64 (oneD d e n v ao len cap l).op, .int .i64 (oneD d e n v ao len cap l).fl, .int .i64 (oneD d e n v ao len cap l).a, .int .i64 (oneD d e n v ao len cap l).b, .int .i64 (oneD d e n v ao len cap l).e, .slice (oneD d e n v ao len cap l).ao (oneD d e n v ao len cap l).len (oneD d e n v ao len cap l).cap, .int .i64 (oneD d e n v ao len cap l).n, .int .u64 (oneD d e n v ao len cap l).v, .int .i64 (oneD d e n v ao len cap l).fr, .int .i64 (oneD d e n v ao len cap l).to]) ∧ Below w.heap.size w w' := by
  go_enter Tryz.func55, Tryz.ntmps55
  go_wp2
  go_region
  all_goals go_wp2
  all_goals refine bodyPost_ret (v := (.agg #[.int .i64 d.who, .int .i64 d.place, .int .i64 4, .int .i64 0, .int .i64 0, .int .i64 0, .int .i64 e, .slice ao len cap, .int .i64 n, .int .u64 v, .int .i64 d.fr, .int .i64 d.to])) (by simp [results, Tryz.results55, go_sem]) rfl ⟨rfl, ?_⟩
  all_goals repeat (first | exact Below.refl _ _ | refine Below.setCell ?_ (by simp <;> omega) _ | refine Below.alloc ?_ (by simp <;> omega) _ | refine Below.drew ?_)
end Go.Proofs.YtdjooacjjnjfmaaGreat.H
end

-- Parts of calls: the program.
section
namespace Go.Proofs.YtdjooacjjnjfmaaGreat.H
set_option linter.unusedVariables false
set_option linter.unusedSimpArgs false
open Go.RowKit Go.Proofs.YtdjooacjjnjfmaaGreatMem Go.Proofs.YtdjooacjjnjfmaaGreatFlat

theorem own_heap {w : World} {base : Nat} {e : TypeId} {size : Nat} {v : Value} {n : Nat} {xs : List Value} (h : w.ownsRow base e size v n xs) {k : Nat} (hk : v.ownBlock = some k) : ∃ cur, w.heap[k]? = some (.cells cur e (0, 0)) := by
  rcases h.2 with ⟨rfl, _⟩ | ⟨g, cap, cur, rfl, _, hh, _⟩
  · cases hk
  · cases hk; exact ⟨cur, hh⟩
theorem tag_ne {w : World} {b1 b2 : Nat} {e1 e2 : TypeId} {s1 s2 n1 n2 : Nat} {v1 v2 : Value} {xs ys : List Value} (h1 : w.ownsRow b1 e1 s1 v1 n1 xs) (h2 : w.ownsRow b2 e2 s2 v2 n2 ys) (hne : e1 ≠ e2) : ∀ k, v2.ownBlock = some k → v1.ownBlock ≠ some k := by
  intro k h3 h4
  obtain ⟨c1, e⟩ := own_heap h1 h4
  obtain ⟨c2, e'⟩ := own_heap h2 h3
  rw [e] at e'
  simp only [Option.some.injEq, Obj.cells.injEq] at e'
  exact hne e'.2.1

/-- Calls in memory of their own, and their packets too. -/
def OwnDs (w : World) (base : Nat) (v : Value) (l : List DoneS) : Prop := w.ownsRow base 42 12 v l.length (doneC l) ∧ ∀ d ∈ l, OwnK w base d
theorem OwnDs.below {w w' : World} {base : Nat} {v : Value} {l : List DoneS} (h : OwnDs w base v l) (hb : Below w.heap.size w w') : OwnDs w' base v l := ⟨owns_below (B := 0) h.1 hb, fun d hd => (h.2 d hd).below hb⟩
theorem OwnDs.nil (w : World) (base : Nat) : OwnDs w base (.slice none 0 0) [] := ⟨World.ownsRow_nil _ _ _ _, fun d hd => by cases hd⟩
theorem OwnDs.push {w w' : World} {base n : Nat} {v v' : Value} {l : List DoneS} {y : DoneS} (h : OwnDs w base v l) (hy : OwnK w base y) (hn : l.length = n)
    (ho : w'.ownsRow base 42 12 v' (n + 1) (doneC l ++ y.cells)) (hg : w.grownBy w' v.ownBlock) : OwnDs w' base v' (l ++ [y]) := by
  subst hn
  have hne : 42 ≠ 59 := by decide
  have key : ∀ d, OwnK w base d → OwnK w' base d := fun d hd => ⟨owns_grown hd.1 hg (tag_ne h.1 hd.1 hne), hd.2⟩
  refine ⟨by rw [doneC_snoc]; simpa using ho, fun d hd => ?_⟩
  rcases List.mem_append.1 hd with hd | hd
  · exact key d (h.2 d hd)
  · rw [List.mem_singleton] at hd; subst hd; exact key _ hy
theorem OwnDs.rd {w : World} {base : Nat} {ao : Option Addr} {n cap : Nat} {l : List DoneS} (h : OwnDs w base (.slice ao n cap) l) : RdD w ao n cap l := by
  have hl : l.length = n := (owns_cap h.1).1
  subst hl
  exact ⟨owns_rdS h.1 (doneC_one l), rfl, fun d hd => (h.2 d hd).rd⟩
theorem OwnDs.slice {w : World} {base : Nat} {v : Value} {l : List DoneS} (h : OwnDs w base v l) : ∃ ao cap, v = .slice ao l.length cap := owns_slice h.1
/-- A call that hands back calls in memory of their own. -/
def RetDs (w : World) (X : List DoneS) (e : Ending) (w' : World) : Prop := ∃ v l, e = .returned v ∧ l.map DoneS.bare = X ∧ OwnDs w' w.heap.size v l ∧ Below w.heap.size w w'

/-! ### What the parts are -/
def isBat (d : DoneS) : Bool := decide (d.op = 5) && (endedB d && (decide (d.e = 0) || decide (d.e = 10)))
def packD (d : DoneS) (l : List PkS) : List DoneS := l.map fun p => oneD d 0 0 0 none 0 0 [p]
def emptyD (d : DoneS) : List DoneS := if d.e = 10 then [oneD d 10 0 0 none 0 0 []] else []
def partD (d : DoneS) : List DoneS := if isBat d = true then packD d d.l ++ emptyD d else [d.bare]
def partsD (l : List DoneS) : List DoneS := l.flatMap partD
theorem packD_snoc (d : DoneS) (l : List PkS) (p : PkS) : packD d (l ++ [p]) = packD d l ++ [oneD d 0 0 0 none 0 0 [p]] := by simp [packD]
theorem partsD_snoc {l : List DoneS} {k : Nat} (h : k < l.length) : partsD (l.take (k + 1)) = partsD (l.take k) ++ partD (nthD l k) := by
  unfold partsD
  rw [List.take_add_one, List.flatMap_append, nthD_some h]; simp
theorem partD_length (d : DoneS) : (partD d).length ≤ d.l.length + 1 := by
  unfold partD
  split
  · simp only [List.length_append, packD, List.length_map]
    unfold emptyD; split <;> simp
  · simp
theorem partsD_length {m : Nat} : ∀ (l : List DoneS), (∀ d ∈ l, d.l.length ≤ m) → (partsD l).length ≤ l.length * (m + 1)
  | [], _ => by simp [partsD]
  | d :: l, h => by
    have h1 := partsD_length l fun x hx => h x (List.mem_cons_of_mem _ hx)
    have h2 := partD_length d
    have h3 := h d (List.mem_cons_self ..)
    have e : partsD (d :: l) = partD d ++ partsD l := by simp [partsD]
    rw [e, List.length_append, List.length_cons, Nat.succ_mul]
    omega

def PkS.zero : PkS := ⟨0, 0, 0⟩
def nthK (l : List PkS) (k : Nat) : PkS := l.getD k PkS.zero
theorem nthK_eq {l : List PkS} {k : Nat} (h : k < l.length) : nthK l k = l[k] := by simp [nthK, h]
theorem nthK_some {l : List PkS} {k : Nat} (h : k < l.length) : l[k]? = some (nthK l k) := by rw [nthK_eq h]; simp [h]
theorem takeK_snoc {l : List PkS} {k : Nat} (h : k < l.length) : l.take (k + 1) = l.take k ++ [nthK l k] := by
  rw [List.take_add_one, nthK_some h]; rfl
theorem RdK.cells {w : World} {ao : Option Addr} {n cap : Nat} {l : List PkS} (h : RdK w ao n cap l) {k : Nat} (hk : k < n) :
    ∃ b off, ao = some ⟨b, off, none⟩ ∧ b < w.heap.size ∧ ∀ w', Below w.heap.size w w' → w'.cell? ⟨b, off + k * 3, none⟩ = some (.int .i64 (nthK l k).flow) ∧ w'.cell? ⟨b, off + k * 3 + 1, none⟩ = some (.int .i64 (nthK l k).len) ∧ w'.cell? ⟨b, off + k * 3 + 2, none⟩ = some (.int .i64 (nthK l k).mark) := by
  obtain ⟨b, off, e, hlt, hc⟩ := rds_rec pkS_cells (by omega) h.rd (nthK_some (by rw [h.len]; exact hk))
  exact ⟨b, off, e, hlt, fun w' hb => ⟨hc w' hb 0 _ rfl, hc w' hb 1 _ rfl, hc w' hb 2 _ rfl⟩⟩
theorem RdK.ok_nth {w : World} {ao : Option Addr} {n cap : Nat} {l : List PkS} (h : RdK w ao n cap l) {k : Nat} (hk : k < n) : (nthK l k).Ok := by
  rw [nthK_eq (by rw [h.len]; exact hk)]; exact h.ok _ (List.getElem_mem _)
theorem oneD_bare (d : DoneS) (e n v : Int) (ao : Option Addr) (len cap : Nat) (l : List PkS) : (oneD d e n v ao len cap l).bare = oneD d e n v none 0 0 l := rfl
/-- A packet laid in a block of its own. -/
theorem one_ownK (w : World) (d : DoneS) (p : PkS) (hd : d.Ok) (hp : p.Ok) : OwnK (w.alloc (.cells #[.int .i64 p.flow, .int .i64 p.len, .int .i64 p.mark] 59)) w.heap.size (oneD d 0 0 0 (some ⟨w.heap.size, 0, none⟩) 1 1 [p]) := by
  have h := World.ownsRow_lit (e := 59) (size := 3) (base := w.heap.size) w #[.int .i64 p.flow, .int .i64 p.len, .int .i64 p.mark] 1 (Nat.le_refl _) (by unfold maxLen; omega) (by simp)
  exact ⟨by simpa [pkC, PkS.cells, oneD] using h, oneD_ok hd (by unfold I64; omega), fun q hq => by simp [oneD] at hq; subst hq; exact hp⟩
theorem empty_ownK (w : World) (base : Nat) (d : DoneS) (hd : d.Ok) : OwnK w base (oneD d 10 0 0 none 0 0 []) :=
  ⟨by simpa [pkC, oneD] using World.ownsRow_nil w base 59 3, oneD_ok hd (by unfold I64; omega), fun q hq => by simp [oneD] at hq⟩

set_option maxRecDepth 20000 in
set_option maxHeartbeats 2000000 in
theorem histParts_any (ao : Option Addr) (n cap : Nat) (l : List DoneS) (w : World) (h : RdD w ao n cap l) (hn : n ≤ 1000) (hm : ∀ d ∈ l, d.len ≤ 1048576) :
    Calls Tryz.prog 32 #[.slice ao n cap] w (RetDs w (partsD l)) := by
  have L0 := Lib.hid h.len
  have s0 := h.rd.small
  have hlp : ∀ i, i ≤ n → (partsD (l.take i)).length ≤ 1048577000 := by
    intro i hi
    have := partsD_length (m := 1048576) (l.take i) fun d hd => by have h1 := hm d (List.mem_of_mem_take hd); have h2 := (h.ok d (List.mem_of_mem_take hd)).2.len; omega
    have h3 : (l.take i).length ≤ n := by rw [List.length_take, h.len]; omega
    exact Nat.le_trans this (Nat.le_trans (Nat.mul_le_mul (Nat.le_trans h3 hn) (Nat.le_refl _)) (by decide))
  have HLP := Lib.hid hlp
  have HM := Lib.hid hm
  clear hlp hm
  go_enter Tryz.func32, Tryz.ntmps32
  go_wp2
  go_loopw [3, 5, 7, 10, 44] (fun v3 _ _ v10 _ wr => ∃ (i : Nat) (l' : List DoneS), i ≤ n ∧ v10 = .int .i64 i ∧ l'.map DoneS.bare = partsD (l.take i) ∧ OwnDs wr w.heap.size v3 l' ∧ Below w.heap.size w wr) (fun _ _ _ v10 _ _ => n - (intOf v10).toNat)
  case atStart => exact ⟨0, [], Nat.zero_le _, rfl, rfl, OwnDs.nil _ _, Below.refl _ _⟩
  case round =>
    obtain ⟨i, l', hi, rfl, hmap, hown, hbr⟩ := hrel
    have HMAP := Lib.hid hmap
    have hlen' : l'.length ≤ 1048577000 := by have := HLP.out i hi; rw [← hmap, List.length_map] at this; exact this
    clear hmap
    by_cases hl : i < n
    · have hS := Lib.hid (partsD_snoc (l := l) (k := i) (by rw [L0.out]; exact hl))
      obtain ⟨hok, hrk⟩ := h.nth hl
      have hml : (nthD l i).len ≤ 1048576 := HM.out _ (by rw [nthD_eq (by rw [L0.out]; exact hl)]; exact List.getElem_mem _)
      have HOK := Lib.hid hok
      obtain ⟨b, o, rfl, hlt, hc⟩ := h.cells hl
      obtain ⟨c0, c1, c2, c3, c4, c5, c6, c7, c8, c9, c10, c11⟩ := RdD.at12 (ao := none) (n := 0) (cap := 0) hc hbr
      have hLl : (nthD l i).l.length = (nthD l i).len := hrk.len
      have HLL := Lib.hid hLl
      have HRK := Lib.hid hrk
      clear hrk hok hLl
      generalize nthD l i = d at *
      go_upto_region 5 with fail
      have hA := one_boxD wr d 42
      have hbW := below1 wr (.cells #[.int .i64 d.who, .int .i64 d.place, .int .i64 d.op, .int .i64 d.fl, .int .i64 d.a, .int .i64 d.b, .int .i64 d.e, .slice d.ao d.len d.cap, .int .i64 d.n, .int .u64 d.v, .int .i64 d.fr, .int .i64 d.to] 42)
      have hb1 := hbr.trans (hbW.mono hbr.size)
      have hown1 := hown.below hbW
      have hne : ∀ k, _ = some k → _ := owns_lt hown.1
      generalize wr.alloc (.cells #[.int .i64 d.who, .int .i64 d.place, .int .i64 d.op, .int .i64 d.fl, .int .i64 d.a, .int .i64 d.b, .int .i64 d.e, .slice d.ao d.len d.cap, .int .i64 d.n, .int .u64 d.v, .int .i64 d.fr, .int .i64 d.to] 42) = W at *
      generalize hnA : wr.heap.size = A at *
      have HA := Lib.hid hA
      have HO := Lib.hid hown1
      have HNE := Lib.hid hne
      clear hne
      clear c0 c1 c2 c3 c4 c5 c6 c7 c8 c9 c10 c11 hc hbW hbr hown hown1
      go_cut [34] from 11 to 67 (fun s34 wx => Below W.heap.size W wx ∧ s34 = .bool (!isBat d))
      case first =>
        obtain ⟨a0, a1, a2, a3, a4, a5, a6, a7, a8, a9, a10, a11⟩ := hA.cells
        clear hA
        by_cases h5 : d.op = 5
        · have e1 : (d.op != 5) = false := by simp [h5]
          have F : Hid (isBat d = (endedB d && (decide (d.e = 0) || decide (d.e = 10)))) := by unfold Hid isBat; simp [h5]
          clear h5
          go_wp2_with fail
          refine (ended_any d _).mono ?_
          cases he : endedB d
          · rintro e w1 ⟨rfl, hb2⟩
            go_wp2
            go_meet
            exact ⟨hb2, by rw [F.out, he]; rfl⟩
          · rintro e w1 ⟨rfl, hb2⟩
            clear a0 a1 a2 a3 a4 a5 a6 a7 a8 a9 a10 a11
            obtain ⟨_, _, _, _, _, _, a6, _, _, _, _, _⟩ := (HA.out.below hb2).cells
            by_cases h0 : d.e = 0
            · have G : Hid (isBat d = true) := by unfold Hid; rw [F.out, he, h0]; rfl
              have e2 : (d.e != 0) = false := by simp [h0]
              clear h0
              go_wp2
              go_meet
              exact ⟨hb2, by rw [G.out]; rfl⟩
            · have e2 : (d.e != 0) = true := by simpa using h0
              by_cases h10 : d.e = 10
              · have G : Hid (isBat d = true) := by unfold Hid; rw [F.out, he, h10]; rfl
                have e3 : (d.e != 10) = false := by simp [h10]
                clear h0 h10
                go_wp2
                go_meet
                exact ⟨hb2, by rw [G.out]; rfl⟩
              · have G : Hid (isBat d = false) := by unfold Hid; rw [F.out, he]; simp [h0, h10]
                have e3 : (d.e != 10) = true := by simpa using h10
                clear h0 h10
                go_wp2
                go_meet
                exact ⟨hb2, by rw [G.out]; rfl⟩
        · have e1 : (d.op != 5) = true := by simpa using h5
          have G : Hid (isBat d = false) := by unfold Hid isBat; simp [h5]
          clear h5
          go_wp2
          go_meet
          exact ⟨Below.refl _ _, by rw [G.out]; rfl⟩
      case rest =>
        obtain ⟨hb2, h34⟩ := hcut
        have hA2 := HA.out.below hb2
        have hown2 := HO.out.below hb2
        have hb3 := hb1.trans (hb2.mono hb1.size)
        obtain ⟨a0, a1, a2, a3, a4, a5, a6, a7, a8, a9, a10, a11⟩ := hA2.cells
        clear hA hb1 hb2
        cases hB : isBat d
        · rw [hB] at h34
          have h35 : _ = Value.bool true := h34
          subst h35
          have EP : Hid (partD d = [d.bare]) := by unfold Hid partD; rw [if_neg (by rw [hB]; simp)]
          have hrkc := HRK.out.below hb3
          have HO2 := Lib.hid hown2
          clear hB hown2
          go_wp2_with fail
          refine (histOwn_any d _ HOK.out hrkc (by omega)).mono ?_
          rintro e w3 ⟨y, rfl, hy, hOK, hb4⟩
          have hown3 := HO2.out.below hb4
          have hb5 := hb3.trans (hb4.mono hb3.size)
          have hbase : w.heap.size ≤ w3.heap.size := hb5.size
          have hn2 : l'.length + 1 ≤ 1099511627776 := by omega
          have HY := Lib.hid (hOK.base hb3.size)
          have HYB := Lib.hid hy
          clear a0 a1 a2 a3 a4 a5 a6 a7 a8 a9 a10 a11 hA2 hOK hy hrkc
          go_wp2_with ((at_builtin; refine ap_new w3 _ ED rfl _ _ rfl w.heap.size _ l'.length _ rfl hown3.1 hbase 1 rfl rfl (by simp [Value.oneCell']) hn2 ?_; intro v' w4 hown4 hg4 hb6 hfr4))
          go_roundw
          case rel =>
            refine ⟨i + 1, l' ++ [y], by omega, by go_num, ?_, hown3.push HY.out rfl hown4 hg4, hb5.trans hb6⟩
            rw [List.map_append, HMAP.out, hS.out, EP.out]; simp [HYB.out]
          case measure => simp [intOf]; omega
        · rw [hB] at h34
          have h35 : _ = Value.bool false := h34
          subst h35
          have EP : Hid (partD d = packD d d.l ++ emptyD d) := by unfold Hid partD; rw [if_pos hB]
          clear hB
          have HO2 := Lib.hid hown2
          have HA2 := Lib.hid hA2
          clear hown2 hA2
          generalize wc = W2 at *
          obtain ⟨XA, hXA⟩ : ∃ XA, d.ao = XA := ⟨_, rfl⟩
          rw [hXA] at a7
          have HXA := Lib.hid hXA
          clear hXA
          go_wp2_with fail
          go_loopw [3, 7, 44] (fun v3 _ v44 wr => ∃ (k : Nat) (l2 : List DoneS), k ≤ d.len ∧ v44 = .int .i64 k ∧ l2.map DoneS.bare = partsD (l.take i) ++ packD d (d.l.take k) ∧ OwnDs wr w.heap.size v3 l2 ∧ Below w.heap.size w wr ∧ BoxD wr A d 42 ∧ ∀ k, v3.ownBlock = some k → k ≠ A) (fun _ _ v44 _ => d.len - (intOf v44).toNat)
          case atStart => exact ⟨0, l', Nat.zero_le _, rfl, by rw [HMAP.out]; simp [packD], HO2.out, hb3, HA2.out, fun k hk => by have := (HNE.out k hk).2; omega⟩
          case round =>
            clear a0 a1 a2 a3 a4 a5 a6 a7 a8 a9 a10 a11
            obtain ⟨k, l2, hk, rfl, hmap2, hown, hbr, hAr, hne⟩ := hrel
            have HM2 := Lib.hid hmap2
            have hlen2 : l2.length ≤ 1049625576 := by
              have h1 := congrArg List.length hmap2
              have h2 := HLP.out i hi
              simp only [List.length_map, List.length_append, packD, List.length_take] at h1
              omega
            clear hmap2
            have HNE2 := Lib.hid hne
            have hAl := hAr.lt
            clear hne
            by_cases hl2 : k < d.len
            · have hT := Lib.hid (takeK_snoc (l := d.l) (k := k) (by rw [HLL.out]; exact hl2))
              have hpo := Lib.hid (HRK.out.ok_nth hl2)
              obtain ⟨pb, po, hpao, hplt, hpc⟩ := HRK.out.cells hl2
              obtain ⟨p0, p1, p2⟩ := hpc wr hbr
              have hXS := HXA.out.symm.trans hpao
              subst hXS
              generalize nthK d.l k = p at *
              clear hpao hpc
              go_upto_region 10 with fail
              have hbX := below1 wr (.cells #[.int .i64 p.flow, .int .i64 p.len, .int .i64 p.mark] 59)
              have hpb := heap_alloc_new wr (.cells #[.int .i64 p.flow, .int .i64 p.len, .int .i64 p.mark] 59)
              have hownX := hown.below hbX
              have hbrX := hbr.trans (hbX.mono hbr.size)
              have hAX := hAr.below hbX
              generalize wr.alloc (.cells #[.int .i64 p.flow, .int .i64 p.len, .int .i64 p.mark] 59) = X at *
              generalize hnP : wr.heap.size = PB at *
              clear p0 p1 p2 hbX hown hAr
              obtain ⟨a0, a1, a2, a3, a4, a5, a6, a7, a8, a9, a10, a11⟩ := hAX.cells
              have q0 : X.cell? ⟨PB, 0, none⟩ = some (.int .i64 p.flow) := by simp [World.cell?, hpb]
              have q1 : X.cell? ⟨PB, 1, none⟩ = some (.int .i64 p.len) := by simp [World.cell?, hpb]
              have q2 : X.cell? ⟨PB, 2, none⟩ = some (.int .i64 p.mark) := by simp [World.cell?, hpb]
              have O1 := Lib.hid (one_ownK X d p HOK.out hpo.out)
              have HX := Lib.hid hownX
              have HAX := Lib.hid hAX
              clear hpb hAX hownX
              go_wp2_with fail
              refine (single_any d 0 0 0 (some ⟨X.heap.size, 0, none⟩) 1 1 [p] _).mono ?_
              rintro e w3 ⟨rfl, hb4⟩
              have hbY := below1 X (.cells #[.int .i64 p.flow, .int .i64 p.len, .int .i64 p.mark] 59)
              have hown3 := (HX.out.below hbY).below hb4
              have hA3 := Lib.hid ((HAX.out.below hbY).below hb4)
              have hb5 := hbrX.trans ((below_step hbY hb4).mono hbrX.size)
              have O3 := Lib.hid ((O1.out.below hb4).base (show w.heap.size ≤ X.heap.size from hbrX.size))
              have hbase : w.heap.size ≤ w3.heap.size := hb5.size
              have hn2 : l2.length + 1 ≤ 1099511627776 := by omega
              simp only [oneD]
              clear a0 a1 a2 a3 a4 a5 a6 a7 a8 a9 a10 a11 q0 q1 q2 hbY hb4
              go_wp2_with ((at_builtin; refine ap_new w3 _ ED rfl _ _ rfl w.heap.size _ l2.length _ rfl hown3.1 hbase 1 rfl rfl (by simp [Value.oneCell']) hn2 ?_; intro v' w4 hown4 hg4 hb7 hfr4))
              go_roundw
              case rel =>
                refine ⟨k + 1, l2 ++ [oneD d 0 0 0 (some ⟨X.heap.size, 0, none⟩) 1 1 [p]], by omega, by go_num, ?_, hown3.push O3.out rfl hown4 hg4, hb5.trans hb7, ?_, ?_⟩
                · rw [List.map_append, HM2.out, hT.out, packD_snoc]; simp [oneD_bare]
                · exact (hg4.block A hA3.out.lt fun e => HNE2.out A e.symm rfl).trans hA3.out
                · intro q hq
                  rcases hfr4 with h4 | h4
                  · exact HNE2.out q (h4 ▸ hq)
                  · have h5 := h4 q hq
                    have h6 := hA3.out.lt
                    omega
              case measure => simp [intOf]; omega
            · obtain rfl : k = d.len := by omega
              have hT : Hid (d.l.take d.len = d.l) := by unfold Hid; rw [List.take_of_length_le (by rw [HLL.out]; omega)]
              obtain ⟨a0, a1, a2, a3, a4, a5, a6, a7, a8, a9, a10, a11⟩ := hAr.cells
              have hA9 := Lib.hid hAr
              have hown9 := Lib.hid hown
              clear hAr hown
              by_cases h10 : d.e = 10
              · have e1 : (d.e == 10) = true := by simp [h10]
                have EE : Hid (emptyD d = [oneD d 10 0 0 none 0 0 []]) := by unfold Hid emptyD; rw [if_pos h10]
                clear h10
                go_wp2_with fail
                refine (single_any d 10 0 0 none 0 0 [] _).mono ?_
                rintro e w3 ⟨rfl, hb4⟩
                have hown3 := hown9.out.below hb4
                have hb5 := hbr.trans (hb4.mono hbr.size)
                have hbase : w.heap.size ≤ w3.heap.size := hb5.size
                have hn2 : l2.length + 1 ≤ 1099511627776 := by omega
                simp only [oneD]
                clear a0 a1 a2 a3 a4 a5 a6 a7 a8 a9 a10 a11 hb4
                go_wp2_with ((at_builtin; refine ap_new w3 _ ED rfl _ _ rfl w.heap.size _ l2.length _ rfl hown3.1 hbase 1 rfl rfl (by simp [Value.oneCell']) hn2 ?_; intro v' w4 hown4 hg4 hb7 hfr4))
                go_roundw
                case rel =>
                  refine ⟨i + 1, l2 ++ [oneD d 10 0 0 none 0 0 []], by omega, by go_num, ?_, hown3.push (empty_ownK _ _ d HOK.out) rfl hown4 hg4, hb5.trans hb7⟩
                  rw [List.map_append, HM2.out, hS.out, EP.out, EE.out, hT.out]; simp [oneD_bare]
                case measure => simp [intOf]; omega
              · have e1 : (d.e == 10) = false := by simpa using h10
                have EE : Hid (emptyD d = []) := by unfold Hid emptyD; rw [if_neg h10]
                clear h10
                go_wp2
                go_roundw
                case rel =>
                  refine ⟨i + 1, l2, by omega, by go_num, ?_, hown9.out, hbr⟩
                  rw [HM2.out, hS.out, EP.out, EE.out, hT.out]; simp
                case measure => simp [intOf]; omega
    · obtain rfl : i = n := by omega
      have E : Hid (partsD l = partsD (l.take i)) := by unfold Hid; rw [List.take_of_length_le (by rw [L0.out]; omega)]
      go_wp2
      go_ret
      exact ⟨_, _, rfl, by rw [E.out]; exact HMAP.out, hown, hbr⟩
end Go.Proofs.YtdjooacjjnjfmaaGreat.H
end

-- Parts of calls: the reference.
section
namespace Go.Proofs.YtdjooacjjnjfmaaGreat.H
set_option linter.unusedVariables false
set_option linter.unusedSimpArgs false
open Go.RowKit Go.Proofs.YtdjooacjjnjfmaaGreatMem Go.Proofs.YtdjooacjjnjfmaaGreatFlat

theorem owns_far {w : World} {base : Nat} {e : TypeId} {size : Nat} {v : Value} {n : Nat} {xs : List Value} {B i : Nat} (h : w.ownsRow base e size v n xs) (hb : ∀ k, v.ownBlock = some k → k ≠ B) (u : Value) : (w.setCell ⟨B, i, none⟩ u).ownsRow base e size v n xs :=
  owns_fr (S := fun k => k = B) h (Fr.setCell (S := fun k => k = B) (a := ⟨B, i, none⟩) (Fr.refl _ _) (.inl rfl) u) hb
theorem OwnK.far {w : World} {base B i : Nat} {d y : DoneS} (h : OwnK w base d) (hB : BoxD w B y 42) (u : Value) : OwnK (w.setCell ⟨B, i, none⟩ u) base d := by
  refine ⟨owns_far h.1 (fun k hk e => ?_) u, h.2⟩
  subst e
  obtain ⟨cur, hc⟩ := own_heap h.1 hk
  unfold BoxD at hB
  rw [hB] at hc
  simp only [Option.some.injEq, Obj.cells.injEq] at hc
  exact absurd hc.2.1 (by decide)
theorem OwnDs.far {w : World} {base B i : Nat} {v : Value} {l : List DoneS} {y : DoneS} (h : OwnDs w base v l) (hv : ∀ k, v.ownBlock = some k → k ≠ B) (hB : BoxD w B y 42) (u : Value) : OwnDs (w.setCell ⟨B, i, none⟩ u) base v l :=
  ⟨owns_far h.1 hv u, fun d hd => (h.2 d hd).far hB u⟩

/-- What the reference keeps while it goes through a batch: the calls that it has, the part in its box. -/
structure Pt (w wr : World) (A B : Nat) (d y : DoneS) (v : Value) (l : List DoneS) : Prop where
  own : OwnDs wr w.heap.size v l
  bel : Below w.heap.size w wr
  boxA : BoxD wr A d 42
  boxB : BoxD wr B y 42
  neA : ∀ k, v.ownBlock = some k → k ≠ A
  neB : ∀ k, v.ownBlock = some k → k ≠ B
  ltB : w.heap.size ≤ B
  ab : A ≠ B
theorem Pt.put {w wr : World} {A B : Nat} {d y : DoneS} {v : Value} {l : List DoneS} (h : Pt w wr A B d y v l) {i : Nat} {u : Value} {z : DoneS} (e : y.cells.set i u = z.cells) : Pt w (wr.setCell ⟨B, i, none⟩ u) A B d z v l :=
  ⟨h.own.far h.neB h.boxB u, h.bel.setCell (p := ⟨B, i, none⟩) h.ltB u, h.boxA.far h.ab u, h.boxB.put e, h.neA, h.neB, h.ltB, h.ab⟩
theorem Pt.below {w wr w2 : World} {A B : Nat} {d y : DoneS} {v : Value} {l : List DoneS} (h : Pt w wr A B d y v l) (hb : Below wr.heap.size wr w2) : Pt w w2 A B d y v l :=
  ⟨h.own.below hb, h.bel.trans (hb.mono h.bel.size), h.boxA.below hb, h.boxB.below hb, h.neA, h.neB, h.ltB, h.ab⟩
theorem Pt.push {w wr w2 : World} {A B n : Nat} {d y z : DoneS} {v v' : Value} {l : List DoneS} (h : Pt w wr A B d y v l) (hz : OwnK wr w.heap.size z) (hn : l.length = n)
    (ho : w2.ownsRow w.heap.size 42 12 v' (n + 1) (doneC l ++ z.cells)) (hg : wr.grownBy w2 v.ownBlock) (hb : Below w.heap.size wr w2) (hf : FreshOr wr v v') : Pt w w2 A B d y v' (l ++ [z]) := by
  have key : ∀ X, X < wr.heap.size → (∀ k, v.ownBlock = some k → k ≠ X) → ∀ k, v'.ownBlock = some k → k ≠ X := by
    intro X hX hne k hk
    rcases hf with h4 | h4
    · exact hne k (h4 ▸ hk)
    · have := h4 k hk; omega
  exact ⟨h.own.push hz hn ho hg, h.bel.trans hb, (hg.block A h.boxA.lt fun e => h.neA A e.symm rfl).trans h.boxA, (hg.block B h.boxB.lt fun e => h.neB B e.symm rfl).trans h.boxB, key A h.boxA.lt h.neA, key B h.boxB.lt h.neB, h.ltB, h.ab⟩
/-- Its part made anew. -/
theorem Pt.part {w wr : World} {A B : Nat} {d : DoneS} {e n vv : Int} {ao : Option Addr} {len cap : Nat} {pl : List PkS} {v : Value} {l : List DoneS} (h : Pt w wr A B d (oneD d e n vv ao len cap pl) v l) (e' : Int) (ao' : Option Addr) (len' cap' : Nat) (pl' : List PkS) :
    Pt w ((((wr.setCell ⟨B, 6, none⟩ (.int .i64 e')).setCell ⟨B, 7, none⟩ (.slice ao' len' cap')).setCell ⟨B, 8, none⟩ (.int .i64 0)).setCell ⟨B, 9, none⟩ (.int .u64 0)) A B d (oneD d e' 0 0 ao' len' cap' pl') v l :=
  (((h.put (z := oneD d e' n vv ao len cap pl) rfl).put (z := oneD d e' n vv ao' len' cap' pl') rfl).put (z := oneD d e' 0 vv ao' len' cap' pl') rfl).put rfl
theorem OwnK.far4 {w : World} {base B : Nat} {d y : DoneS} (h : OwnK w base d) (hB : BoxD w B y 42) (u1 u2 u3 u4 : Value) {y1 y2 y3 : DoneS} (e1 : y.cells.set 6 u1 = y1.cells) (e2 : y1.cells.set 7 u2 = y2.cells) (e3 : y2.cells.set 8 u3 = y3.cells) :
    OwnK ((((w.setCell ⟨B, 6, none⟩ u1).setCell ⟨B, 7, none⟩ u2).setCell ⟨B, 8, none⟩ u3).setCell ⟨B, 9, none⟩ u4) base d :=
  (((h.far hB u1).far (hB.put e1) u2).far ((hB.put e1).put e2) u3).far (((hB.put e1).put e2).put e3) u4

set_option maxRecDepth 20000 in
set_option maxHeartbeats 2000000 in
theorem refParts_any (ao : Option Addr) (n cap : Nat) (l : List DoneS) (w : World) (h : RdD w ao n cap l) (hn : n ≤ 1000) (hm : ∀ d ∈ l, d.len ≤ 1048576) :
    Calls Tryz.prog 13 #[.slice ao n cap] w (RetDs w (partsD l)) := by
  have L0 := Lib.hid h.len
  have s0 := h.rd.small
  have hlp : ∀ i, i ≤ n → (partsD (l.take i)).length ≤ 1048577000 := by
    intro i hi
    have := partsD_length (m := 1048576) (l.take i) fun d hd => by have h1 := hm d (List.mem_of_mem_take hd); have h2 := (h.ok d (List.mem_of_mem_take hd)).2.len; omega
    have h3 : (l.take i).length ≤ n := by rw [List.length_take, h.len]; omega
    exact Nat.le_trans this (Nat.le_trans (Nat.mul_le_mul (Nat.le_trans h3 hn) (Nat.le_refl _)) (by decide))
  have HLP := Lib.hid hlp
  have HM := Lib.hid hm
  clear hlp hm
  go_enter Tryz.func13, Tryz.ntmps13
  go_wp2
  go_loopw [3, 4, 5, 6, 7] (fun v3 v4 _ _ _ wr => ∃ (i : Nat) (l' : List DoneS), i ≤ n ∧ v4 = .int .i64 i ∧ l'.map DoneS.bare = partsD (l.take i) ∧ OwnDs wr w.heap.size v3 l' ∧ Below w.heap.size w wr) (fun _ v4 _ _ _ _ => n - (intOf v4).toNat)
  case atStart => exact ⟨0, [], Nat.zero_le _, rfl, rfl, OwnDs.nil _ _, Below.refl _ _⟩
  case round =>
    obtain ⟨i, l', hi, rfl, hmap, hown, hbr⟩ := hrel
    have HMAP := Lib.hid hmap
    have hlen' : l'.length ≤ 1048577000 := by have := HLP.out i hi; rw [← hmap, List.length_map] at this; exact this
    clear hmap
    by_cases hl : i < n
    · have hS := Lib.hid (partsD_snoc (l := l) (k := i) (by rw [L0.out]; exact hl))
      obtain ⟨hok, hrk⟩ := h.nth hl
      have hml : (nthD l i).len ≤ 1048576 := HM.out _ (by rw [nthD_eq (by rw [L0.out]; exact hl)]; exact List.getElem_mem _)
      have HOK := Lib.hid hok
      obtain ⟨b, o, rfl, hlt, hc⟩ := h.cells hl
      obtain ⟨c0, c1, c2, c3, c4, c5, c6, c7, c8, c9, c10, c11⟩ := RdD.at12 (ao := none) (n := 0) (cap := 0) hc hbr
      have hLl : (nthD l i).l.length = (nthD l i).len := hrk.len
      have HLL := Lib.hid hLl
      have HRK := Lib.hid hrk
      clear hrk hok hLl
      generalize nthD l i = d at *
      go_upto_region 6 with fail
      have hA := one_boxD wr d 42
      have hbW := below1 wr (.cells #[.int .i64 d.who, .int .i64 d.place, .int .i64 d.op, .int .i64 d.fl, .int .i64 d.a, .int .i64 d.b, .int .i64 d.e, .slice d.ao d.len d.cap, .int .i64 d.n, .int .u64 d.v, .int .i64 d.fr, .int .i64 d.to] 42)
      have hb1 := hbr.trans (hbW.mono hbr.size)
      have hown1 := hown.below hbW
      have hne : ∀ k, _ = some k → _ := owns_lt hown.1
      have hAw := hbr.size
      generalize wr.alloc (.cells #[.int .i64 d.who, .int .i64 d.place, .int .i64 d.op, .int .i64 d.fl, .int .i64 d.a, .int .i64 d.b, .int .i64 d.e, .slice d.ao d.len d.cap, .int .i64 d.n, .int .u64 d.v, .int .i64 d.fr, .int .i64 d.to] 42) = W at *
      generalize hnA : wr.heap.size = A at *
      have HNE := Lib.hid hne
      clear c0 c1 c2 c3 c4 c5 c6 c7 c8 c9 c10 c11 hc hbW hbr hown hne
      have HA := Lib.hid hA
      have HO := Lib.hid hown1
      obtain ⟨a0, a1, a2, a3, a4, a5, a6, a7, a8, a9, a10, a11⟩ := hA.cells
      go_cut [38] from 8 to 82 (fun s38 wx => wx = W ∧ s38 = .bool (!isBat d))
      case first =>
        clear hA hown1
        by_cases h5 : d.op = 5
        · have e1 : (d.op != 5) = false := by simp [h5]
          have F : Hid (isBat d = (decide (d.to ≠ -1) && (decide (d.e = 0) || decide (d.e = 10)))) := by unfold Hid isBat endedB; simp [h5]
          clear h5
          by_cases ht : d.to = -1
          · have e2 : (d.to == -1) = true := by simp [ht]
            have G : Hid (isBat d = false) := by unfold Hid; rw [F.out]; simp [ht]
            clear ht
            go_wp2
            go_meet
            exact ⟨rfl, by rw [G.out]; rfl⟩
          · have e2 : (d.to == -1) = false := by simpa using ht
            by_cases h0 : d.e = 0
            · have G : Hid (isBat d = true) := by unfold Hid; rw [F.out, h0]; simp [ht]
              have e3 : (d.e != 0) = false := by simp [h0]
              clear h0 ht
              go_wp2
              go_meet
              exact ⟨rfl, by rw [G.out]; rfl⟩
            · have e3 : (d.e != 0) = true := by simpa using h0
              by_cases h10 : d.e = 10
              · have G : Hid (isBat d = true) := by unfold Hid; rw [F.out, h10]; simp [ht]
                have e4 : (d.e != 10) = false := by simp [h10]
                clear h0 h10 ht
                go_wp2
                go_meet
                exact ⟨rfl, by rw [G.out]; rfl⟩
              · have G : Hid (isBat d = false) := by unfold Hid; rw [F.out]; simp [h0, h10]
                have e4 : (d.e != 10) = true := by simpa using h10
                clear h0 h10 ht
                go_wp2
                go_meet
                exact ⟨rfl, by rw [G.out]; rfl⟩
        · have e1 : (d.op != 5) = true := by simpa using h5
          have G : Hid (isBat d = false) := by unfold Hid isBat; simp [h5]
          clear h5
          go_wp2
          go_meet
          exact ⟨rfl, by rw [G.out]; rfl⟩
      case rest =>
        obtain ⟨rfl, h38⟩ := hcut
        cases hB : isBat d
        · rw [hB] at h38
          have h39 : _ = Value.bool true := h38
          subst h39
          have EP : Hid (partD d = [d.bare]) := by unfold Hid partD; rw [if_neg (by rw [hB]; simp)]
          have hrkc := HRK.out.below hb1
          have HRC := Lib.hid hrkc
          have f7 := hA.frozen 7
          have hbase : wc.heap.size ≤ wc.heap.size := Nat.le_refl _
          have hAl := hA.lt
          have hl2 : (pkC d.l).length = d.len * 3 := by rw [pkC_length, HLL.out]
          have HL2 := Lib.hid hl2
          have hcc : ∀ j u, (pkC d.l)[j]? = some u → ∃ b off, d.ao = some ⟨b, off, none⟩ ∧ wc.cell? ⟨b, off + j, none⟩ = some u := by
            intro j u hu
            obtain ⟨b, off, e, hlt, hc⟩ := hrkc.rd.at_ j u hu
            exact ⟨b, off, e, hc⟩
          have HCC := Lib.hid hcc
          have hN := Lib.hid hrkc.rd.nil
          have hnn : 0 + d.len ≤ 1099511627776 := by omega
          clear hB hrkc hl2 hcc hA hown1 f7
          go_upto_region 8 with ((at_builtin; refine ap_src wc EPK rfl _ _ rfl wc.heap.size _ 0 _ rfl (World.ownsRow_nil _ _ _ _) hbase d.ao d.len d.cap (pkC d.l) rfl hN.out HL2.out HCC.out (pkC_one _) hnn ?_; intro v' w3 hown3 hg3 hb3 hfr3; rw [Nat.zero_add, List.nil_append] at hown3; obtain ⟨ac, cc, rfl⟩ := owns_slice hown3; have hA3 := HA.out.below hb3; have HA3 := Lib.hid hA3; have hO3 := Lib.hid (HO.out.below hb3); have f7 := hA3.frozen 7; clear a0 a1 a2 a3 a4 a5 a6 a7 a8 a9 a10 a11; obtain ⟨a0, a1, a2, a3, a4, a5, a6, a7, a8, a9, a10, a11⟩ := hA3.cells; clear hA3))
          have hA4 : BoxD (w3.setCell ⟨A, 7, none⟩ (.slice ac d.len cc)) A { d with ao := ac, cap := cc } 42 := HA3.out.put rfl
          have hO4 := hO3.out.far (i := 7) (fun k hk => by have := (HNE.out k hk).2; omega) HA3.out (.slice ac d.len cc)
          have hy3 : OwnK w3 w.heap.size { d with ao := ac, cap := cc } := ⟨owns_base hown3 hb1.size, HOK.out, HRC.out.ok⟩
          have hy4 := Lib.hid (hy3.far (i := 7) HA3.out (.slice ac d.len cc))
          have hb4 : Below w.heap.size w (w3.setCell ⟨A, 7, none⟩ (.slice ac d.len cc)) := (hb1.trans (hb3.mono hb1.size)).setCell (p := ⟨A, 7, none⟩) hAw _
          generalize w3.setCell ⟨A, 7, none⟩ (.slice ac d.len cc) = W4 at *
          clear a0 a1 a2 a3 a4 a5 a6 a7 a8 a9 a10 a11 f7 hy3 hown3 hg3
          obtain ⟨a0, a1, a2, a3, a4, a5, a6, a7, a8, a9, a10, a11⟩ := hA4.cells
          simp only at a0 a1 a2 a3 a4 a5 a6 a7 a8 a9 a10 a11
          clear hA4
          have hbase4 : w.heap.size ≤ W4.heap.size := hb4.size
          have hn2 : l'.length + 1 ≤ 1099511627776 := by omega
          go_wp2_with ((at_builtin; refine ap_new W4 _ ED rfl _ _ rfl w.heap.size _ l'.length _ rfl hO4.1 hbase4 1 rfl rfl (by simp [Value.oneCell']) hn2 ?_; intro v' w5 hown5 hg5 hb5 hfr5))
          go_roundw
          case rel =>
            refine ⟨i + 1, l' ++ [{ d with ao := ac, cap := cc }], by omega, by go_num, ?_, hO4.push (y := { d with ao := ac, cap := cc }) hy4.out rfl hown5 hg5, hb4.trans hb5⟩
            rw [List.map_append, HMAP.out, hS.out, EP.out]; rfl
          case measure => simp [intOf]; omega
        · rw [hB] at h38
          have h39 : _ = Value.bool false := h38
          subst h39
          have EP : Hid (partD d = packD d d.l ++ emptyD d) := by unfold Hid partD; rw [if_pos hB]
          clear hB
          go_upto_region 10 with fail
          have hbX := below1 wc (.cells #[.int .i64 d.who, .int .i64 d.place, .int .i64 d.op, .int .i64 d.fl, .int .i64 d.a, .int .i64 d.b, .int .i64 d.e, .slice d.ao d.len d.cap, .int .i64 d.n, .int .u64 d.v, .int .i64 d.fr, .int .i64 d.to] 42)
          have hBX := one_boxD wc d 42
          have P0 : Pt w (wc.alloc (.cells #[.int .i64 d.who, .int .i64 d.place, .int .i64 d.op, .int .i64 d.fl, .int .i64 d.a, .int .i64 d.b, .int .i64 d.e, .slice d.ao d.len d.cap, .int .i64 d.n, .int .u64 d.v, .int .i64 d.fr, .int .i64 d.to] 42)) A wc.heap.size d d _ l' := ⟨hown1.below hbX, hb1.trans (hbX.mono hb1.size), hA.below hbX, hBX, fun k hk => by have := (HNE.out k hk).2; omega, fun k hk => by have := (HNE.out k hk).2; have := hA.lt; omega, hb1.size, by have := hA.lt; omega⟩
          clear a0 a1 a2 a3 a4 a5 a6 a7 a8 a9 a10 a11 hA hown1 hb1 hbX hBX
          generalize wc.alloc (.cells #[.int .i64 d.who, .int .i64 d.place, .int .i64 d.op, .int .i64 d.fl, .int .i64 d.a, .int .i64 d.b, .int .i64 d.e, .slice d.ao d.len d.cap, .int .i64 d.n, .int .u64 d.v, .int .i64 d.fr, .int .i64 d.to] 42) = X at *
          generalize hnB : wc.heap.size = B at *
          have z2 := P0.boxB.frozen 2
          have z3 := P0.boxB.frozen 3
          have z4 := P0.boxB.frozen 4
          have z5 := P0.boxB.frozen 5
          obtain ⟨b0, b1, b2, b3, b4, b5, b6, b7, b8, b9, b10, b11⟩ := P0.boxB.cells
          have P1 := (((P0.put (i := 2) (u := .int .i64 4) (z := { d with op := 4 }) rfl).put (i := 3) (u := .int .i64 0) (z := { d with op := 4, fl := 0 }) rfl).put (i := 4) (u := .int .i64 0) (z := { d with op := 4, fl := 0, a := 0 }) rfl).put (i := 5) (u := .int .i64 0) (z := oneD d d.e d.n d.v d.ao d.len d.cap d.l) rfl
          go_upto_region 11 with fail
          clear P0 b0 b1 b2 b3 b4 b5 b6 b7 b8 b9 b10 b11 z2 z3 z4 z5
          generalize (((X.setCell ⟨B, 2, none⟩ (.int .i64 4)).setCell ⟨B, 3, none⟩ (.int .i64 0)).setCell ⟨B, 4, none⟩ (.int .i64 0)).setCell ⟨B, 5, none⟩ (.int .i64 0) = X1 at *
          have HP1 := Lib.hid P1
          clear P1
          go_wp2_with fail
          go_loopw [3, 7] (fun v3 v7 wr => ∃ (k : Nat) (l2 : List DoneS) (e n vv : Int) (ao : Option Addr) (len cap : Nat) (pl : List PkS), k ≤ d.len ∧ v7 = .int .i64 k ∧ l2.map DoneS.bare = partsD (l.take i) ++ packD d (d.l.take k) ∧ Pt w wr A B d (oneD d e n vv ao len cap pl) v3 l2) (fun _ v7 _ => d.len - (intOf v7).toNat)
          case atStart => exact ⟨0, l', d.e, d.n, d.v, d.ao, d.len, d.cap, d.l, Nat.zero_le _, rfl, by rw [HMAP.out]; simp [packD], HP1.out⟩
          case round =>
            obtain ⟨k, l2, e, n', vv, ao, len, cap', pl, hk, rfl, hmap2, P⟩ := hrel
            have HM2 := Lib.hid hmap2
            have hlen2 : l2.length ≤ 1049625576 := by
              have h1 := congrArg List.length hmap2
              have h2 := HLP.out i hi
              simp only [List.length_map, List.length_append, packD, List.length_take] at h1
              omega
            clear hmap2
            have HP := Lib.hid P
            have hbr := P.bel
            obtain ⟨a0, a1, a2, a3, a4, a5, a6, a7, a8, a9, a10, a11⟩ := P.boxA.cells
            clear P
            by_cases hl2 : k < d.len
            · have hT := Lib.hid (takeK_snoc (l := d.l) (k := k) (by rw [HLL.out]; exact hl2))
              have hpo := Lib.hid (HRK.out.ok_nth hl2)
              obtain ⟨pb, po, hpao, hplt, hpc⟩ := HRK.out.cells hl2
              obtain ⟨p0, p1, p2⟩ := hpc wr hbr
              rw [hpao] at a7
              generalize nthK d.l k = p at *
              clear hpao hpc
              obtain ⟨b0, b1, b2, b3, b4, b5, b6, b7, b8, b9, b10, b11⟩ := HP.out.boxB.cells
              have z6 := HP.out.boxB.frozen 6
              have z7 := HP.out.boxB.frozen 7
              have z8 := HP.out.boxB.frozen 8
              have z9 := HP.out.boxB.frozen 9
              have hBlt := HP.out.boxB.lt
              go_upto_region 15 with fail
              have P2 := HP.out.part 0 (some ⟨wr.heap.size, 0, none⟩) 1 1 [p]
              have hsz : ((((wr.setCell ⟨B, 6, none⟩ (.int .i64 0)).setCell ⟨B, 7, none⟩ (.slice (some ⟨wr.heap.size, 0, none⟩) 1 1)).setCell ⟨B, 8, none⟩ (.int .i64 0)).setCell ⟨B, 9, none⟩ (.int .u64 0)).heap.size = wr.heap.size := by simp [World.setCell]
              generalize (((wr.setCell ⟨B, 6, none⟩ (.int .i64 0)).setCell ⟨B, 7, none⟩ (.slice (some ⟨wr.heap.size, 0, none⟩) 1 1)).setCell ⟨B, 8, none⟩ (.int .i64 0)).setCell ⟨B, 9, none⟩ (.int .u64 0) = W4 at *
              have O3 := one_ownK W4 d p HOK.out hpo.out
              have P3 := P2.below (below1 W4 (.cells #[.int .i64 p.flow, .int .i64 p.len, .int .i64 p.mark] 59))
              rw [hsz] at O3
              have O4 := Lib.hid (O3.base hbr.size)
              generalize hnPB : wr.heap.size = PB at *
              generalize W4.alloc (.cells #[.int .i64 p.flow, .int .i64 p.len, .int .i64 p.mark] 59) = W5 at *
              clear a0 a1 a2 a3 a4 a5 a6 a7 a8 a9 a10 a11 b0 b1 b2 b3 b4 b5 b6 b7 b8 b9 b10 b11 z6 z7 z8 z9 hBlt O3 P2 hsz hnPB hbr p0 p1 p2
              obtain ⟨b0, b1, b2, b3, b4, b5, b6, b7, b8, b9, b10, b11⟩ := P3.boxB.cells
              simp only [oneD] at b0 b1 b2 b3 b4 b5 b6 b7 b8 b9 b10 b11
              have hown5 := P3.own.1
              have hbase : w.heap.size ≤ W5.heap.size := P3.bel.size
              have hn2 : l2.length + 1 ≤ 1099511627776 := by omega
              have HP3 := Lib.hid P3
              clear P3
              go_wp2_with ((at_builtin; refine ap_new W5 _ ED rfl _ _ rfl w.heap.size _ l2.length _ rfl hown5 hbase 1 rfl rfl (by simp [Value.oneCell']) hn2 ?_; intro v' w6 hown6 hg6 hb6 hfr6))
              go_roundw
              case rel =>
                refine ⟨k + 1, l2 ++ [oneD d 0 0 0 (some ⟨PB, 0, none⟩) 1 1 [p]], 0, 0, 0, some ⟨PB, 0, none⟩, 1, 1, [p], by omega, by go_num, ?_, HP3.out.push (z := oneD d 0 0 0 (some ⟨PB, 0, none⟩) 1 1 [p]) O4.out rfl hown6 hg6 hb6 hfr6⟩
                rw [List.map_append, HM2.out, hT.out, packD_snoc]; simp [oneD_bare]
              case measure => simp [intOf]; omega
            · obtain rfl : k = d.len := by omega
              have hT : Hid (d.l.take d.len = d.l) := by unfold Hid; rw [List.take_of_length_le (by rw [HLL.out]; omega)]
              obtain ⟨b0, b1, b2, b3, b4, b5, b6, b7, b8, b9, b10, b11⟩ := HP.out.boxB.cells
              have z6 := HP.out.boxB.frozen 6
              have z7 := HP.out.boxB.frozen 7
              have z8 := HP.out.boxB.frozen 8
              have z9 := HP.out.boxB.frozen 9
              by_cases h10 : d.e = 10
              · have e1 : (d.e == 10) = true := by simp [h10]
                have EE : Hid (emptyD d = [oneD d 10 0 0 none 0 0 []]) := by unfold Hid emptyD; rw [if_pos h10]
                clear h10
                go_upto_region 18 with fail
                have P2 := HP.out.part 10 none 0 0 []
                generalize (((wr.setCell ⟨B, 6, none⟩ (.int .i64 10)).setCell ⟨B, 7, none⟩ (.slice none 0 0)).setCell ⟨B, 8, none⟩ (.int .i64 0)).setCell ⟨B, 9, none⟩ (.int .u64 0) = W5 at *
                clear a0 a1 a2 a3 a4 a5 a6 a7 a8 a9 a10 a11 b0 b1 b2 b3 b4 b5 b6 b7 b8 b9 b10 b11 z6 z7 z8 z9
                obtain ⟨b0, b1, b2, b3, b4, b5, b6, b7, b8, b9, b10, b11⟩ := P2.boxB.cells
                simp only [oneD] at b0 b1 b2 b3 b4 b5 b6 b7 b8 b9 b10 b11
                have hown5 := P2.own.1
                have hbase : w.heap.size ≤ W5.heap.size := P2.bel.size
                have hn2 : l2.length + 1 ≤ 1099511627776 := by omega
                have HP3 := Lib.hid P2
                clear P2
                go_wp2_with ((at_builtin; refine ap_new W5 _ ED rfl _ _ rfl w.heap.size _ l2.length _ rfl hown5 hbase 1 rfl rfl (by simp [Value.oneCell']) hn2 ?_; intro v' w6 hown6 hg6 hb6 hfr6))
                go_roundw
                case rel =>
                  have P4 := HP3.out.push (z := oneD d 10 0 0 none 0 0 []) (empty_ownK _ _ d HOK.out) rfl hown6 hg6 hb6 hfr6
                  refine ⟨i + 1, l2 ++ [oneD d 10 0 0 none 0 0 []], by omega, by go_num, ?_, P4.own, P4.bel⟩
                  rw [List.map_append, HM2.out, hS.out, EP.out, EE.out, hT.out]; simp [oneD_bare]
                case measure => simp [intOf]; omega
              · have e1 : (d.e == 10) = false := by simpa using h10
                have EE : Hid (emptyD d = []) := by unfold Hid emptyD; rw [if_neg h10]
                clear h10
                go_wp2
                go_roundw
                case rel =>
                  refine ⟨i + 1, l2, by omega, by go_num, ?_, HP.out.own, HP.out.bel⟩
                  rw [HM2.out, hS.out, EP.out, EE.out, hT.out]; simp
                case measure => simp [intOf]; omega
    · obtain rfl : i = n := by omega
      have E : Hid (partsD l = partsD (l.take i)) := by unfold Hid; rw [List.take_of_length_le (by rw [L0.out]; omega)]
      go_wp2
      go_ret
      exact ⟨_, _, rfl, by rw [E.out]; exact HMAP.out, hown, hbr⟩
end Go.Proofs.YtdjooacjjnjfmaaGreat.H
end
