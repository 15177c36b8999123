/- Parts of calls: a call in memory of its own, a part for one packet. -/
import Derived.Test.YtonldjkmbapjeaaHist8
namespace Go.Proofs.Ytonldjkmbapjeaa
set_option linter.unusedVariables false
set_option linter.unusedSimpArgs false
open Go.RowKit Go.Proofs.YtonldjkmbapjeaaMem Go.Proofs.YtonldjkmbapjeaaFlat

theorem EPK : ElT Try.prog 26 49 (.agg #[.int .i64 0, .int .i64 0, .int .i64 0]) 3 := ⟨Try.underlying26, ⟨24, by kernel_rfl, by omega⟩, rfl, by omega⟩

set_option maxHeartbeats 1000000 in
theorem cloneK_any (ao : Option Addr) (n cap : Nat) (l : List PkS) (w : World) (h : RdK w ao n cap l) (hn : n ≤ 549755813888) :
    Calls Try.prog 43 #[.slice ao n cap] w (RetRow w 49 3 n (pkC l)) := by
  have hse := fun w a n c => Lib.run_eql_slice_nil (P := Try.prog) w 26 49 a n c 0 0 Try.underlying26
  have hl := h.len
  cases ao with
  | none =>
    obtain ⟨rfl, rfl⟩ := h.rd.nil rfl
    have e : l = [] := List.eq_nil_of_length_eq_zero hl
    subst e
    go_enter Try.func43, Try.ntmps43
    go_wp2
    go_ret
    exact ⟨_, rfl, World.ownsRow_nil _ _ _ _, Below.refl _ _⟩
  | some ad =>
    have hl2 : (pkC l).length = n * 3 := by rw [pkC_length, hl]
    have hc : ∀ j u, (pkC l)[j]? = some u → ∃ b off, some ad = some ⟨b, off, none⟩ ∧ (w.alloc (.cells #[] 49)).cell? ⟨b, off + j, none⟩ = some u := by
      intro j u hu
      obtain ⟨b, off, e, hlt, hc⟩ := (h.rd.below ((Below.refl _ _).alloc (Nat.le_refl _) (.cells #[] 49))).at_ j u hu
      exact ⟨b, off, e, hc⟩
    have h1 : ∀ u ∈ pkC l, u.oneCell' = true := pkC_one l
    have hn2 : 0 + n ≤ 1099511627776 := by omega
    have HC := Lib.hid hc
    have H1 := Lib.hid h1
    have HL := Lib.hid hl2
    clear hc h1 hl2 hl
    go_enter Try.func43, Try.ntmps43
    go_wp2_with ((at_builtin; refine ap_src (w.alloc (.cells #[] 49)) EPK rfl _ _ rfl w.heap.size _ 0 _ rfl (owns_empty w w.heap.size 49 3 (Nat.le_refl _)) (by simp) (some ad) n cap (pkC l) rfl (fun h => by cases h) HL.out HC.out H1.out hn2 ?_; intro v' w3 hown3 hg3 hb3 hfr3))
    go_ret
    exact ⟨_, rfl, by simpa using hown3, ((Below.refl _ _).alloc (Nat.le_refl _) _).trans hb3⟩

/-- A call whose packets lie in memory of its own. -/
def OwnK (w : World) (base : Nat) (d : DoneS) : Prop := w.ownsRow base 49 3 (.slice d.ao d.len d.cap) d.len (pkC d.l) ∧ d.Ok ∧ ∀ p ∈ d.l, p.Ok
theorem OwnK.below {w w' : World} {base : Nat} {d : DoneS} (h : OwnK w base d) (hb : Below w.heap.size w w') : OwnK w' base d := ⟨owns_below (B := 0) h.1 hb, h.2⟩
theorem OwnK.base {w : World} {b b' : Nat} {d : DoneS} (h : OwnK w b d) (hb : b' ≤ b) : OwnK w b' d := ⟨owns_base h.1 hb, h.2⟩
theorem OwnK.rd {w : World} {base : Nat} {d : DoneS} (h : OwnK w base d) : d.Ok ∧ RdK w d.ao d.len d.cap d.l :=
  ⟨h.2.1, owns_rdS h.1 (pkC_one _), by have := h.1.1; rw [pkC_length] at this; omega, h.2.2⟩
/-- What it says, wherever its packets lie. -/
def DoneS.bare (d : DoneS) : DoneS := { d with ao := none, len := 0, cap := 0 }
/-- A call that hands back a call with packets of its own. -/
def RetK (w : World) (x : DoneS) (e : Ending) (w' : World) : Prop := ∃ y : DoneS, e = .returned (.agg #[.int .i64 y.who, .int .i64 y.place, .int .i64 y.op, .int .i64 y.fl, .int .i64 y.a, .int .i64 y.b, .int .i64 y.e, .slice y.ao y.len y.cap, .int .i64 y.n, .int .u64 y.v, .int .i64 y.fr, .int .i64 y.to]) ∧ y.bare = x ∧ OwnK w' w.heap.size y ∧ Below w.heap.size w w'

set_option maxHeartbeats 1000000 in
theorem histOwn_any (d : DoneS) (w : World) (ok : d.Ok) (h : RdK w d.ao d.len d.cap d.l) (hn : d.len ≤ 549755813888) :
    Calls Try.prog 38 #[(.agg #[.int .i64 d.who, .int .i64 d.place, .int .i64 d.op, .int .i64 d.fl, .int .i64 d.a, .int .i64 d.b, .int .i64 d.e, .slice d.ao d.len d.cap, .int .i64 d.n, .int .u64 d.v, .int .i64 d.fr, .int .i64 d.to])] w (RetK w d.bare) := by
  go_enter Try.func38, Try.ntmps38
  go_upto_region 1 with fail
  have T := TwoD.start w d DoneS.zero
  obtain ⟨A, hA⟩ : ∃ A, A = w.heap.size := ⟨_, rfl⟩
  simp only [DoneS.zero] at T
  have hAW : A + 2 ≤ ((w.alloc (.cells #[.int .i64 d.who, .int .i64 d.place, .int .i64 d.op, .int .i64 d.fl, .int .i64 d.a, .int .i64 d.b, .int .i64 d.e, .slice d.ao d.len d.cap, .int .i64 d.n, .int .u64 d.v, .int .i64 d.fr, .int .i64 d.to] 31)).alloc (.cells #[.int .i64 0, .int .i64 0, .int .i64 0, .int .i64 0, .int .i64 0, .int .i64 0, .int .i64 0, .slice none 0 0, .int .i64 0, .int .u64 0, .int .i64 0, .int .i64 0] 31)).heap.size := by simp [hA]
  rw [← hA] at T ⊢
  generalize ((w.alloc (.cells #[.int .i64 d.who, .int .i64 d.place, .int .i64 d.op, .int .i64 d.fl, .int .i64 d.a, .int .i64 d.b, .int .i64 d.e, .slice d.ao d.len d.cap, .int .i64 d.n, .int .u64 d.v, .int .i64 d.fr, .int .i64 d.to] 31)).alloc (.cells #[.int .i64 0, .int .i64 0, .int .i64 0, .int .i64 0, .int .i64 0, .int .i64 0, .int .i64 0, .slice none 0 0, .int .i64 0, .int .u64 0, .int .i64 0, .int .i64 0] 31)) = W at *
  have RK := Lib.hid (h.below T.2.2.1)
  obtain ⟨a0, a1, a2, a3, a4, a5, a6, a7, a8, a9, a10, a11⟩ := T.1.cells
  have HA := Lib.hid hA
  have T0 := Lib.hid T
  clear T hA h
  go_wp2_with fail
  refine (cloneK_any _ _ _ _ _ RK.out hn).mono ?_
  rintro e w1 ⟨v, rfl, hown, hb⟩
  obtain ⟨a', c', rfl⟩ := owns_slice hown
  have T1 : TwoD w A d DoneS.zero w1 := ⟨T0.out.1.below hb, T0.out.2.1.below hb, T0.out.2.2.1.trans (hb.mono T0.out.2.2.1.size), T0.out.2.2.2⟩
  clear a0 a1 a2 a3 a4 a5 a6 a7 a8 a9 a10 a11
  have f7 := T1.1.frozen 7
  obtain ⟨_, _, _, _, _, _, _, x7, _, _, _, _⟩ := T1.1.cells
  have hge : ∀ k, (Value.slice a' d.len c').ownBlock = some k → ¬ (k = A ∨ k = A + 1) := fun k hk => by have := (owns_lt hown k hk).1; omega
  have O2 : (w1.setCell ⟨A, 7, none⟩ (.slice a' d.len c')).ownsRow W.heap.size 49 3 (.slice a' d.len c') d.len (pkC d.l) := owns_fr (S := fun k => k = A ∨ k = A + 1) hown ((Fr.refl _ _).setCell (.inl (.inl rfl)) _) hge
  have T2 : TwoD w A { d with ao := a', cap := c' } DoneS.zero (w1.setCell ⟨A, 7, none⟩ (.slice a' d.len c')) := T1.put rfl
  go_upto_region 2 with fail
  generalize w1.setCell ⟨A, 7, none⟩ (.slice a' d.len c') = W2 at *
  clear T1 f7 x7
  obtain ⟨a0, a1, a2, a3, a4, a5, a6, a7, a8, a9, a10, a11⟩ := T2.1.cells
  obtain ⟨b0, b1, b2, b3, b4, b5, b6, b7, b8, b9, b10, b11⟩ := T2.2.1.cells
  simp only [DoneS.zero] at b0 b1 b2 b3 b4 b5 b6 b7 b8 b9 b10 b11
  have z0 := T2.2.1.frozen 0
  have z1 := T2.2.1.frozen 1
  have z2 := T2.2.1.frozen 2
  have z3 := T2.2.1.frozen 3
  have z4 := T2.2.1.frozen 4
  have z5 := T2.2.1.frozen 5
  have z6 := T2.2.1.frozen 6
  have z7 := T2.2.1.frozen 7
  have z8 := T2.2.1.frozen 8
  have z9 := T2.2.1.frozen 9
  have z10 := T2.2.1.frozen 10
  have z11 := T2.2.1.frozen 11
  have TH := Lib.hid T2
  have OH := Lib.hid O2
  have GH := Lib.hid hge
  clear T2 O2 hge hown hb
  go_wp2
  refine bodyPost_ret (v := (.agg #[.int .i64 d.who, .int .i64 d.place, .int .i64 d.op, .int .i64 d.fl, .int .i64 d.a, .int .i64 d.b, .int .i64 d.e, .slice a' d.len c', .int .i64 d.n, .int .u64 d.v, .int .i64 d.fr, .int .i64 d.to])) (by simp [results, Try.results38, go_sem, b0, b1, b2, b3, b4, b5, b6, b7, b8, b9, b10, b11]) rfl ⟨{ d with ao := a', cap := c' }, rfl, rfl, ⟨?_, ok, RK.out.ok⟩, ?_⟩
  · refine owns_base (owns_fr (S := fun k => k = A ∨ k = A + 1) OH.out ?_ GH.out) (by have := HA.out; omega)
    iterate 12 refine Fr.setCell ?_ (.inl (.inr rfl)) _
    exact Fr.refl _ _
  · have hle : w.heap.size ≤ A + 1 := by have := TH.out.2.2.2; omega
    iterate 12 refine Below.setCell (p := ⟨A + 1, _, none⟩) ?_ hle _
    exact TH.out.2.2.1

def oneD (d : DoneS) (e n v : Int) (ao : Option Addr) (len cap : Nat) (l : List PkS) : DoneS := { d with op := 4, fl := 0, a := 0, b := 0, e := e, n := n, v := v, ao := ao, len := len, cap := cap, l := l }
theorem oneD_ok {d : DoneS} {e : Int} {ao : Option Addr} {len cap : Nat} {l : List PkS} (h : d.Ok) (he : I64 e) : (oneD d e 0 0 ao len cap l).Ok := by
  obtain ⟨h0, h1, h2, h3, h4, h5, h6, h7, h8, h9, h10⟩ := h
  have z4 : I64 4 := by unfold I64; omega
  have z0 : I64 0 := by unfold I64; omega
  exact ⟨h0, h1, z4, z0, z0, z0, he, z0, by simp [oneD], h9, h10⟩

set_option maxHeartbeats 1000000 in
theorem single_any (d : DoneS) (e n v : Int) (ao : Option Addr) (len cap : Nat) (l : List PkS) (w : World) :
    Calls Try.prog 39 #[(.agg #[.int .i64 d.who, .int .i64 d.place, .int .i64 d.op, .int .i64 d.fl, .int .i64 d.a, .int .i64 d.b, .int .i64 d.e, .slice d.ao d.len d.cap, .int .i64 d.n, .int .u64 d.v, .int .i64 d.fr, .int .i64 d.to]), .agg #[.int .i64 e, .slice ao len cap, .int .i64 n, .int .u64 v]] w fun en w' => en = .returned (.agg #[.int .i64 (oneD d e n v ao len cap l).who, .int .i64 (oneD d e n v ao len cap l).place, .int .i64 (oneD d e n v ao len cap l).op, .int .i64 (oneD d e n v ao len cap l).fl, .int .i64 (oneD d e n v ao len cap l).a, .int .i64 (oneD d e n v ao len cap l).b, .int .i64 (oneD d e n v ao len cap l).e, .slice (oneD d e n v ao len cap l).ao (oneD d e n v ao len cap l).len (oneD d e n v ao len cap l).cap, .int .i64 (oneD d e n v ao len cap l).n, .int .u64 (oneD d e n v ao len cap l).v, .int .i64 (oneD d e n v ao len cap l).fr, .int .i64 (oneD d e n v ao len cap l).to]) ∧ Below w.heap.size w w' := by
  go_enter Try.func39, Try.ntmps39
  go_wp2
  go_region
  all_goals go_wp2
  all_goals refine bodyPost_ret (v := (.agg #[.int .i64 d.who, .int .i64 d.place, .int .i64 4, .int .i64 0, .int .i64 0, .int .i64 0, .int .i64 e, .slice ao len cap, .int .i64 n, .int .u64 v, .int .i64 d.fr, .int .i64 d.to])) (by simp [results, Try.results39, go_sem]) rfl ⟨rfl, ?_⟩
  all_goals repeat (first | exact Below.refl _ _ | refine Below.setCell ?_ (by simp <;> omega) _ | refine Below.alloc ?_ (by simp <;> omega) _ | refine Below.drew ?_)
end Go.Proofs.Ytonldjkmbapjeaa
