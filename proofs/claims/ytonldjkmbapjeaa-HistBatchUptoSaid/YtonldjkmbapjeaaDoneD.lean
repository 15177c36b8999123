/- Calls of a history (api.Done), as they lie in memory and as plain data. -/
import Derived.Test.YtonldjkmbapjeaaRecs
import Derived.Test.YtonldjkmbapjeaaMemS
import Derived.Test.YtonldjkmbapjeaaNest
import Derived.Test.YtonldjkmbapjeaaChecked
import Derived.KernelRfl
namespace Go.Proofs.Ytonldjkmbapjeaa
set_option linter.unusedVariables false
set_option linter.unusedSimpArgs false
open Go.RowKit Go.Proofs.YtonldjkmbapjeaaMem Go.Proofs.YtonldjkmbapjeaaFlat

structure PkS where
  flow : Int
  len : Int
  mark : Int
  deriving DecidableEq
def PkS.cells (p : PkS) : List Value := [.int .i64 p.flow, .int .i64 p.len, .int .i64 p.mark]
def PkS.Ok (p : PkS) : Prop := I64 p.flow ∧ I64 p.len ∧ I64 p.mark
theorem pkS_cells (p : PkS) : p.cells.length = 3 := rfl
def pkC (l : List PkS) : List Value := l.flatMap PkS.cells
theorem pkC_length (l : List PkS) : (pkC l).length = l.length * 3 := recs_length pkS_cells l
theorem pkC_one (l : List PkS) : ∀ u ∈ pkC l, u.oneCell' = true := by
  intro u hu
  simp only [pkC, List.mem_flatMap, PkS.cells] at hu
  obtain ⟨p, _, hu⟩ := hu
  simp only [List.mem_cons, List.not_mem_nil, or_false] at hu
  rcases hu with rfl | rfl | rfl <;> rfl
/-- What a slice of packets reads as. -/
structure RdK (w : World) (ao : Option Addr) (n cap : Nat) (l : List PkS) : Prop where
  rd : RdS w ao n cap 3 (pkC l)
  len : l.length = n
  ok : ∀ p ∈ l, p.Ok
theorem RdK.below {w w' : World} {ao : Option Addr} {n cap : Nat} {l : List PkS} (h : RdK w ao n cap l) (hb : Below w.heap.size w w') : RdK w' ao n cap l := ⟨h.rd.below hb, h.len, h.ok⟩
theorem pkS_of {cs : List Value} (h : FlatOk [.int .i64, .int .i64, .int .i64] cs) : ∃ p : PkS, cs = p.cells ∧ p.Ok := by
  obtain ⟨c, r, rfl, ⟨a, rfl, ha⟩, c2, r2, rfl, ⟨b, rfl, hb⟩, c3, r3, rfl, ⟨d, rfl, hd⟩, rfl⟩ := h
  exact ⟨⟨a, b, d⟩, rfl, i64_of_wf ha, i64_of_wf hb, i64_of_wf hd⟩
theorem rows_pkS {L : List (List Value)} (h : ∀ l ∈ L, FlatOk [.int .i64, .int .i64, .int .i64] l) : ∃ ls : List PkS, L.flatten = pkC ls ∧ L.length = ls.length ∧ ∀ a ∈ ls, a.Ok := by
  induction L with
  | nil => exact ⟨[], rfl, rfl, fun a ha => by cases ha⟩
  | cons l L ih =>
    obtain ⟨ls, e1, e2, ho⟩ := ih fun l hl => h l (List.mem_cons_of_mem _ hl)
    obtain ⟨a, rfl, ha⟩ := pkS_of (h l (List.mem_cons_self ..))
    refine ⟨a :: ls, by rw [List.flatten_cons, e1]; simp [pkC], by simp [e2], fun a' h' => ?_⟩
    rcases List.mem_cons.1 h' with rfl | h'
    · exact ha
    · exact ho a' h'
theorem isRows_rdK {w : World} {ao : Option Addr} {len cap : Nat} {L : List (List Value)} (h : IsRows w [.int .i64, .int .i64, .int .i64] ao len cap L) : ∃ l, RdK w ao len cap l := by
  have hr := isRows_rdS (by decide) h
  obtain ⟨ls, e1, e2, ho⟩ := rows_pkS h.2.2.2.2.1
  rw [e1] at hr
  exact ⟨ls, hr, by rw [← e2]; exact h.1, ho⟩

structure DoneS where
  who : Int
  place : Int
  op : Int
  fl : Int
  a : Int
  b : Int
  e : Int
  ao : Option Addr
  len : Nat
  cap : Nat
  n : Int
  v : Int
  fr : Int
  to : Int
  l : List PkS
def DoneS.cells (d : DoneS) : List Value := [.int .i64 d.who, .int .i64 d.place, .int .i64 d.op, .int .i64 d.fl, .int .i64 d.a, .int .i64 d.b, .int .i64 d.e, .slice d.ao d.len d.cap, .int .i64 d.n, .int .u64 d.v, .int .i64 d.fr, .int .i64 d.to]
def DoneS.Ok (d : DoneS) : Prop := I64 d.who ∧ I64 d.place ∧ I64 d.op ∧ I64 d.fl ∧ I64 d.a ∧ I64 d.b ∧ I64 d.e ∧ I64 d.n ∧ (0 ≤ d.v ∧ d.v ≤ 18446744073709551615) ∧ I64 d.fr ∧ I64 d.to
def DoneS.zero : DoneS := ⟨0, 0, 0, 0, 0, 0, 0, none, 0, 0, 0, 0, 0, 0, []⟩
theorem doneS_cells (d : DoneS) : d.cells.length = 12 := rfl
def doneC (l : List DoneS) : List Value := l.flatMap DoneS.cells
theorem doneC_length (l : List DoneS) : (doneC l).length = l.length * 12 := recs_length doneS_cells l
theorem doneC_snoc (l : List DoneS) (d : DoneS) : doneC (l ++ [d]) = doneC l ++ d.cells := by simp [doneC]
theorem doneC_one (l : List DoneS) : ∀ u ∈ doneC l, u.oneCell' = true := by
  intro u hu
  simp only [doneC, List.mem_flatMap, DoneS.cells] at hu
  obtain ⟨p, _, hu⟩ := hu
  simp only [List.mem_cons, List.not_mem_nil, or_false] at hu
  rcases hu with rfl | rfl | rfl | rfl | rfl | rfl | rfl | rfl | rfl | rfl | rfl | rfl <;> rfl
def nthD (l : List DoneS) (k : Nat) : DoneS := l.getD k DoneS.zero
theorem nthD_eq {l : List DoneS} {k : Nat} (h : k < l.length) : nthD l k = l[k] := by simp [nthD, h]
theorem nthD_some {l : List DoneS} {k : Nat} (h : k < l.length) : l[k]? = some (nthD l k) := by rw [nthD_eq h]; simp [h]

/-- What a slice of calls reads as; their packets read too. -/
structure RdD (w : World) (ao : Option Addr) (n cap : Nat) (l : List DoneS) : Prop where
  rd : RdS w ao n cap 12 (doneC l)
  len : l.length = n
  ok : ∀ d ∈ l, d.Ok ∧ RdK w d.ao d.len d.cap d.l
theorem RdD.below {w w' : World} {ao : Option Addr} {n cap : Nat} {l : List DoneS} (h : RdD w ao n cap l) (hb : Below w.heap.size w w') : RdD w' ao n cap l := ⟨h.rd.below hb, h.len, fun d hd => ⟨(h.ok d hd).1, (h.ok d hd).2.below hb⟩⟩
theorem RdD.nth {w : World} {ao : Option Addr} {n cap : Nat} {l : List DoneS} (h : RdD w ao n cap l) {k : Nat} (hk : k < n) : (nthD l k).Ok ∧ RdK w (nthD l k).ao (nthD l k).len (nthD l k).cap (nthD l k).l := by
  rw [nthD_eq (show k < l.length by rw [h.len]; exact hk)]
  exact h.ok _ (List.getElem_mem _)
theorem RdD.cells {w : World} {ao : Option Addr} {n cap : Nat} {l : List DoneS} (h : RdD w ao n cap l) {k : Nat} (hk : k < n) :
    ∃ b off, ao = some ⟨b, off, none⟩ ∧ b < w.heap.size ∧ ∀ w', Below w.heap.size w w' → ∀ i u, (nthD l k).cells[i]? = some u → w'.cell? ⟨b, off + k * 12 + i, none⟩ = some u :=
  rds_rec doneS_cells (by omega) h.rd (nthD_some (by rw [h.len]; exact hk))

abbrev doneK : List Kn := [.k (.int .i64), .k (.int .i64), .k (.int .i64), .k (.int .i64), .k (.int .i64), .k (.int .i64), .k (.int .i64), .rows [.int .i64, .int .i64, .int .i64], .k (.int .i64), .k (.int .u64), .k (.int .i64), .k (.int .i64)]
theorem done_kinds : nestK Try.prog 8 31 = some doneK := by kernel_rfl
theorem u64_of_wf {n : Int} (h : (Lit.int .u64 n).wf = true) : 0 ≤ n ∧ n ≤ 18446744073709551615 := by
  simp only [Lit.wf, Bool.and_eq_true, decide_eq_true_eq, IntKind.min, IntKind.max] at h
  simp [IntKind.signed, IntKind.bits] at h
  omega
theorem done_of {w : World} {cs : List Value} (h : NestOk w doneK cs) : ∃ d : DoneS, cs = d.cells ∧ d.Ok ∧ RdK w d.ao d.len d.cap d.l := by
  obtain ⟨c, r, rfl, ⟨x0, rfl, h0⟩, c, r, rfl, ⟨x1, rfl, h1⟩, c, r, rfl, ⟨x2, rfl, h2⟩, c, r, rfl, ⟨x3, rfl, h3⟩, c, r, rfl, ⟨x4, rfl, h4⟩, c, r, rfl, ⟨x5, rfl, h5⟩, c, r, rfl, ⟨x6, rfl, h6⟩, c, r, rfl, ⟨ao, len, cap, L, rfl, hL⟩, c, r, rfl, ⟨x8, rfl, h8⟩, c, r, rfl, ⟨x9, rfl, h9⟩, c, r, rfl, ⟨x10, rfl, h10⟩, c, r, rfl, ⟨x11, rfl, h11⟩, rfl⟩ := h
  obtain ⟨l, hl⟩ := isRows_rdK hL
  exact ⟨⟨x0, x1, x2, x3, x4, x5, x6, ao, len, cap, x8, x9, x10, x11, l⟩, rfl, ⟨i64_of_wf h0, i64_of_wf h1, i64_of_wf h2, i64_of_wf h3, i64_of_wf h4, i64_of_wf h5, i64_of_wf h6, i64_of_wf h8, u64_of_wf h9, i64_of_wf h10, i64_of_wf h11⟩, hl⟩
theorem nests_dones {w : World} {L : List (List Value)} (h : ∀ l ∈ L, NestOk w doneK l) : ∃ ls : List DoneS, L = ls.map DoneS.cells ∧ ∀ d ∈ ls, d.Ok ∧ RdK w d.ao d.len d.cap d.l := by
  induction L with
  | nil => exact ⟨[], rfl, fun a ha => by cases ha⟩
  | cons l L ih =>
    obtain ⟨ls, e1, ho⟩ := ih fun l hl => h l (List.mem_cons_of_mem _ hl)
    obtain ⟨a, rfl, ha⟩ := done_of (h l (List.mem_cons_self ..))
    refine ⟨a :: ls, by rw [e1]; rfl, fun a' h' => ?_⟩
    rcases List.mem_cons.1 h' with rfl | h'
    · exact ha
    · exact ho a' h'
theorem recs_split {α : Type} {f : α → List Value} {s : Nat} (hf : ∀ x, (f x).length = s) (hs : 0 < s) : ∀ (l : List α) (j : Nat) (u : Value), (l.flatMap f)[j]? = some u → ∃ k i x, j = k * s + i ∧ l[k]? = some x ∧ (f x)[i]? = some u := by
  intro l
  induction l with
  | nil => intro j u h; simp at h
  | cons y l ih =>
    intro j u h
    rw [List.flatMap_cons] at h
    by_cases hj : j < s
    · rw [List.getElem?_append_left (by rw [hf]; exact hj)] at h
      exact ⟨0, j, y, by omega, rfl, h⟩
    · rw [List.getElem?_append_right (by rw [hf]; omega), hf] at h
      obtain ⟨k, i, x, e1, e2, e3⟩ := ih _ u h
      exact ⟨k + 1, i, x, by rw [Nat.succ_mul]; omega, by simpa using e2, e3⟩
theorem isNest_rdD {w : World} {ao : Option Addr} {len cap : Nat} {L : List (List Value)} (h : IsNest w doneK ao len cap L) : ∃ l, RdD w ao len cap l := by
  obtain ⟨hl, hc, hm, hn, hf, hat⟩ := h
  obtain ⟨ls, rfl, ho⟩ := nests_dones hf
  have hlen : ls.length = len := by simpa using hl
  refine ⟨ls, ⟨by rw [doneC_length, hlen], hc, hn, by unfold maxLen at hm; omega, doneC_one ls, fun j u hu => ?_⟩, hlen, ho⟩
  obtain ⟨k, i, x, e1, e2, e3⟩ := recs_split doneS_cells (by omega) ls j u hu
  have hk : k < ls.length := (List.getElem?_eq_some_iff.1 e2).1
  obtain ⟨b, off, e, hb, hcell⟩ := hat (by omega)
  exact ⟨b, off, e, hb, by rw [e1]; exact hcell k x.cells (by simp [e2]) i u e3⟩
end Go.Proofs.Ytonldjkmbapjeaa
