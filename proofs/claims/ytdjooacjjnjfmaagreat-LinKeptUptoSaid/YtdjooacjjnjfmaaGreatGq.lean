/- Several texts in one: Recs DoneD Hist1 Hist2 Hist3 Hist4 Hist7 Hist8. -/
import Derived.Test.YtdjooacjjnjfmaaGreatGa
import Derived.Test.YtdjooacjjnjfmaaGreatGf
import Derived.Test.YtdjooacjjnjfmaaGreatChecked
import Derived.KernelRfl
import Derived.Test.YtdjooacjjnjfmaaGreatGb
import Derived.WalkKit
import Derived.WalkSpells
import Derived.WalkLawsBesides
import Derived.Lib.Hide
import Derived.Deep.CutRange
import Derived.Deep.RegionWith
import Derived.Deep.CutBlock
-- Slices of records of plain cells: how the k-th one reads.
section
namespace Go.Proofs.YtdjooacjjnjfmaaGreatMem
set_option linter.unusedVariables false
set_option linter.unusedSimpArgs false
open Go Go.RowKit Go.Proofs.YtdjooacjjnjfmaaGreatFlat

theorem recs_at {α : Type} {f : α → List Value} {s : Nat} (hf : ∀ x, (f x).length = s) : ∀ (l : List α) (k : Nat) (x : α), l[k]? = some x → ∀ i u, (f x)[i]? = some u → (l.flatMap f)[k * s + i]? = some u := by
  intro l
  induction l with
  | nil => intro k x h; simp at h
  | cons y l ih =>
    intro k x h i u hu
    rw [List.flatMap_cons]
    cases k with
    | zero =>
      simp at h; subst h
      have hi : i < (f y).length := (List.getElem?_eq_some_iff.1 hu).1
      rw [Nat.zero_mul, Nat.zero_add, List.getElem?_append_left hi]; exact hu
    | succ k =>
      simp at h
      rw [List.getElem?_append_right (by rw [hf, Nat.succ_mul]; omega), hf, show (k + 1) * s + i - s = k * s + i by rw [Nat.succ_mul]; omega]
      exact ih k x h i u hu
theorem recs_length {α : Type} {f : α → List Value} {s : Nat} (hf : ∀ x, (f x).length = s) (l : List α) : (l.flatMap f).length = l.length * s := by
  induction l with
  | nil => simp
  | cons x l ih => rw [List.flatMap_cons, List.length_append, hf, ih, List.length_cons, Nat.succ_mul]; omega

theorem rds_rec {α : Type} {f : α → List Value} {s : Nat} (hf : ∀ x, (f x).length = s) (hs : 0 < s) {w : World} {ao : Option Addr} {n cap : Nat} {l : List α} (h : RdS w ao n cap s (l.flatMap f)) {k : Nat} {x : α} (hx : l[k]? = some x) :
    ∃ b off, ao = some ⟨b, off, none⟩ ∧ b < w.heap.size ∧ ∀ w', Below w.heap.size w w' → ∀ i u, (f x)[i]? = some u → w'.cell? ⟨b, off + k * s + i, none⟩ = some u := by
  have h0 : ∃ u, (f x)[0]? = some u := ⟨(f x)[0]'(by rw [hf]; exact hs), by simp [hf, hs]⟩
  obtain ⟨u0, h0⟩ := h0
  obtain ⟨b, off, e, hb, _⟩ := h.at_ _ _ (recs_at hf l k x hx 0 u0 h0)
  refine ⟨b, off, e, hb, fun w' hbl i u hu => ?_⟩
  obtain ⟨b', off', e', hb', hc⟩ := h.at_ _ _ (recs_at hf l k x hx i u hu)
  rw [e] at e'
  simp only [Option.some.injEq, Addr.mk.injEq, and_true] at e'
  obtain ⟨rfl, rfl⟩ := e'
  have h2 := hbl.cell (p := ⟨b, off + (k * s + i), none⟩) hb
  rw [← Nat.add_assoc] at h2 hc
  exact h2.trans hc

theorem kd_one {k : Kd} {v : Value} (h : KdOk k v) : v.oneCell' = true := by
  cases k with
  | bool => obtain ⟨b, rfl⟩ := h; rfl
  | int q => obtain ⟨n, rfl, _⟩ := h; rfl
theorem flat_one : ∀ {ks : List Kd} {cs : List Value}, FlatOk ks cs → ∀ u ∈ cs, u.oneCell' = true
  | [], cs, h, u, hu => by cases h; cases hu
  | k :: ks, cs, h, u, hu => by
    obtain ⟨c, r, rfl, hc, hr⟩ := h
    rcases List.mem_cons.1 hu with rfl | hu
    · exact kd_one hc
    · exact flat_one hr u hu
theorem flatten_at {s : Nat} : ∀ (L : List (List Value)), (∀ l ∈ L, l.length = s) → 0 < s → ∀ j u, L.flatten[j]? = some u → ∃ i r l, j = i * s + r ∧ L[i]? = some l ∧ l[r]? = some u := by
  intro L
  induction L with
  | nil => intro _ _ j u h; simp at h
  | cons l L ih =>
    intro hL hs j u h
    have hl : l.length = s := hL l (List.mem_cons_self ..)
    rw [List.flatten_cons] at h
    by_cases hj : j < s
    · rw [List.getElem?_append_left (by omega)] at h
      exact ⟨0, j, l, by omega, rfl, h⟩
    · rw [List.getElem?_append_right (by omega), hl] at h
      obtain ⟨i, r, l', e1, e2, e3⟩ := ih (fun l' h' => hL l' (List.mem_cons_of_mem _ h')) hs _ u h
      exact ⟨i + 1, r, l', by rw [Nat.succ_mul]; omega, by simpa using e2, e3⟩
theorem isRows_rdS {w : World} {ks : List Kd} {ao : Option Addr} {n cap : Nat} {L : List (List Value)} (hk : 0 < ks.length) (h : IsRows w ks ao n cap L) : RdS w ao n cap ks.length L.flatten := by
  obtain ⟨hl, hc, hm, hn, hf, hat⟩ := h
  have hlen : ∀ l ∈ L, l.length = ks.length := fun l h => (hf l h).length
  refine ⟨?_, hc, hn, by unfold maxLen at hm; omega, ?_, ?_⟩
  · have : L.flatten = L.flatMap id := by simp [List.flatMap]
    rw [← hl]
    clear hat hf hn hl
    induction L with
    | nil => simp
    | cons l L ih =>
      rw [List.flatten_cons, List.length_append, List.length_cons, Nat.succ_mul, hlen l (List.mem_cons_self ..), ih (fun l' h' => hlen l' (List.mem_cons_of_mem _ h')) (by simp)]
      omega
  · intro u hu
    obtain ⟨l, hl, hu⟩ := List.mem_flatten.1 hu
    exact flat_one (hf l hl) u hu
  · intro j u hu
    obtain ⟨i, r, l, e1, e2, e3⟩ := flatten_at L hlen hk j u hu
    have hi : i < L.length := (List.getElem?_eq_some_iff.1 e2).1
    obtain ⟨b, off, he, hb, hcell⟩ := hat (by omega)
    exact ⟨b, off, he, hb, by rw [e1]; exact hcell i l e2 r u e3⟩
end Go.Proofs.YtdjooacjjnjfmaaGreatMem
end

-- Calls of a history (api.Done), as they lie in memory and as plain data.
section
namespace Go.Proofs.YtdjooacjjnjfmaaGreat.H
set_option linter.unusedVariables false
set_option linter.unusedSimpArgs false
open Go.RowKit Go.Proofs.YtdjooacjjnjfmaaGreatMem Go.Proofs.YtdjooacjjnjfmaaGreatFlat

structure PkS where
  flow : Int
  len : Int
  mark : Int
  deriving DecidableEq
def PkS.cells (p : PkS) : List Value := [.int .i64 p.flow, .int .i64 p.len, .int .i64 p.mark]
def PkS.Ok (p : PkS) : Prop := I64 p.flow ∧ I64 p.len ∧ I64 p.mark
theorem pkS_cells (p : PkS) : p.cells.length = 3 := rfl
def pkC (l : List PkS) : List Value := l.flatMap PkS.cells
theorem pkC_length (l : List PkS) : (pkC l).length = l.length * 3 := recs_length pkS_cells l
theorem pkC_one (l : List PkS) : ∀ u ∈ pkC l, u.oneCell' = true := by
  intro u hu
  simp only [pkC, List.mem_flatMap, PkS.cells] at hu
  obtain ⟨p, _, hu⟩ := hu
  simp only [List.mem_cons, List.not_mem_nil, or_false] at hu
  rcases hu with rfl | rfl | rfl <;> rfl
/-- What a slice of packets reads as. -/
structure RdK (w : World) (ao : Option Addr) (n cap : Nat) (l : List PkS) : Prop where
  rd : RdS w ao n cap 3 (pkC l)
  len : l.length = n
  ok : ∀ p ∈ l, p.Ok
theorem RdK.below {w w' : World} {ao : Option Addr} {n cap : Nat} {l : List PkS} (h : RdK w ao n cap l) (hb : Below w.heap.size w w') : RdK w' ao n cap l := ⟨h.rd.below hb, h.len, h.ok⟩
theorem pkS_of {cs : List Value} (h : FlatOk [.int .i64, .int .i64, .int .i64] cs) : ∃ p : PkS, cs = p.cells ∧ p.Ok := by
  obtain ⟨c, r, rfl, ⟨a, rfl, ha⟩, c2, r2, rfl, ⟨b, rfl, hb⟩, c3, r3, rfl, ⟨d, rfl, hd⟩, rfl⟩ := h
  exact ⟨⟨a, b, d⟩, rfl, i64_of_wf ha, i64_of_wf hb, i64_of_wf hd⟩
theorem rows_pkS {L : List (List Value)} (h : ∀ l ∈ L, FlatOk [.int .i64, .int .i64, .int .i64] l) : ∃ ls : List PkS, L.flatten = pkC ls ∧ L.length = ls.length ∧ ∀ a ∈ ls, a.Ok := by
  induction L with
  | nil => exact ⟨[], rfl, rfl, fun a ha => by cases ha⟩
  | cons l L ih =>
    obtain ⟨ls, e1, e2, ho⟩ := ih fun l hl => h l (List.mem_cons_of_mem _ hl)
    obtain ⟨a, rfl, ha⟩ := pkS_of (h l (List.mem_cons_self ..))
    refine ⟨a :: ls, by rw [List.flatten_cons, e1]; simp [pkC], by simp [e2], fun a' h' => ?_⟩
    rcases List.mem_cons.1 h' with rfl | h'
    · exact ha
    · exact ho a' h'
theorem isRows_rdK {w : World} {ao : Option Addr} {len cap : Nat} {L : List (List Value)} (h : IsRows w [.int .i64, .int .i64, .int .i64] ao len cap L) : ∃ l, RdK w ao len cap l := by
  have hr := isRows_rdS (by decide) h
  obtain ⟨ls, e1, e2, ho⟩ := rows_pkS h.2.2.2.2.1
  rw [e1] at hr
  exact ⟨ls, hr, by rw [← e2]; exact h.1, ho⟩

structure DoneS where
  who : Int
  place : Int
  op : Int
  fl : Int
  a : Int
  b : Int
  e : Int
  ao : Option Addr
  len : Nat
  cap : Nat
  n : Int
  v : Int
  fr : Int
  «to» : Int
  l : List PkS
def DoneS.cells (d : DoneS) : List Value := [.int .i64 d.who, .int .i64 d.place, .int .i64 d.op, .int .i64 d.fl, .int .i64 d.a, .int .i64 d.b, .int .i64 d.e, .slice d.ao d.len d.cap, .int .i64 d.n, .int .u64 d.v, .int .i64 d.fr, .int .i64 d.to]
def DoneS.Ok (d : DoneS) : Prop := I64 d.who ∧ I64 d.place ∧ I64 d.op ∧ I64 d.fl ∧ I64 d.a ∧ I64 d.b ∧ I64 d.e ∧ I64 d.n ∧ (0 ≤ d.v ∧ d.v ≤ 18446744073709551615) ∧ I64 d.fr ∧ I64 d.to
def DoneS.zero : DoneS := ⟨0, 0, 0, 0, 0, 0, 0, none, 0, 0, 0, 0, 0, 0, []⟩
theorem doneS_cells (d : DoneS) : d.cells.length = 12 := rfl
def doneC (l : List DoneS) : List Value := l.flatMap DoneS.cells
theorem doneC_length (l : List DoneS) : (doneC l).length = l.length * 12 := recs_length doneS_cells l
theorem doneC_snoc (l : List DoneS) (d : DoneS) : doneC (l ++ [d]) = doneC l ++ d.cells := by simp [doneC]
theorem doneC_one (l : List DoneS) : ∀ u ∈ doneC l, u.oneCell' = true := by
  intro u hu
  simp only [doneC, List.mem_flatMap, DoneS.cells] at hu
  obtain ⟨p, _, hu⟩ := hu
  simp only [List.mem_cons, List.not_mem_nil, or_false] at hu
  rcases hu with rfl | rfl | rfl | rfl | rfl | rfl | rfl | rfl | rfl | rfl | rfl | rfl <;> rfl
def nthD (l : List DoneS) (k : Nat) : DoneS := l.getD k DoneS.zero
theorem nthD_eq {l : List DoneS} {k : Nat} (h : k < l.length) : nthD l k = l[k] := by simp [nthD, h]
theorem nthD_some {l : List DoneS} {k : Nat} (h : k < l.length) : l[k]? = some (nthD l k) := by rw [nthD_eq h]; simp [h]

/-- What a slice of calls reads as; their packets read too. -/
structure RdD (w : World) (ao : Option Addr) (n cap : Nat) (l : List DoneS) : Prop where
  rd : RdS w ao n cap 12 (doneC l)
  len : l.length = n
  ok : ∀ d ∈ l, d.Ok ∧ RdK w d.ao d.len d.cap d.l
theorem RdD.below {w w' : World} {ao : Option Addr} {n cap : Nat} {l : List DoneS} (h : RdD w ao n cap l) (hb : Below w.heap.size w w') : RdD w' ao n cap l := ⟨h.rd.below hb, h.len, fun d hd => ⟨(h.ok d hd).1, (h.ok d hd).2.below hb⟩⟩
theorem RdD.nth {w : World} {ao : Option Addr} {n cap : Nat} {l : List DoneS} (h : RdD w ao n cap l) {k : Nat} (hk : k < n) : (nthD l k).Ok ∧ RdK w (nthD l k).ao (nthD l k).len (nthD l k).cap (nthD l k).l := by
  rw [nthD_eq (show k < l.length by rw [h.len]; exact hk)]
  exact h.ok _ (List.getElem_mem _)
theorem RdD.cells {w : World} {ao : Option Addr} {n cap : Nat} {l : List DoneS} (h : RdD w ao n cap l) {k : Nat} (hk : k < n) :
    ∃ b off, ao = some ⟨b, off, none⟩ ∧ b < w.heap.size ∧ ∀ w', Below w.heap.size w w' → ∀ i u, (nthD l k).cells[i]? = some u → w'.cell? ⟨b, off + k * 12 + i, none⟩ = some u :=
  rds_rec doneS_cells (by omega) h.rd (nthD_some (by rw [h.len]; exact hk))

abbrev doneK : List Kn := [.k (.int .i64), .k (.int .i64), .k (.int .i64), .k (.int .i64), .k (.int .i64), .k (.int .i64), .k (.int .i64), .rows [.int .i64, .int .i64, .int .i64], .k (.int .i64), .k (.int .u64), .k (.int .i64), .k (.int .i64)]
theorem done_kinds : nestK Tryz.prog 8 42 = some doneK := by kernel_rfl
theorem u64_of_wf {n : Int} (h : (Lit.int .u64 n).wf = true) : 0 ≤ n ∧ n ≤ 18446744073709551615 := by
  simp only [Lit.wf, Bool.and_eq_true, decide_eq_true_eq, IntKind.min, IntKind.max] at h
  simp [IntKind.signed, IntKind.bits] at h
  omega
theorem done_of {w : World} {cs : List Value} (h : NestOk w doneK cs) : ∃ d : DoneS, cs = d.cells ∧ d.Ok ∧ RdK w d.ao d.len d.cap d.l := by
  obtain ⟨c, r, rfl, ⟨x0, rfl, h0⟩, c, r, rfl, ⟨x1, rfl, h1⟩, c, r, rfl, ⟨x2, rfl, h2⟩, c, r, rfl, ⟨x3, rfl, h3⟩, c, r, rfl, ⟨x4, rfl, h4⟩, c, r, rfl, ⟨x5, rfl, h5⟩, c, r, rfl, ⟨x6, rfl, h6⟩, c, r, rfl, ⟨ao, len, cap, L, rfl, hL⟩, c, r, rfl, ⟨x8, rfl, h8⟩, c, r, rfl, ⟨x9, rfl, h9⟩, c, r, rfl, ⟨x10, rfl, h10⟩, c, r, rfl, ⟨x11, rfl, h11⟩, rfl⟩ := h
  obtain ⟨l, hl⟩ := isRows_rdK hL
  exact ⟨⟨x0, x1, x2, x3, x4, x5, x6, ao, len, cap, x8, x9, x10, x11, l⟩, rfl, ⟨i64_of_wf h0, i64_of_wf h1, i64_of_wf h2, i64_of_wf h3, i64_of_wf h4, i64_of_wf h5, i64_of_wf h6, i64_of_wf h8, u64_of_wf h9, i64_of_wf h10, i64_of_wf h11⟩, hl⟩
theorem nests_dones {w : World} {L : List (List Value)} (h : ∀ l ∈ L, NestOk w doneK l) : ∃ ls : List DoneS, L = ls.map DoneS.cells ∧ ∀ d ∈ ls, d.Ok ∧ RdK w d.ao d.len d.cap d.l := by
  induction L with
  | nil => exact ⟨[], rfl, fun a ha => by cases ha⟩
  | cons l L ih =>
    obtain ⟨ls, e1, ho⟩ := ih fun l hl => h l (List.mem_cons_of_mem _ hl)
    obtain ⟨a, rfl, ha⟩ := done_of (h l (List.mem_cons_self ..))
    refine ⟨a :: ls, by rw [e1]; rfl, fun a' h' => ?_⟩
    rcases List.mem_cons.1 h' with rfl | h'
    · exact ha
    · exact ho a' h'
theorem recs_split {α : Type} {f : α → List Value} {s : Nat} (hf : ∀ x, (f x).length = s) (hs : 0 < s) : ∀ (l : List α) (j : Nat) (u : Value), (l.flatMap f)[j]? = some u → ∃ k i x, j = k * s + i ∧ l[k]? = some x ∧ (f x)[i]? = some u := by
  intro l
  induction l with
  | nil => intro j u h; simp at h
  | cons y l ih =>
    intro j u h
    rw [List.flatMap_cons] at h
    by_cases hj : j < s
    · rw [List.getElem?_append_left (by rw [hf]; exact hj)] at h
      exact ⟨0, j, y, by omega, rfl, h⟩
    · rw [List.getElem?_append_right (by rw [hf]; omega), hf] at h
      obtain ⟨k, i, x, e1, e2, e3⟩ := ih _ u h
      exact ⟨k + 1, i, x, by rw [Nat.succ_mul]; omega, by simpa using e2, e3⟩
theorem isNest_rdD {w : World} {ao : Option Addr} {len cap : Nat} {L : List (List Value)} (h : IsNest w doneK ao len cap L) : ∃ l, RdD w ao len cap l := by
  obtain ⟨hl, hc, hm, hn, hf, hat⟩ := h
  obtain ⟨ls, rfl, ho⟩ := nests_dones hf
  have hlen : ls.length = len := by simpa using hl
  refine ⟨ls, ⟨by rw [doneC_length, hlen], hc, hn, by unfold maxLen at hm; omega, doneC_one ls, fun j u hu => ?_⟩, hlen, ho⟩
  obtain ⟨k, i, x, e1, e2, e3⟩ := recs_split doneS_cells (by omega) ls j u hu
  have hk : k < ls.length := (List.getElem?_eq_some_iff.1 e2).1
  obtain ⟨b, off, e, hb, hcell⟩ := hat (by omega)
  exact ⟨b, off, e, hb, by rw [e1]; exact hcell k x.cells (by simp [e2]) i u e3⟩
end Go.Proofs.YtdjooacjjnjfmaaGreat.H
end

-- Calls of a history: whether one has ended, whether one is ahead of another one, whether two may be beside one another.
section
namespace Go.Proofs.YtdjooacjjnjfmaaGreat.H
set_option linter.unusedVariables false
set_option linter.unusedSimpArgs false
open Go.RowKit Go.Proofs.YtdjooacjjnjfmaaGreatMem Go.Proofs.YtdjooacjjnjfmaaGreatFlat

theorem below2 (w : World) (o o' : Obj) : Below w.heap.size w ((w.alloc o).alloc o') := ((Below.refl _ _).alloc (Nat.le_refl _) o).alloc (by simp) o'
def endedB (d : DoneS) : Bool := decide (d.to ≠ -1)
def aheadB (a b : DoneS) : Bool := endedB a && decide (a.to < b.fr)
def rightD (d : DoneS) : Bool := decide (0 ≤ d.who ∧ 0 ≤ d.place ∧ 0 ≤ d.fr ∧ (d.to = -1 ∨ d.fr ≤ d.to))
def apartB (a b : DoneS) : Bool := if a.who ≠ b.who then true else if a.place < b.place then aheadB a b else if b.place < a.place then aheadB b a else false

/-- A call in a block of its own. -/
def BoxD (w : World) (b : Nat) (x : DoneS) (t : TypeId) : Prop := w.heap[b]? = some (.cells #[.int .i64 x.who, .int .i64 x.place, .int .i64 x.op, .int .i64 x.fl, .int .i64 x.a, .int .i64 x.b, .int .i64 x.e, .slice x.ao x.len x.cap, .int .i64 x.n, .int .u64 x.v, .int .i64 x.fr, .int .i64 x.to] t (0, 0))
theorem BoxD.cells {w : World} {b : Nat} {x : DoneS} {t : TypeId} (h : BoxD w b x t) : w.cell? ⟨b, 0, none⟩ = some (.int .i64 x.who) ∧ w.cell? ⟨b, 1, none⟩ = some (.int .i64 x.place) ∧ w.cell? ⟨b, 2, none⟩ = some (.int .i64 x.op) ∧ w.cell? ⟨b, 3, none⟩ = some (.int .i64 x.fl) ∧ w.cell? ⟨b, 4, none⟩ = some (.int .i64 x.a) ∧ w.cell? ⟨b, 5, none⟩ = some (.int .i64 x.b) ∧ w.cell? ⟨b, 6, none⟩ = some (.int .i64 x.e) ∧ w.cell? ⟨b, 7, none⟩ = some (.slice x.ao x.len x.cap) ∧ w.cell? ⟨b, 8, none⟩ = some (.int .i64 x.n) ∧ w.cell? ⟨b, 9, none⟩ = some (.int .u64 x.v) ∧ w.cell? ⟨b, 10, none⟩ = some (.int .i64 x.fr) ∧ w.cell? ⟨b, 11, none⟩ = some (.int .i64 x.to) := by
  have h := h
  unfold BoxD at h
  simp only [World.cell?, h]
  exact ⟨rfl, rfl, rfl, rfl, rfl, rfl, rfl, rfl, rfl, rfl, rfl, rfl⟩
theorem BoxD.frozen {w : World} {b : Nat} {x : DoneS} {t : TypeId} (h : BoxD w b x t) (o : Nat) : w.frozen? ⟨b, o, none⟩ = false := by
  unfold BoxD at h
  simp [World.frozen?, h]
theorem BoxD.lt {w : World} {b : Nat} {x : DoneS} {t : TypeId} (h : BoxD w b x t) : b < w.heap.size := (Array.getElem?_eq_some_iff.1 h).1
theorem BoxD.below {w w' : World} {b : Nat} {x : DoneS} {t : TypeId} (h : BoxD w b x t) (hb : Below w.heap.size w w') : BoxD w' b x t := (hb.block b h.lt).trans h
theorem one_boxD (w : World) (x : DoneS) (t : TypeId) : BoxD (w.alloc (.cells #[.int .i64 x.who, .int .i64 x.place, .int .i64 x.op, .int .i64 x.fl, .int .i64 x.a, .int .i64 x.b, .int .i64 x.e, .slice x.ao x.len x.cap, .int .i64 x.n, .int .u64 x.v, .int .i64 x.fr, .int .i64 x.to] t)) w.heap.size x t := heap_alloc_new _ _
theorem two_boxesD (w : World) (x y : DoneS) (t : TypeId) : BoxD ((w.alloc (.cells #[.int .i64 x.who, .int .i64 x.place, .int .i64 x.op, .int .i64 x.fl, .int .i64 x.a, .int .i64 x.b, .int .i64 x.e, .slice x.ao x.len x.cap, .int .i64 x.n, .int .u64 x.v, .int .i64 x.fr, .int .i64 x.to] t)).alloc (.cells #[.int .i64 y.who, .int .i64 y.place, .int .i64 y.op, .int .i64 y.fl, .int .i64 y.a, .int .i64 y.b, .int .i64 y.e, .slice y.ao y.len y.cap, .int .i64 y.n, .int .u64 y.v, .int .i64 y.fr, .int .i64 y.to] t)) w.heap.size x t ∧ BoxD ((w.alloc (.cells #[.int .i64 x.who, .int .i64 x.place, .int .i64 x.op, .int .i64 x.fl, .int .i64 x.a, .int .i64 x.b, .int .i64 x.e, .slice x.ao x.len x.cap, .int .i64 x.n, .int .u64 x.v, .int .i64 x.fr, .int .i64 x.to] t)).alloc (.cells #[.int .i64 y.who, .int .i64 y.place, .int .i64 y.op, .int .i64 y.fl, .int .i64 y.a, .int .i64 y.b, .int .i64 y.e, .slice y.ao y.len y.cap, .int .i64 y.n, .int .u64 y.v, .int .i64 y.fr, .int .i64 y.to] t)) (w.heap.size + 1) y t := by
  refine ⟨(heap_alloc_old _ _ (by simp)).trans (heap_alloc_new w _), ?_⟩
  have e : (w.alloc (.cells #[.int .i64 x.who, .int .i64 x.place, .int .i64 x.op, .int .i64 x.fl, .int .i64 x.a, .int .i64 x.b, .int .i64 x.e, .slice x.ao x.len x.cap, .int .i64 x.n, .int .u64 x.v, .int .i64 x.fr, .int .i64 x.to] t)).heap.size = w.heap.size + 1 := by simp
  have := heap_alloc_new (w.alloc (.cells #[.int .i64 x.who, .int .i64 x.place, .int .i64 x.op, .int .i64 x.fl, .int .i64 x.a, .int .i64 x.b, .int .i64 x.e, .slice x.ao x.len x.cap, .int .i64 x.n, .int .u64 x.v, .int .i64 x.fr, .int .i64 x.to] t)) (.cells #[.int .i64 y.who, .int .i64 y.place, .int .i64 y.op, .int .i64 y.fl, .int .i64 y.a, .int .i64 y.b, .int .i64 y.e, .slice y.ao y.len y.cap, .int .i64 y.n, .int .u64 y.v, .int .i64 y.fr, .int .i64 y.to] t)
  rw [e] at this
  exact this

set_option maxHeartbeats 1000000 in
theorem ended_any (d : DoneS) (w : World) : Calls Tryz.prog 53 #[(.agg #[.int .i64 d.who, .int .i64 d.place, .int .i64 d.op, .int .i64 d.fl, .int .i64 d.a, .int .i64 d.b, .int .i64 d.e, .slice d.ao d.len d.cap, .int .i64 d.n, .int .u64 d.v, .int .i64 d.fr, .int .i64 d.to])] w fun e w' => e = .returned (.bool (endedB d)) ∧ Below w.heap.size w w' := by
  by_cases h : d.to = -1
  · have E : Hid (endedB d = false) := by unfold Hid endedB; simp [h]
    have e1 : (d.to != -1) = false := by simp [h]
    clear h
    go_enter Tryz.func53, Tryz.ntmps53
    go_wp2
    go_ret
    exact ⟨by rw [E.out]; rfl, below1 _ _⟩
  · have E : Hid (endedB d = true) := by unfold Hid endedB; simp [h]
    have e1 : (d.to != -1) = true := by simpa using h
    clear h
    go_enter Tryz.func53, Tryz.ntmps53
    go_wp2
    go_ret
    exact ⟨by rw [E.out]; rfl, below1 _ _⟩

set_option maxHeartbeats 1000000 in
theorem ahead_any (a b : DoneS) (w : World) : Calls Tryz.prog 96 #[(.agg #[.int .i64 a.who, .int .i64 a.place, .int .i64 a.op, .int .i64 a.fl, .int .i64 a.a, .int .i64 a.b, .int .i64 a.e, .slice a.ao a.len a.cap, .int .i64 a.n, .int .u64 a.v, .int .i64 a.fr, .int .i64 a.to]), (.agg #[.int .i64 b.who, .int .i64 b.place, .int .i64 b.op, .int .i64 b.fl, .int .i64 b.a, .int .i64 b.b, .int .i64 b.e, .slice b.ao b.len b.cap, .int .i64 b.n, .int .u64 b.v, .int .i64 b.fr, .int .i64 b.to])] w fun e w' => e = .returned (.bool (aheadB a b)) ∧ Below w.heap.size w w' := by
  have hq : Hid (aheadB a b = (endedB a && decide (a.to < b.fr))) := rfl
  go_enter Tryz.func96, Tryz.ntmps96
  go_upto_region 1 with fail
  have hh := two_boxesD w a b 96
  have hbW := below2 w (.cells #[.int .i64 a.who, .int .i64 a.place, .int .i64 a.op, .int .i64 a.fl, .int .i64 a.a, .int .i64 a.b, .int .i64 a.e, .slice a.ao a.len a.cap, .int .i64 a.n, .int .u64 a.v, .int .i64 a.fr, .int .i64 a.to] 96) (.cells #[.int .i64 b.who, .int .i64 b.place, .int .i64 b.op, .int .i64 b.fl, .int .i64 b.a, .int .i64 b.b, .int .i64 b.e, .slice b.ao b.len b.cap, .int .i64 b.n, .int .u64 b.v, .int .i64 b.fr, .int .i64 b.to] 96)
  generalize (w.alloc (.cells #[.int .i64 a.who, .int .i64 a.place, .int .i64 a.op, .int .i64 a.fl, .int .i64 a.a, .int .i64 a.b, .int .i64 a.e, .slice a.ao a.len a.cap, .int .i64 a.n, .int .u64 a.v, .int .i64 a.fr, .int .i64 a.to] 96)).alloc (.cells #[.int .i64 b.who, .int .i64 b.place, .int .i64 b.op, .int .i64 b.fl, .int .i64 b.a, .int .i64 b.b, .int .i64 b.e, .slice b.ao b.len b.cap, .int .i64 b.n, .int .u64 b.v, .int .i64 b.fr, .int .i64 b.to] 96) = W at *
  obtain ⟨hA, hB⟩ := hh
  generalize hn : w.heap.size = A at *
  generalize A + 1 = A1 at *
  obtain ⟨a0, a1, a2, a3, a4, a5, a6, a7, a8, a9, a10, a11⟩ := hA.cells
  have HA := Lib.hid hA
  have HB := Lib.hid hB
  clear hA hB
  go_wp2_with fail
  refine (ended_any a _).mono ?_
  cases he : endedB a
  · rintro e w1 ⟨rfl, hb1⟩
    go_wp2
    go_ret
    exact ⟨by rw [hq.out, he]; rfl, below_step (by rw [hn]; exact hbW) hb1⟩
  · rintro e w1 ⟨rfl, hb1⟩
    clear a0 a1 a2 a3 a4 a5 a6 a7 a8 a9 a10 a11
    obtain ⟨a0, a1, a2, a3, a4, a5, a6, a7, a8, a9, a10, a11⟩ := (HA.out.below hb1).cells
    obtain ⟨b0, b1, b2, b3, b4, b5, b6, b7, b8, b9, b10, b11⟩ := (HB.out.below hb1).cells
    go_wp2
    go_ret
    exact ⟨by rw [hq.out, he]; rfl, below_step (by rw [hn]; exact hbW) hb1⟩

set_option maxHeartbeats 1000000 in
theorem histAhead_any (a b : DoneS) (w : World) : Calls Tryz.prog 62 #[(.agg #[.int .i64 a.who, .int .i64 a.place, .int .i64 a.op, .int .i64 a.fl, .int .i64 a.a, .int .i64 a.b, .int .i64 a.e, .slice a.ao a.len a.cap, .int .i64 a.n, .int .u64 a.v, .int .i64 a.fr, .int .i64 a.to]), (.agg #[.int .i64 b.who, .int .i64 b.place, .int .i64 b.op, .int .i64 b.fl, .int .i64 b.a, .int .i64 b.b, .int .i64 b.e, .slice b.ao b.len b.cap, .int .i64 b.n, .int .u64 b.v, .int .i64 b.fr, .int .i64 b.to])] w fun e w' => e = .returned (.bool (aheadB a b)) ∧ Below w.heap.size w w' := by
  go_enter Tryz.func62, Tryz.ntmps62
  go_wp2_with fail
  refine (ahead_any a b _).mono ?_
  rintro e w1 ⟨rfl, hb1⟩
  go_wp2
  go_ret
  exact ⟨rfl, below_step (below2 _ _ _) hb1⟩

set_option maxHeartbeats 1000000 in
theorem refAhead_any (a b : DoneS) (w : World) : Calls Tryz.prog 75 #[(.agg #[.int .i64 a.who, .int .i64 a.place, .int .i64 a.op, .int .i64 a.fl, .int .i64 a.a, .int .i64 a.b, .int .i64 a.e, .slice a.ao a.len a.cap, .int .i64 a.n, .int .u64 a.v, .int .i64 a.fr, .int .i64 a.to]), (.agg #[.int .i64 b.who, .int .i64 b.place, .int .i64 b.op, .int .i64 b.fl, .int .i64 b.a, .int .i64 b.b, .int .i64 b.e, .slice b.ao b.len b.cap, .int .i64 b.n, .int .u64 b.v, .int .i64 b.fr, .int .i64 b.to])] w fun e w' => e = .returned (.bool (aheadB a b)) ∧ Below w.heap.size w w' := by
  by_cases h : a.to = -1
  · have E : Hid (aheadB a b = false) := by unfold Hid aheadB endedB; simp [h]
    have e1 : (a.to != -1) = false := by simp [h]
    clear h
    go_enter Tryz.func75, Tryz.ntmps75
    go_wp2
    go_ret
    exact ⟨by rw [E.out]; rfl, below2 _ _ _⟩
  · have e1 : (a.to != -1) = true := by simpa using h
    have E : Hid (aheadB a b = decide (a.to < b.fr)) := by unfold Hid aheadB endedB; simp [h]
    clear h
    go_enter Tryz.func75, Tryz.ntmps75
    go_wp2
    go_ret
    exact ⟨by rw [E.out]; rfl, below2 _ _ _⟩

set_option maxHeartbeats 1000000 in
theorem cright_any (d : DoneS) (w : World) : Calls Tryz.prog 90 #[(.agg #[.int .i64 d.who, .int .i64 d.place, .int .i64 d.op, .int .i64 d.fl, .int .i64 d.a, .int .i64 d.b, .int .i64 d.e, .slice d.ao d.len d.cap, .int .i64 d.n, .int .u64 d.v, .int .i64 d.fr, .int .i64 d.to])] w fun e w' => e = .returned (.bool (rightD d)) ∧ Below w.heap.size w w' := by
  rcases (show ¬ 0 ≤ d.who ∨ (0 ≤ d.who ∧ ¬ 0 ≤ d.place) ∨ (0 ≤ d.who ∧ 0 ≤ d.place ∧ ¬ 0 ≤ d.fr) ∨ (0 ≤ d.who ∧ 0 ≤ d.place ∧ 0 ≤ d.fr) by omega) with t | ⟨t, t2⟩ | ⟨t, t2, t3⟩ | ⟨t, t2, t3⟩
  iterate 3
    · have E : Hid (rightD d = false) := by unfold Hid rightD; simp; omega
      go_enter Tryz.func90, Tryz.ntmps90
      go_wp2
      go_ret
      exact ⟨by rw [E.out]; rfl, below1 _ _⟩
  · have E0 : Hid (rightD d = (!endedB d || decide (d.fr ≤ d.to))) := by
      unfold Hid rightD endedB
      rw [Bool.eq_iff_iff]
      simp [t, t2, t3]
    go_enter Tryz.func90, Tryz.ntmps90
    go_upto_region 1 with fail
    have hA := one_boxD w d 96
    have hbW := below1 w (.cells #[.int .i64 d.who, .int .i64 d.place, .int .i64 d.op, .int .i64 d.fl, .int .i64 d.a, .int .i64 d.b, .int .i64 d.e, .slice d.ao d.len d.cap, .int .i64 d.n, .int .u64 d.v, .int .i64 d.fr, .int .i64 d.to] 96)
    generalize w.alloc (.cells #[.int .i64 d.who, .int .i64 d.place, .int .i64 d.op, .int .i64 d.fl, .int .i64 d.a, .int .i64 d.b, .int .i64 d.e, .slice d.ao d.len d.cap, .int .i64 d.n, .int .u64 d.v, .int .i64 d.fr, .int .i64 d.to] 96) = W at *
    generalize hn : w.heap.size = A at *
    obtain ⟨a0, a1, a2, a3, a4, a5, a6, a7, a8, a9, a10, a11⟩ := hA.cells
    have HA := Lib.hid hA
    clear hA
    go_wp2_with fail
    refine (ended_any d _).mono ?_
    cases he : endedB d
    · rintro e w1 ⟨rfl, hb1⟩
      go_wp2
      go_ret
      exact ⟨by rw [E0.out, he]; rfl, below_step (by rw [hn]; exact hbW) hb1⟩
    · rintro e w1 ⟨rfl, hb1⟩
      clear a0 a1 a2 a3 a4 a5 a6 a7 a8 a9 a10 a11
      obtain ⟨a0, a1, a2, a3, a4, a5, a6, a7, a8, a9, a10, a11⟩ := (HA.out.below hb1).cells
      go_wp2
      go_ret
      exact ⟨by rw [E0.out, he]; rfl, below_step (by rw [hn]; exact hbW) hb1⟩

set_option maxHeartbeats 1000000 in
theorem apart_any (a b : DoneS) (w : World) : Calls Tryz.prog 92 #[(.agg #[.int .i64 a.who, .int .i64 a.place, .int .i64 a.op, .int .i64 a.fl, .int .i64 a.a, .int .i64 a.b, .int .i64 a.e, .slice a.ao a.len a.cap, .int .i64 a.n, .int .u64 a.v, .int .i64 a.fr, .int .i64 a.to]), (.agg #[.int .i64 b.who, .int .i64 b.place, .int .i64 b.op, .int .i64 b.fl, .int .i64 b.a, .int .i64 b.b, .int .i64 b.e, .slice b.ao b.len b.cap, .int .i64 b.n, .int .u64 b.v, .int .i64 b.fr, .int .i64 b.to])] w fun e w' => e = .returned (.bool (apartB a b)) ∧ Below w.heap.size w w' := by
  rcases (show a.who ≠ b.who ∨ (a.who = b.who ∧ a.place < b.place) ∨ (a.who = b.who ∧ ¬ a.place < b.place ∧ b.place < a.place) ∨ (a.who = b.who ∧ ¬ a.place < b.place ∧ ¬ b.place < a.place) by omega) with t | ⟨t, t2⟩ | ⟨t, t2, t3⟩ | ⟨t, t2, t3⟩
  · have E : Hid (apartB a b = true) := by unfold Hid apartB; simp [t]
    have e1 : (a.who != b.who) = true := by simpa using t
    clear t
    go_enter Tryz.func92, Tryz.ntmps92
    go_wp2
    go_ret
    exact ⟨by rw [E.out]; rfl, below2 _ _ _⟩
  · have E : Hid (apartB a b = aheadB a b) := by unfold Hid apartB; simp [t, t2]
    have e1 : (a.who != b.who) = false := by simp [t]
    clear t
    go_enter Tryz.func92, Tryz.ntmps92
    go_wp2_with fail
    refine (ahead_any a b _).mono ?_
    rintro e w1 ⟨rfl, hb1⟩
    go_wp2
    go_ret
    exact ⟨by rw [E.out]; rfl, below_step (below2 _ _ _) hb1⟩
  · have E : Hid (apartB a b = aheadB b a) := by unfold Hid apartB; simp [t, t2, t3]
    have e1 : (a.who != b.who) = false := by simp [t]
    clear t
    go_enter Tryz.func92, Tryz.ntmps92
    go_wp2_with fail
    refine (ahead_any b a _).mono ?_
    rintro e w1 ⟨rfl, hb1⟩
    go_wp2
    go_ret
    exact ⟨by rw [E.out]; rfl, below_step (below2 _ _ _) hb1⟩
  · have E : Hid (apartB a b = false) := by unfold Hid apartB; simp [t, t2, t3]
    have e1 : (a.who != b.who) = false := by simp [t]
    clear t
    go_enter Tryz.func92, Tryz.ntmps92
    go_wp2
    go_ret
    exact ⟨by rw [E.out]; rfl, below2 _ _ _⟩
end Go.Proofs.YtdjooacjjnjfmaaGreat.H
end

-- Calls of a history: whether they may be, whether all have ended: the program.
section
namespace Go.Proofs.YtdjooacjjnjfmaaGreat.H
set_option linter.unusedVariables false
set_option linter.unusedSimpArgs false
open Go.RowKit Go.Proofs.YtdjooacjjnjfmaaGreatMem Go.Proofs.YtdjooacjjnjfmaaGreatFlat

theorem all_frontD {p : DoneS → Bool} (l : List DoneS) : (∀ k, k < l.length → p (nthD l k) = true) → l.all p = true := by
  intro h
  rw [List.all_eq_true]
  intro e he
  obtain ⟨k, hk, rfl⟩ := List.mem_iff_getElem.1 he
  rw [← nthD_eq hk]; exact h k hk
theorem all_failD {p : DoneS → Bool} {l : List DoneS} {k : Nat} (hk : k < l.length) (h : p (nthD l k) = false) : l.all p = false := by
  rw [← Bool.not_eq_true]
  intro hr
  have := List.all_eq_true.1 hr _ (List.getElem_mem hk)
  rw [nthD_eq hk] at h
  rw [h] at this; cases this
theorem all_nthD {p : DoneS → Bool} {l : List DoneS} (h : l.all p = true) {k : Nat} (hk : k < l.length) : p (nthD l k) = true := by
  rw [nthD_eq hk]; exact List.all_eq_true.1 h _ (List.getElem_mem hk)
theorem RdD.at12 {w w' : World} {ao : Option Addr} {n cap : Nat} {l : List DoneS} {b off k : Nat} (hc : ∀ w', Below w.heap.size w w' → ∀ i u, (nthD l k).cells[i]? = some u → w'.cell? ⟨b, off + k * 12 + i, none⟩ = some u) (hb : Below w.heap.size w w') :
    w'.cell? ⟨b, off + k * 12, none⟩ = some (.int .i64 (nthD l k).who) ∧ w'.cell? ⟨b, off + k * 12 + 1, none⟩ = some (.int .i64 (nthD l k).place) ∧ w'.cell? ⟨b, off + k * 12 + 2, none⟩ = some (.int .i64 (nthD l k).op) ∧ w'.cell? ⟨b, off + k * 12 + 3, none⟩ = some (.int .i64 (nthD l k).fl) ∧ w'.cell? ⟨b, off + k * 12 + 4, none⟩ = some (.int .i64 (nthD l k).a) ∧ w'.cell? ⟨b, off + k * 12 + 5, none⟩ = some (.int .i64 (nthD l k).b) ∧ w'.cell? ⟨b, off + k * 12 + 6, none⟩ = some (.int .i64 (nthD l k).e) ∧ w'.cell? ⟨b, off + k * 12 + 7, none⟩ = some (.slice (nthD l k).ao (nthD l k).len (nthD l k).cap) ∧ w'.cell? ⟨b, off + k * 12 + 8, none⟩ = some (.int .i64 (nthD l k).n) ∧ w'.cell? ⟨b, off + k * 12 + 9, none⟩ = some (.int .u64 (nthD l k).v) ∧ w'.cell? ⟨b, off + k * 12 + 10, none⟩ = some (.int .i64 (nthD l k).fr) ∧ w'.cell? ⟨b, off + k * 12 + 11, none⟩ = some (.int .i64 (nthD l k).to) :=
  ⟨hc w' hb 0 _ rfl, hc w' hb 1 _ rfl, hc w' hb 2 _ rfl, hc w' hb 3 _ rfl, hc w' hb 4 _ rfl, hc w' hb 5 _ rfl, hc w' hb 6 _ rfl, hc w' hb 7 _ rfl, hc w' hb 8 _ rfl, hc w' hb 9 _ rfl, hc w' hb 10 _ rfl, hc w' hb 11 _ rfl⟩

set_option maxHeartbeats 1000000 in
theorem each1_right (d : DoneS) (B : Nat) (w : World) (hB : w.cell? ⟨B, 0, none⟩ = some (.func (.func 90) #[] #[])) (hlt : B < w.heap.size) :
    Calls Tryz.prog 111 #[(.agg #[.int .i64 d.who, .int .i64 d.place, .int .i64 d.op, .int .i64 d.fl, .int .i64 d.a, .int .i64 d.b, .int .i64 d.e, .slice d.ao d.len d.cap, .int .i64 d.n, .int .u64 d.v, .int .i64 d.fr, .int .i64 d.to]), .pointer (some ⟨B, 0, none⟩)] w fun e w' => e = .returned (.bool (!rightD d)) ∧ Below w.heap.size w w' := by
  go_enter Tryz.func111, Tryz.ntmps111
  go_wp2_with fail
  refine (cright_any d _).mono ?_
  rintro e w1 ⟨rfl, hb1⟩
  go_wp2
  go_ret
  exact ⟨rfl, below_step (below1 _ _) hb1⟩

set_option maxHeartbeats 1000000 in
theorem ix_right (ao : Option Addr) (n cap : Nat) (l : List DoneS) (B : Nat) (w : World) (h : RdD w ao n cap l) (hB : w.cell? ⟨B, 0, none⟩ = some (.func (.func 90) #[] #[])) (hBl : B < w.heap.size) :
    Calls Tryz.prog 128 #[.slice ao n cap, .func (.func 111) #[] #[.pointer (some ⟨B, 0, none⟩)]] w fun e w' => (∃ r : Int, e = .returned (.int .i64 r) ∧ (0 ≤ r ↔ l.all rightD = false)) ∧ Below w.heap.size w w' := by
  have L0 := Lib.hid h.len
  have s0 := h.rd.small
  go_enter Tryz.func128, Tryz.ntmps128
  go_wp2
  go_loopw [8] (fun i wr => ∃ k : Nat, k ≤ n ∧ i = .int .i64 k ∧ (∀ j : Nat, j < k → rightD (nthD l j) = true) ∧ Below w.heap.size w wr) (fun i _ => n - (intOf i).toNat)
  case atStart => exact ⟨0, Nat.zero_le _, rfl, fun j hj => absurd hj (Nat.not_lt_zero _), Below.refl _ _⟩
  case round =>
    obtain ⟨k, hk, rfl, heq, hbr⟩ := hrel
    have HQ := Lib.hid heq
    clear heq
    by_cases hl : k < n
    · obtain ⟨b, o, rfl, hlt, hc⟩ := h.cells hl
      obtain ⟨c0, c1, c2, c3, c4, c5, c6, c7, c8, c9, c10, c11⟩ := RdD.at12 (ao := none) (n := 0) (cap := 0) hc hbr
      have hBr := (hbr.cell (p := ⟨B, 0, none⟩) hBl).trans hB
      have hBs : B < wr.heap.size := Nat.lt_of_lt_of_le hBl hbr.size
      go_wp2_with fail
      refine (each1_right (nthD l k) B _ hBr hBs).mono ?_
      rintro e w' ⟨rfl, hb'⟩
      cases r : rightD (nthD l k)
      · have E : Hid (l.all rightD = false) := all_failD (k := k) (by rw [L0.out]; exact hl) r
        go_wp2
        go_ret
        exact ⟨⟨k, rfl, by simp [E.out]⟩, hbr.trans (hb'.mono hbr.size)⟩
      · have R := Lib.hid r
        clear r
        go_wp2
        go_roundw
        case rel => exact ⟨k + 1, by omega, by go_num, fun j hj => by
          by_cases hjk : j = k
          · subst hjk; exact R.out
          · exact HQ.out j (by omega), hbr.trans (hb'.mono hbr.size)⟩
        case measure => simp [intOf]; omega
    · have E : Hid (l.all rightD = true) := all_frontD l fun j hj => HQ.out j (by rw [L0.out] at hj; omega)
      go_wp2
      go_ret
      exact ⟨⟨-1, rfl, by simp [E.out]⟩, hbr⟩

set_option maxHeartbeats 1000000 in
theorem each_right (ao : Option Addr) (n cap : Nat) (l : List DoneS) (w : World) (h : RdD w ao n cap l) :
    Calls Tryz.prog 89 #[.slice ao n cap, .func (.func 90) #[] #[]] w fun e w' => e = .returned (.bool (l.all rightD)) ∧ Below w.heap.size w w' := by
  have hmf : ∀ (fn : Fn) (first cap : Array Value) (w : World), (Instr.makeFunc fn first cap).run Tryz.prog w = .ok (.func fn first cap) w := fun _ _ _ _ => rfl
  have hx : ∀ w : World, RdD w ao n cap l → ∀ B, w.cell? ⟨B, 0, none⟩ = some (.func (.func 90) #[] #[]) → B < w.heap.size → Calls Tryz.prog 110 #[.slice ao n cap, .func (.func 111) #[] #[.pointer (some ⟨B, 0, none⟩)]] w fun e w' => e = .returned (.bool (!l.all rightD)) ∧ Below w.heap.size w w' := by
    intro w h B hB hBl
    go_enter Tryz.func110, Tryz.ntmps110
    go_wp2_with fail
    refine (ix_right ao n cap l B _ h hB hBl).mono ?_
    rintro e w' ⟨⟨r, rfl, hr⟩, hb⟩
    cases hv : l.all rightD
    · have h0 : (0 : Int) ≤ r := hr.2 hv
      go_wp2
      go_ret
      exact ⟨by rw [hv]; rfl, hb⟩
    · have h0 : ¬ (0 : Int) ≤ r := fun h => by rw [hr.1 h] at hv; cases hv
      have h1 : r < 0 := by omega
      go_wp2
      go_ret
      exact ⟨by rw [hv]; rfl, hb⟩
  go_enter Tryz.func89, Tryz.ntmps89
  go_wp2_with fail
  refine (hx _ (h.below (below1 _ _)) _ (by simp [go_sem]) (by simp)).mono ?_
  rintro e w' ⟨rfl, hb⟩
  cases hv : l.all rightD
  all_goals
    go_wp2
    go_ret
    exact ⟨by rw [hv]; rfl, below_step (below1 _ _) hb⟩
set_option maxHeartbeats 1000000 in
theorem each1_ended (d : DoneS) (B : Nat) (w : World) (hB : w.cell? ⟨B, 0, none⟩ = some (.func (.func 53) #[] #[])) (hlt : B < w.heap.size) :
    Calls Tryz.prog 111 #[(.agg #[.int .i64 d.who, .int .i64 d.place, .int .i64 d.op, .int .i64 d.fl, .int .i64 d.a, .int .i64 d.b, .int .i64 d.e, .slice d.ao d.len d.cap, .int .i64 d.n, .int .u64 d.v, .int .i64 d.fr, .int .i64 d.to]), .pointer (some ⟨B, 0, none⟩)] w fun e w' => e = .returned (.bool (!endedB d)) ∧ Below w.heap.size w w' := by
  go_enter Tryz.func111, Tryz.ntmps111
  go_wp2_with fail
  refine (ended_any d _).mono ?_
  rintro e w1 ⟨rfl, hb1⟩
  go_wp2
  go_ret
  exact ⟨rfl, below_step (below1 _ _) hb1⟩

set_option maxHeartbeats 1000000 in
theorem ix_ended (ao : Option Addr) (n cap : Nat) (l : List DoneS) (B : Nat) (w : World) (h : RdD w ao n cap l) (hB : w.cell? ⟨B, 0, none⟩ = some (.func (.func 53) #[] #[])) (hBl : B < w.heap.size) :
    Calls Tryz.prog 128 #[.slice ao n cap, .func (.func 111) #[] #[.pointer (some ⟨B, 0, none⟩)]] w fun e w' => (∃ r : Int, e = .returned (.int .i64 r) ∧ (0 ≤ r ↔ l.all endedB = false)) ∧ Below w.heap.size w w' := by
  have L0 := Lib.hid h.len
  have s0 := h.rd.small
  go_enter Tryz.func128, Tryz.ntmps128
  go_wp2
  go_loopw [8] (fun i wr => ∃ k : Nat, k ≤ n ∧ i = .int .i64 k ∧ (∀ j : Nat, j < k → endedB (nthD l j) = true) ∧ Below w.heap.size w wr) (fun i _ => n - (intOf i).toNat)
  case atStart => exact ⟨0, Nat.zero_le _, rfl, fun j hj => absurd hj (Nat.not_lt_zero _), Below.refl _ _⟩
  case round =>
    obtain ⟨k, hk, rfl, heq, hbr⟩ := hrel
    have HQ := Lib.hid heq
    clear heq
    by_cases hl : k < n
    · obtain ⟨b, o, rfl, hlt, hc⟩ := h.cells hl
      obtain ⟨c0, c1, c2, c3, c4, c5, c6, c7, c8, c9, c10, c11⟩ := RdD.at12 (ao := none) (n := 0) (cap := 0) hc hbr
      have hBr := (hbr.cell (p := ⟨B, 0, none⟩) hBl).trans hB
      have hBs : B < wr.heap.size := Nat.lt_of_lt_of_le hBl hbr.size
      go_wp2_with fail
      refine (each1_ended (nthD l k) B _ hBr hBs).mono ?_
      rintro e w' ⟨rfl, hb'⟩
      cases r : endedB (nthD l k)
      · have E : Hid (l.all endedB = false) := all_failD (k := k) (by rw [L0.out]; exact hl) r
        go_wp2
        go_ret
        exact ⟨⟨k, rfl, by simp [E.out]⟩, hbr.trans (hb'.mono hbr.size)⟩
      · have R := Lib.hid r
        clear r
        go_wp2
        go_roundw
        case rel => exact ⟨k + 1, by omega, by go_num, fun j hj => by
          by_cases hjk : j = k
          · subst hjk; exact R.out
          · exact HQ.out j (by omega), hbr.trans (hb'.mono hbr.size)⟩
        case measure => simp [intOf]; omega
    · have E : Hid (l.all endedB = true) := all_frontD l fun j hj => HQ.out j (by rw [L0.out] at hj; omega)
      go_wp2
      go_ret
      exact ⟨⟨-1, rfl, by simp [E.out]⟩, hbr⟩

set_option maxHeartbeats 1000000 in
theorem each_ended (ao : Option Addr) (n cap : Nat) (l : List DoneS) (w : World) (h : RdD w ao n cap l) :
    Calls Tryz.prog 89 #[.slice ao n cap, .func (.func 53) #[] #[]] w fun e w' => e = .returned (.bool (l.all endedB)) ∧ Below w.heap.size w w' := by
  have hmf : ∀ (fn : Fn) (first cap : Array Value) (w : World), (Instr.makeFunc fn first cap).run Tryz.prog w = .ok (.func fn first cap) w := fun _ _ _ _ => rfl
  have hx : ∀ w : World, RdD w ao n cap l → ∀ B, w.cell? ⟨B, 0, none⟩ = some (.func (.func 53) #[] #[]) → B < w.heap.size → Calls Tryz.prog 110 #[.slice ao n cap, .func (.func 111) #[] #[.pointer (some ⟨B, 0, none⟩)]] w fun e w' => e = .returned (.bool (!l.all endedB)) ∧ Below w.heap.size w w' := by
    intro w h B hB hBl
    go_enter Tryz.func110, Tryz.ntmps110
    go_wp2_with fail
    refine (ix_ended ao n cap l B _ h hB hBl).mono ?_
    rintro e w' ⟨⟨r, rfl, hr⟩, hb⟩
    cases hv : l.all endedB
    · have h0 : (0 : Int) ≤ r := hr.2 hv
      go_wp2
      go_ret
      exact ⟨by rw [hv]; rfl, hb⟩
    · have h0 : ¬ (0 : Int) ≤ r := fun h => by rw [hr.1 h] at hv; cases hv
      have h1 : r < 0 := by omega
      go_wp2
      go_ret
      exact ⟨by rw [hv]; rfl, hb⟩
  go_enter Tryz.func89, Tryz.ntmps89
  go_wp2_with fail
  refine (hx _ (h.below (below1 _ _)) _ (by simp [go_sem]) (by simp)).mono ?_
  rintro e w' ⟨rfl, hb⟩
  cases hv : l.all endedB
  all_goals
    go_wp2
    go_ret
    exact ⟨by rw [hv]; rfl, below_step (below1 _ _) hb⟩

set_option maxHeartbeats 400000 in
theorem histEnded_any (ao : Option Addr) (n cap : Nat) (l : List DoneS) (w : World) (h : RdD w ao n cap l) :
    Calls Tryz.prog 58 #[.slice ao n cap] w fun e w' => e = .returned (.bool (l.all endedB)) ∧ Below w.heap.size w w' := by
  go_enter Tryz.func58, Tryz.ntmps58
  go_wp2_with fail
  refine (each_ended ao n cap l _ h).mono ?_
  rintro e w' ⟨rfl, hb⟩
  go_wp2
  go_ret
  exact ⟨rfl, hb⟩
end Go.Proofs.YtdjooacjjnjfmaaGreat.H
end

-- Calls of a history: any two of them held together; whether calls may be, by the program and the reference.
section
namespace Go.Proofs.YtdjooacjjnjfmaaGreat.H
set_option linter.unusedVariables false
set_option linter.unusedSimpArgs false
open Go.RowKit Go.Proofs.YtdjooacjjnjfmaaGreatMem Go.Proofs.YtdjooacjjnjfmaaGreatFlat

theorem RdD.held {W w' : World} {ao : Option Addr} {n cap : Nat} {l : List DoneS} (h : RdD W ao n cap l) (hs : Below W.heap.size W w' ∧ (∀ b o, b < W.heap.size → w'.cell? ⟨b, o, none⟩ = W.cell? ⟨b, o, none⟩)) : RdD w' ao n cap l := h.below hs.1
theorem hs_refl' {W w1 : World} (hb : Below W.heap.size W w1) : Below W.heap.size W w1 ∧ (∀ b o, b < W.heap.size → w1.cell? ⟨b, o, none⟩ = W.cell? ⟨b, o, none⟩) := hs_refl hb
def pairsB (l : List DoneS) : Bool := (List.range l.length).all fun i => (List.range i).all fun k => apartB (nthD l i) (nthD l k)
theorem pairs_true {l : List DoneS} (h : ∀ i, i < l.length → ∀ k, k < i → apartB (nthD l i) (nthD l k) = true) : pairsB l = true := by
  unfold pairsB
  rw [List.all_eq_true]
  intro i hi
  rw [List.all_eq_true]
  intro k hk
  exact h i (List.mem_range.1 hi) k (List.mem_range.1 hk)
theorem pairs_at {l : List DoneS} (h : pairsB l = true) {i k : Nat} (hi : i < l.length) (hk : k < i) : apartB (nthD l i) (nthD l k) = true := by
  unfold pairsB at h
  exact List.all_eq_true.1 (List.all_eq_true.1 h i (List.mem_range.2 hi)) k (List.mem_range.2 hk)
theorem pairs_false {l : List DoneS} {i k : Nat} (hi : i < l.length) (hk : k < i) (h : apartB (nthD l i) (nthD l k) = false) : pairsB l = false := by
  rw [← Bool.not_eq_true]
  intro hp
  rw [pairs_at hp hi hk] at h; cases h
def rightH (l : List DoneS) : Bool := l.all rightD && pairsB l

set_option maxHeartbeats 1000000 in
theorem pairs_any (ao : Option Addr) (n cap : Nat) (l : List DoneS) (w : World) (h : RdD w ao n cap l) :
    Calls Tryz.prog 91 #[.slice ao n cap, .func (.func 92) #[] #[]] w fun e w' => e = .returned (.bool (pairsB l)) ∧ Below w.heap.size w w' := by
  have L0 := Lib.hid h.len
  have s0 := h.rd.small
  have hle := h.rd.le
  go_enter Tryz.func91, Tryz.ntmps91
  go_wp2
  go_loopw [5, 7, 10] (fun v5 v7 v10 wr => ∃ i : Nat, i ≤ n ∧ v10 = .int .i64 i ∧ (∀ i', i' < i → ∀ k, k < i' → apartB (nthD l i') (nthD l k) = true) ∧ Below w.heap.size w wr) (fun _ _ v10 _ => n - (intOf v10).toNat)
  case atStart => exact ⟨0, Nat.zero_le _, rfl, fun j hj => absurd hj (Nat.not_lt_zero _), Below.refl _ _⟩
  case round =>
    obtain ⟨i, hi, rfl, heq, hbr⟩ := hrel
    have HQ := Lib.hid heq
    clear heq
    by_cases hl : i < n
    · obtain ⟨b, o, rfl, hlt, hc⟩ := h.cells hl
      have HCI := Lib.hid hc
      clear hc
      have ic : (i : Int) ≤ (cap : Int) := by omega
      generalize wr = w1 at *
      go_wp2_with fail
      go_loopw [7, 17] (fun v7 v17 wr => ∃ k : Nat, k ≤ i ∧ v17 = .int .i64 k ∧ (∀ k', k' < k → apartB (nthD l i) (nthD l k') = true) ∧ Below w.heap.size w wr) (fun _ v17 _ => i - (intOf v17).toNat)
      case atStart => exact ⟨0, Nat.zero_le _, rfl, fun j hj => absurd hj (Nat.not_lt_zero _), hbr⟩
      case round =>
        obtain ⟨k, hk, rfl, heq, hbr⟩ := hrel
        have HK := Lib.hid heq
        clear heq
        by_cases hl2 : k < i
        · have ki : (k : Int) < (i : Int) := by omega
          have iN : (i : Int) < (n : Int) := by omega
          obtain ⟨b', o', e', _, hck⟩ := h.cells (show k < n by omega)
          simp only [Option.some.injEq, Addr.mk.injEq, and_true] at e'
          obtain ⟨rfl, rfl⟩ := e'
          obtain ⟨c0, c1, c2, c3, c4, c5, c6, c7, c8, c9, c10, c11⟩ := RdD.at12 (ao := none) (n := 0) (cap := 0) hck hbr
          have bl : b < wr.heap.size := Nat.lt_of_lt_of_le hlt hbr.size
          go_upto_region 7 with fail
          have hB := one_boxD wr (nthD l k) 42
          have hbW := below1 wr (.cells #[.int .i64 (nthD l k).who, .int .i64 (nthD l k).place, .int .i64 (nthD l k).op, .int .i64 (nthD l k).fl, .int .i64 (nthD l k).a, .int .i64 (nthD l k).b, .int .i64 (nthD l k).e, .slice (nthD l k).ao (nthD l k).len (nthD l k).cap, .int .i64 (nthD l k).n, .int .u64 (nthD l k).v, .int .i64 (nthD l k).fr, .int .i64 (nthD l k).to] 42)
          have hb1 := hbr.trans (hbW.mono hbr.size)
          generalize wr.alloc (.cells #[.int .i64 (nthD l k).who, .int .i64 (nthD l k).place, .int .i64 (nthD l k).op, .int .i64 (nthD l k).fl, .int .i64 (nthD l k).a, .int .i64 (nthD l k).b, .int .i64 (nthD l k).e, .slice (nthD l k).ao (nthD l k).len (nthD l k).cap, .int .i64 (nthD l k).n, .int .u64 (nthD l k).v, .int .i64 (nthD l k).fr, .int .i64 (nthD l k).to] 42) = W at *
          generalize hn : wr.heap.size = A at *
          obtain ⟨a0, a1, a2, a3, a4, a5, a6, a7, a8, a9, a10, a11⟩ := RdD.at12 (ao := none) (n := 0) (cap := 0) HCI.out hb1
          obtain ⟨b0, b1, b2, b3, b4, b5, b6, b7, b8, b9, b10, b11⟩ := hB.cells
          have bA := hB.lt
          have bW : b < W.heap.size := by have := hbW.size; omega
          clear c0 c1 c2 c3 c4 c5 c6 c7 c8 c9 c10 c11 hck hB
          cases hap : apartB (nthD l i) (nthD l k)
          · have E : Hid (pairsB l = false) := pairs_false (by rw [L0.out]; exact hl) hl2 hap
            go_region_held3 (fun w' => Below W.heap.size W w' ∧ (∀ b o, b < W.heap.size → w'.cell? ⟨b, o, none⟩ = W.cell? ⟨b, o, none⟩)) (first | exact hs_refl ((Below.refl _ _).drew) | assumption | exact hs_step (by assumption) (by assumption))
              (first | (go_at_call 92; (with_reducible refine (apart_any (nthD l i) (nthD l k) _).mono ?_); rw [hap]; rintro e w' ⟨rfl, hb'⟩))
            go_wp2
            go_ret
            exact ⟨by rw [E.out]; rfl, hb1.trans ((‹Below W.heap.size W _ ∧ _›).1.mono hb1.size)⟩
          · have HAP := Lib.hid hap
            go_region_held3 (fun w' => Below W.heap.size W w' ∧ (∀ b o, b < W.heap.size → w'.cell? ⟨b, o, none⟩ = W.cell? ⟨b, o, none⟩)) (first | exact hs_refl ((Below.refl _ _).drew) | assumption | exact hs_step (by assumption) (by assumption))
              (first | (go_at_call 92; (with_reducible refine (apart_any (nthD l i) (nthD l k) _).mono ?_); rw [hap]; rintro e w' ⟨rfl, hb'⟩))
            clear hap
            go_wp2
            go_roundw
            case rel => exact ⟨k + 1, by omega, by go_num, fun k' hk' => by
              by_cases hkk : k' = k
              · subst hkk; exact HAP.out
              · exact HK.out k' (by omega), hb1.trans ((‹Below W.heap.size W _ ∧ _›).1.mono hb1.size)⟩
            case measure => simp [intOf]; omega
        · obtain rfl : k = i := by omega
          go_wp2
          go_roundw
          case rel => exact ⟨k + 1, by omega, by go_num, fun i' hi' => by
            by_cases hii : i' = k
            · subst hii; exact HK.out
            · exact HQ.out i' (by omega), hbr⟩
          case measure => simp [intOf]; omega
    · obtain rfl : i = n := by omega
      have E : Hid (pairsB l = true) := pairs_true fun i' hi' => HQ.out i' (by rw [L0.out] at hi'; exact hi')
      go_wp2
      go_ret
      exact ⟨by rw [E.out]; rfl, hbr⟩

set_option maxHeartbeats 400000 in
theorem histRight_any (ao : Option Addr) (n cap : Nat) (l : List DoneS) (w : World) (h : RdD w ao n cap l) :
    Calls Tryz.prog 57 #[.slice ao n cap] w fun e w' => e = .returned (.bool (rightH l)) ∧ Below w.heap.size w w' := by
  have hq : Hid (rightH l = (l.all rightD && pairsB l)) := rfl
  go_enter Tryz.func57, Tryz.ntmps57
  go_wp2_with fail
  refine (each_right ao n cap l _ h).mono ?_
  cases hr : l.all rightD
  · rintro e w1 ⟨rfl, hb1⟩
    go_wp2
    go_ret
    exact ⟨by rw [hq.out, hr]; rfl, hb1⟩
  · rintro e w1 ⟨rfl, hb1⟩
    go_wp2_with fail
    refine (pairs_any ao n cap l _ (h.below hb1)).mono ?_
    rintro e w2 ⟨rfl, hb2⟩
    go_wp2
    go_ret
    exact ⟨by rw [hq.out, hr]; rfl, below_step hb1 hb2⟩

set_option maxHeartbeats 1000000 in
theorem refEnded_any (ao : Option Addr) (n cap : Nat) (l : List DoneS) (w : World) (h : RdD w ao n cap l) :
    Calls Tryz.prog 74 #[.slice ao n cap] w fun e w' => e = .returned (.bool (l.all endedB)) ∧ Below w.heap.size w w' := by
  have L0 := Lib.hid h.len
  have s0 := h.rd.small
  go_enter Tryz.func74, Tryz.ntmps74
  go_wp2
  go_loopw [3] (fun i wr => ∃ k : Nat, k ≤ n ∧ i = .int .i64 k ∧ (∀ j : Nat, j < k → endedB (nthD l j) = true) ∧ Below w.heap.size w wr) (fun i _ => n - (intOf i).toNat)
  case atStart => exact ⟨0, Nat.zero_le _, rfl, fun j hj => absurd hj (Nat.not_lt_zero _), Below.refl _ _⟩
  case round =>
    obtain ⟨k, hk, rfl, heq, hbr⟩ := hrel
    have HQ := Lib.hid heq
    clear heq
    by_cases hl : k < n
    · obtain ⟨b, o, rfl, hlt, hc⟩ := h.cells hl
      obtain ⟨c0, c1, c2, c3, c4, c5, c6, c7, c8, c9, c10, c11⟩ := RdD.at12 (ao := none) (n := 0) (cap := 0) hc hbr
      by_cases ht : (nthD l k).to = -1
      · have E : Hid (l.all endedB = false) := all_failD (k := k) (by rw [L0.out]; exact hl) (by unfold endedB; simp [ht])
        have e1 : ((nthD l k).to == -1) = true := by simp [ht]
        clear ht
        go_wp2
        go_ret
        exact ⟨by rw [E.out]; rfl, hbr⟩
      · have E : Hid (endedB (nthD l k) = true) := by unfold Hid endedB; simp [ht]
        have e1 : ((nthD l k).to == -1) = false := by simpa using ht
        clear ht
        go_wp2
        go_roundw
        case rel => exact ⟨k + 1, by omega, by go_num, fun j hj => by
          by_cases hjk : j = k
          · subst hjk; exact E.out
          · exact HQ.out j (by omega), hbr⟩
        case measure => simp [intOf]; omega
    · have E : Hid (l.all endedB = true) := all_frontD l fun j hj => HQ.out j (by rw [L0.out] at hj; omega)
      go_wp2
      go_ret
      exact ⟨by rw [E.out]; rfl, hbr⟩
end Go.Proofs.YtdjooacjjnjfmaaGreat.H
end

-- The reference: whether calls may be.
section
namespace Go.Proofs.YtdjooacjjnjfmaaGreat.H
set_option linter.unusedVariables false
set_option linter.unusedSimpArgs false
open Go.RowKit Go.Proofs.YtdjooacjjnjfmaaGreatMem Go.Proofs.YtdjooacjjnjfmaaGreatFlat

def badB (a b : DoneS) : Bool := decide (a.who = b.who) && (decide (a.place = b.place) || (decide (a.place < b.place) && !aheadB a b))
theorem bad_apart {a b : DoneS} (h : badB a b = true) : apartB a b = false ∧ apartB b a = false := by
  unfold badB at h
  simp only [Bool.and_eq_true, decide_eq_true_eq, Bool.or_eq_true, Bool.not_eq_true'] at h
  obtain ⟨hw, h⟩ := h
  unfold apartB
  rcases h with hp | ⟨hp, ha⟩
  · simp [hw, hp]
  · have h1 : ¬ b.place < a.place := by omega
    simp [hw, hp, ha, h1]
theorem good_apart {a b : DoneS} (h1 : badB a b = false) (h2 : badB b a = false) : apartB a b = true := by
  unfold apartB
  by_cases hw : a.who = b.who
  · simp only [hw, ne_eq, not_true_eq_false, if_false]
    unfold badB at h1 h2
    by_cases hlt : a.place < b.place
    · have hne : a.place ≠ b.place := by omega
      simp [hw, hlt, hne] at h1
      simp [hlt, h1]
    · by_cases hgt : b.place < a.place
      · have hne : b.place ≠ a.place := by omega
        simp [hw, hgt, hne] at h2
        simp [hlt, hgt, h2]
      · have : a.place = b.place := by omega
        simp [hw, this] at h1
  · simp [hw]
theorem rightH_true {l : List DoneS} (h1 : ∀ i, i < l.length → rightD (nthD l i) = true) (h2 : ∀ i, i < l.length → ∀ k, k < l.length → k ≠ i → badB (nthD l i) (nthD l k) = false) : rightH l = true := by
  unfold rightH
  rw [all_frontD l h1, pairs_true fun i hi k hk => good_apart (h2 i hi k (by omega) (by omega)) (h2 k (by omega) i hi (by omega))]; rfl
theorem rightH_false1 {l : List DoneS} {i : Nat} (hi : i < l.length) (h : rightD (nthD l i) = false) : rightH l = false := by
  unfold rightH; rw [all_failD hi h]; rfl
theorem rightH_false2 {l : List DoneS} {i k : Nat} (hi : i < l.length) (hk : k < l.length) (hne : k ≠ i) (h : badB (nthD l i) (nthD l k) = true) : rightH l = false := by
  obtain ⟨h1, h2⟩ := bad_apart h
  have : pairsB l = false := by
    rcases Nat.lt_or_ge k i with hlt | hge
    · exact pairs_false hi hlt h1
    · exact pairs_false hk (show i < k by omega) h2
  unfold rightH; rw [this]; simp

set_option maxRecDepth 20000 in
set_option maxHeartbeats 2000000 in
theorem refRight_any (ao : Option Addr) (n cap : Nat) (l : List DoneS) (w : World) (h : RdD w ao n cap l) :
    Calls Tryz.prog 73 #[.slice ao n cap] w fun e w' => e = .returned (.bool (rightH l)) ∧ Below w.heap.size w w' := by
  have L0 := Lib.hid h.len
  have s0 := h.rd.small
  go_enter Tryz.func73, Tryz.ntmps73
  go_wp2
  go_loopw [3, 4, 5, 6] (fun v3 _ _ _ wr => ∃ i : Nat, i ≤ n ∧ v3 = .int .i64 i ∧ (∀ i', i' < i → rightD (nthD l i') = true ∧ ∀ k, k < n → k ≠ i' → badB (nthD l i') (nthD l k) = false) ∧ Below w.heap.size w wr) (fun v3 _ _ _ _ => n - (intOf v3).toNat)
  case atStart => exact ⟨0, Nat.zero_le _, rfl, fun j hj => absurd hj (Nat.not_lt_zero _), Below.refl _ _⟩
  case round =>
    obtain ⟨i, hi, rfl, heq, hbr⟩ := hrel
    have HQ := Lib.hid heq
    clear heq
    by_cases hl : i < n
    · obtain ⟨b, o, rfl, hlt, hc⟩ := h.cells hl
      obtain ⟨c0, c1, c2, c3, c4, c5, c6, c7, c8, c9, c10, c11⟩ := RdD.at12 (ao := none) (n := 0) (cap := 0) hc hbr
      go_upto_region 5 with fail
      have hA := one_boxD wr (nthD l i) 42
      have hbW := below1 wr (.cells #[.int .i64 (nthD l i).who, .int .i64 (nthD l i).place, .int .i64 (nthD l i).op, .int .i64 (nthD l i).fl, .int .i64 (nthD l i).a, .int .i64 (nthD l i).b, .int .i64 (nthD l i).e, .slice (nthD l i).ao (nthD l i).len (nthD l i).cap, .int .i64 (nthD l i).n, .int .u64 (nthD l i).v, .int .i64 (nthD l i).fr, .int .i64 (nthD l i).to] 42)
      have hb1 := hbr.trans (hbW.mono hbr.size)
      generalize wr.alloc (.cells #[.int .i64 (nthD l i).who, .int .i64 (nthD l i).place, .int .i64 (nthD l i).op, .int .i64 (nthD l i).fl, .int .i64 (nthD l i).a, .int .i64 (nthD l i).b, .int .i64 (nthD l i).e, .slice (nthD l i).ao (nthD l i).len (nthD l i).cap, .int .i64 (nthD l i).n, .int .u64 (nthD l i).v, .int .i64 (nthD l i).fr, .int .i64 (nthD l i).to] 42) = W at *
      generalize hn : wr.heap.size = A at *
      have HA := Lib.hid hA
      clear c0 c1 c2 c3 c4 c5 c6 c7 c8 c9 c10 c11 hc hbW hbr
      go_cut [41] from 7 to 81 (fun s41 wx => wx = W ∧ s41 = .bool (!rightD (nthD l i)))
      case first =>
        obtain ⟨a0, a1, a2, a3, a4, a5, a6, a7, a8, a9, a10, a11⟩ := hA.cells
        have F : Hid (rightD (nthD l i) = decide (0 ≤ (nthD l i).who ∧ 0 ≤ (nthD l i).place ∧ 0 ≤ (nthD l i).fr ∧ ((nthD l i).to = -1 ∨ (nthD l i).fr ≤ (nthD l i).to))) := rfl
        rcases (show (nthD l i).who < 0 ∨ (¬ (nthD l i).who < 0 ∧ (nthD l i).place < 0) ∨ (¬ (nthD l i).who < 0 ∧ ¬ (nthD l i).place < 0 ∧ (nthD l i).fr < 0) ∨ (¬ (nthD l i).who < 0 ∧ ¬ (nthD l i).place < 0 ∧ ¬ (nthD l i).fr < 0 ∧ (nthD l i).to = -1) ∨ (¬ (nthD l i).who < 0 ∧ ¬ (nthD l i).place < 0 ∧ ¬ (nthD l i).fr < 0 ∧ (nthD l i).to ≠ -1 ∧ (nthD l i).to < (nthD l i).fr) ∨ (¬ (nthD l i).who < 0 ∧ ¬ (nthD l i).place < 0 ∧ ¬ (nthD l i).fr < 0 ∧ (nthD l i).to ≠ -1 ∧ ¬ (nthD l i).to < (nthD l i).fr) by omega) with t1 | ⟨t1, t2⟩ | ⟨t1, t2, t3⟩ | ⟨t1, t2, t3, t4⟩ | ⟨t1, t2, t3, t4, t5⟩ | ⟨t1, t2, t3, t4, t5⟩
        iterate 3
          · have E : Hid (rightD (nthD l i) = false) := by unfold Hid; rw [F.out]; simp; omega
            go_wp2
            go_meet
            exact ⟨rfl, by rw [E.out]; rfl⟩
        · have E : Hid (rightD (nthD l i) = true) := by unfold Hid; rw [F.out]; simp; omega
          have e1 : ((nthD l i).to != -1) = false := by simp [t4]
          clear t4
          go_wp2
          go_meet
          exact ⟨rfl, by rw [E.out]; rfl⟩
        · have E : Hid (rightD (nthD l i) = false) := by unfold Hid; rw [F.out]; simp; omega
          have e1 : ((nthD l i).to != -1) = true := by simpa using t4
          clear t4
          go_wp2
          go_meet
          exact ⟨rfl, by rw [E.out]; rfl⟩
        · have E : Hid (rightD (nthD l i) = true) := by unfold Hid; rw [F.out]; simp; omega
          have e1 : ((nthD l i).to != -1) = true := by simpa using t4
          clear t4
          go_wp2
          go_meet
          exact ⟨rfl, by rw [E.out]; rfl⟩
      case rest =>
        obtain ⟨rfl, rfl⟩ := hcut
        clear hA
        cases hr : rightD (nthD l i)
        · have E : Hid (rightH l = false) := rightH_false1 (by rw [L0.out]; exact hl) hr
          go_wp2
          go_ret
          exact ⟨by rw [E.out]; rfl, hb1⟩
        · have HR := Lib.hid hr
          clear hr
          generalize hW2 : wc = W2 at *
          clear hW2
          go_wp2_with fail
          go_loopw [5, 6] (fun v5 _ wr => ∃ k : Nat, k ≤ n ∧ v5 = .int .i64 k ∧ (∀ k', k' < k → k' ≠ i → badB (nthD l i) (nthD l k') = false) ∧ Below W2.heap.size W2 wr) (fun v5 _ _ => n - (intOf v5).toNat)
          case atStart => exact ⟨0, Nat.zero_le _, rfl, fun j hj => absurd hj (Nat.not_lt_zero _), Below.refl _ _⟩
          case round =>
            obtain ⟨k, hk, rfl, heq, hbr⟩ := hrel
            have HK := Lib.hid heq
            clear heq
            by_cases hl2 : k < n
            · obtain ⟨b', o', e', _, hck⟩ := h.cells hl2
              simp only [Option.some.injEq, Addr.mk.injEq, and_true] at e'
              obtain ⟨rfl, rfl⟩ := e'
              have hbw := hb1.trans (hbr.mono hb1.size)
              obtain ⟨c0, c1, c2, c3, c4, c5, c6, c7, c8, c9, c10, c11⟩ := RdD.at12 (ao := none) (n := 0) (cap := 0) hck hbw
              have hA2 := HA.out.below hbr
              go_upto_region 11 with fail
              have hB := one_boxD wr (nthD l k) 42
              have hbX := below1 wr (.cells #[.int .i64 (nthD l k).who, .int .i64 (nthD l k).place, .int .i64 (nthD l k).op, .int .i64 (nthD l k).fl, .int .i64 (nthD l k).a, .int .i64 (nthD l k).b, .int .i64 (nthD l k).e, .slice (nthD l k).ao (nthD l k).len (nthD l k).cap, .int .i64 (nthD l k).n, .int .u64 (nthD l k).v, .int .i64 (nthD l k).fr, .int .i64 (nthD l k).to] 42)
              have hA3 := hA2.below hbX
              have hb2 := hbr.trans (hbX.mono hbr.size)
              generalize wr.alloc (.cells #[.int .i64 (nthD l k).who, .int .i64 (nthD l k).place, .int .i64 (nthD l k).op, .int .i64 (nthD l k).fl, .int .i64 (nthD l k).a, .int .i64 (nthD l k).b, .int .i64 (nthD l k).e, .slice (nthD l k).ao (nthD l k).len (nthD l k).cap, .int .i64 (nthD l k).n, .int .u64 (nthD l k).v, .int .i64 (nthD l k).fr, .int .i64 (nthD l k).to] 42) = X at *
              generalize hnB : wr.heap.size = B at *
              clear c0 c1 c2 c3 c4 c5 c6 c7 c8 c9 c10 c11 hck hA2 hbX hbr hbw
              go_cut [81] from 42 to 81 (fun s81 wx => Below W2.heap.size W2 wx ∧ s81 = .bool (decide (k ≠ i) && badB (nthD l i) (nthD l k)))
              case first =>
                obtain ⟨a0, a1, a2, a3, a4, a5, a6, a7, a8, a9, a10, a11⟩ := hA3.cells
                obtain ⟨b0, b1, b2, b3, b4, b5, b6, b7, b8, b9, b10, b11⟩ := hB.cells
                have F : Hid (badB (nthD l i) (nthD l k) = (decide ((nthD l i).who = (nthD l k).who) && (decide ((nthD l i).place = (nthD l k).place) || (decide ((nthD l i).place < (nthD l k).place) && !aheadB (nthD l i) (nthD l k))))) := rfl
                clear hA3 hB
                by_cases hki : k = i
                · have e0 : ((k : Int) != (i : Int)) = false := by simp [hki]
                  have E : Hid (decide (k ≠ i) = false) := by unfold Hid; simp [hki]
                  clear hki
                  go_wp2
                  go_meet
                  exact ⟨hb2, by rw [E.out]; rfl⟩
                · have e0 : ((k : Int) != (i : Int)) = true := by simp; omega
                  have E : Hid (decide (k ≠ i) = true) := by unfold Hid; simp [hki]
                  clear hki
                  by_cases hw : (nthD l i).who = (nthD l k).who
                  · have e1 : ((nthD l i).who == (nthD l k).who) = true := by simpa using hw
                    by_cases hp : (nthD l i).place = (nthD l k).place
                    · have e2 : ((nthD l i).place == (nthD l k).place) = true := by simpa using hp
                      have G : Hid (badB (nthD l i) (nthD l k) = true) := by unfold Hid; rw [F.out]; simp [hw, hp]
                      clear hw hp
                      go_wp2
                      go_meet
                      exact ⟨hb2, by rw [E.out, G.out]; rfl⟩
                    · have e2 : ((nthD l i).place == (nthD l k).place) = false := by simpa using hp
                      by_cases hlt2 : (nthD l i).place < (nthD l k).place
                      · have G : Hid (badB (nthD l i) (nthD l k) = !aheadB (nthD l i) (nthD l k)) := by unfold Hid; rw [F.out]; simp [hw, hp, hlt2]
                        clear hw hp
                        go_wp2_with fail
                        refine (refAhead_any (nthD l i) (nthD l k) _).mono ?_
                        rintro e w' ⟨rfl, hb'⟩
                        go_wp2
                        go_meet
                        exact ⟨hb2.trans (hb'.mono hb2.size), by rw [E.out, G.out]; rfl⟩
                      · have G : Hid (badB (nthD l i) (nthD l k) = false) := by unfold Hid; rw [F.out]; simp [hp, hlt2]
                        clear hw hp
                        go_wp2
                        go_meet
                        exact ⟨hb2, by rw [E.out, G.out]; rfl⟩
                  · have e1 : ((nthD l i).who == (nthD l k).who) = false := by simpa using hw
                    have G : Hid (badB (nthD l i) (nthD l k) = false) := by unfold Hid; rw [F.out]; simp [hw]
                    clear hw
                    go_wp2
                    go_meet
                    exact ⟨hb2, by rw [E.out, G.out]; rfl⟩
              case rest =>
                obtain ⟨hb3, rfl⟩ := hcut
                clear hA3 hB hb2
                cases hx : (decide (k ≠ i) && badB (nthD l i) (nthD l k))
                · have HX := Lib.hid hx
                  clear hx
                  go_wp2
                  go_roundw
                  case rel => exact ⟨k + 1, by omega, by go_num, fun k' hk' hne => by
                    by_cases hkk : k' = k
                    · subst hkk
                      have := HX.out
                      simpa [hne] using this
                    · exact HK.out k' (by omega) hne, hb3⟩
                  case measure => simp [intOf]; omega
                · have E : Hid (rightH l = false) := by
                    simp only [Bool.and_eq_true, decide_eq_true_eq] at hx
                    exact rightH_false2 (by rw [L0.out]; exact hl) (by rw [L0.out]; exact hl2) hx.1 hx.2
                  clear hx
                  go_wp2
                  go_ret
                  exact ⟨by rw [E.out]; rfl, hb1.trans (hb3.mono hb1.size)⟩
            · obtain rfl : k = n := by omega
              go_wp2
              go_roundw
              case rel => exact ⟨i + 1, by omega, by go_num, fun i' hi' => by
                by_cases hii : i' = i
                · subst hii; exact ⟨HR.out, fun k hk hne => HK.out k hk hne⟩
                · exact HQ.out i' (by omega), hb1.trans (hbr.mono hb1.size)⟩
              case measure => simp [intOf]; omega
    · obtain rfl : i = n := by omega
      have E : Hid (rightH l = true) := rightH_true (fun i' hi' => (HQ.out i' (by rw [L0.out] at hi'; exact hi')).1) fun i' hi' k hk hne => (HQ.out i' (by rw [L0.out] at hi'; exact hi')).2 k (by rw [L0.out] at hk; exact hk) hne
      go_wp2
      go_ret
      exact ⟨by rw [E.out]; rfl, hbr⟩
end Go.Proofs.YtdjooacjjnjfmaaGreat.H
end

-- The law's own: calls of a few workers in a few steps.
section
namespace Go.Proofs.YtdjooacjjnjfmaaGreat.H
set_option linter.unusedVariables false
set_option linter.unusedSimpArgs false
open Go.RowKit Go.Proofs.YtdjooacjjnjfmaaGreatMem Go.Proofs.YtdjooacjjnjfmaaGreatFlat

def errN (k : Int) : Int := if k = 0 then 0 else if k = 1 then 0 else if k = 2 then 10 else if k = 3 then 1 else 9
def toN (d : DoneS) : Int := if modZ d.to 8 = 7 then -1 else if modZ d.to 8 = 6 then modZ d.to 12 - 2 else modZ d.fr 12 + modZ d.to 6
def opN (d : DoneS) : Int := if 0 < modZ d.a 3 then 5 else 1 + modZ d.op 7
def near1 (d : DoneS) : DoneS := { d with who := modZ d.who 4, place := modZ d.place 4 }
def near2 (d : DoneS) : DoneS := { near1 d with fr := modZ d.fr 12 }
def near3 (d : DoneS) : DoneS := { near2 d with «to» := toN d }
def near4 (d : DoneS) : DoneS := { near3 d with op := 1 + modZ d.op 7 }
def near5 (d : DoneS) : DoneS := { near3 d with op := opN d }
def near6 (d : DoneS) : DoneS := { near5 d with e := errN (modZ d.e 5) }
def nearD (d : DoneS) : DoneS := if modZ d.who 31 = 30 then d else near6 d
theorem nearD_packets (d : DoneS) : (nearD d).ao = d.ao ∧ (nearD d).len = d.len ∧ (nearD d).cap = d.cap ∧ (nearD d).l = d.l := by
  unfold nearD; split <;> exact ⟨rfl, rfl, rfl, rfl⟩
theorem nearD_ok {d : DoneS} (h : d.Ok) : (nearD d).Ok := by
  unfold nearD
  split
  · exact h
  · obtain ⟨h0, h1, h2, h3, h4, h5, h6, h7, h8, h9, h10⟩ := h
    have a1 := modZ_bd d.who (n := 4) (by omega)
    have a2 := modZ_bd d.place (n := 4) (by omega)
    have a3 := modZ_bd d.fr (n := 12) (by omega)
    have a4 := modZ_bd d.to (n := 12) (by omega)
    have a5 := modZ_bd d.to (n := 6) (by omega)
    have a6 := modZ_bd d.op (n := 7) (by omega)
    refine ⟨?_, ?_, ?_, h3, h4, h5, ?_, h7, h8, ?_, ?_⟩
    all_goals unfold I64; simp only [near6, near5, near3, near2, near1, opN, toN, errN]
    · omega
    · omega
    · split <;> omega
    · (repeat' split) <;> omega
    · omega
    · (repeat' split) <;> omega
theorem BoxD.put {w : World} {b : Nat} {x : DoneS} {t : TypeId} (h : BoxD w b x t) {i : Nat} {v : Value} {y : DoneS} (e : x.cells.set i v = y.cells) : BoxD (w.setCell ⟨b, i, none⟩ v) b y t := by
  have h1 : Blk w b x.cells t := h
  have h2 := h1.set i v
  rw [e] at h2
  exact h2
theorem BoxD.far {w : World} {b : Nat} {x : DoneS} {t : TypeId} (h : BoxD w b x t) {c i : Nat} (hc : b ≠ c) (v : Value) : BoxD (w.setCell ⟨c, i, none⟩ v) b x t := Blk.set_far (cs := x.cells) h (a := ⟨c, i, none⟩) hc v
theorem BoxD.drew {w : World} {b : Nat} {x : DoneS} {t : TypeId} (h : BoxD w b x t) : BoxD w.drew b x t := h
/-- Two of them, behind what there was. -/
def TwoD (w : World) (A : Nat) (x y : DoneS) (w' : World) : Prop := BoxD w' A x 42 ∧ BoxD w' (A + 1) y 42 ∧ Below w.heap.size w w' ∧ w.heap.size ≤ A
theorem TwoD.drew {w w' : World} {A : Nat} {x y : DoneS} (h : TwoD w A x y w') : TwoD w A x y w'.drew := ⟨h.1, h.2.1, h.2.2.1.drew, h.2.2.2⟩
theorem TwoD.put {w w' : World} {A : Nat} {x y : DoneS} (h : TwoD w A x y w') {i : Nat} {v : Value} {z : DoneS} (e : x.cells.set i v = z.cells) : TwoD w A z y (w'.setCell ⟨A, i, none⟩ v) :=
  ⟨h.1.put e, h.2.1.far (by omega) v, h.2.2.1.setCell (p := ⟨A, i, none⟩) h.2.2.2 v, h.2.2.2⟩
theorem TwoD.start (w : World) (x y : DoneS) : TwoD w w.heap.size x y ((w.alloc (.cells #[.int .i64 x.who, .int .i64 x.place, .int .i64 x.op, .int .i64 x.fl, .int .i64 x.a, .int .i64 x.b, .int .i64 x.e, .slice x.ao x.len x.cap, .int .i64 x.n, .int .u64 x.v, .int .i64 x.fr, .int .i64 x.to] 42)).alloc (.cells #[.int .i64 y.who, .int .i64 y.place, .int .i64 y.op, .int .i64 y.fl, .int .i64 y.a, .int .i64 y.b, .int .i64 y.e, .slice y.ao y.len y.cap, .int .i64 y.n, .int .u64 y.v, .int .i64 y.fr, .int .i64 y.to] 42)) :=
  ⟨(two_boxesD w x y _).1, (two_boxesD w x y _).2, below2 _ _ _, Nat.le_refl _⟩
theorem TwoD.still {w w' w2 : World} {A : Nat} {x y : DoneS} (h : TwoD w A x y w') (e : w' = w2) : TwoD w A x y w2 := e ▸ h

end Go.Proofs.YtdjooacjjnjfmaaGreat.H
end

-- The law's own: some calls, in memory of their own.
section
namespace Go.Proofs.YtdjooacjjnjfmaaGreat.H
set_option linter.unusedVariables false
set_option linter.unusedSimpArgs false
open Go.RowKit Go.Proofs.YtdjooacjjnjfmaaGreatMem Go.Proofs.YtdjooacjjnjfmaaGreatFlat

theorem ED : ElT Tryz.prog 28 42 (.agg #[.int .i64 0, .int .i64 0, .int .i64 0, .int .i64 0, .int .i64 0, .int .i64 0, .int .i64 0, .slice none 0 0, .int .i64 0, .int .u64 0, .int .i64 0, .int .i64 0]) 12 := ⟨Tryz.underlying28, ⟨112, by kernel_rfl, by omega⟩, rfl, by omega⟩
theorem mapD_take_snoc (f : DoneS → DoneS) (l : List DoneS) {k : Nat} (h : k < l.length) : (l.take (k + 1)).map f = (l.take k).map f ++ [f (nthD l k)] := by
  rw [List.take_add_one, List.map_append, nthD_some h]; rfl
def someD (l : List DoneS) : List DoneS := (l.take 40).map nearD
theorem someD_length (l : List DoneS) : (someD l).length = min 40 l.length := by simp [someD]
/-- A call that hands back calls in memory of its own. -/
def RetD (w : World) (l : List DoneS) (en : Ending) (w' : World) : Prop := ∃ v, en = .returned v ∧ w'.ownsRow w.heap.size 42 12 v l.length (doneC l) ∧ Below w.heap.size w w'
/-- Calls that may be, whose packets read. -/
def GoodD (w : World) (l : List DoneS) : Prop := ∀ d ∈ l, d.Ok ∧ RdK w d.ao d.len d.cap d.l
theorem GoodD.below {w w' : World} {l : List DoneS} (h : GoodD w l) (hb : Below w.heap.size w w') : GoodD w' l := fun d hd => ⟨(h d hd).1, (h d hd).2.below hb⟩
theorem RdD.good {w : World} {ao : Option Addr} {n cap : Nat} {l : List DoneS} (h : RdD w ao n cap l) : GoodD w l := h.ok
theorem GoodD.some {w : World} {l : List DoneS} (h : GoodD w l) : GoodD w (someD l) := by
  intro d hd
  simp only [someD, List.mem_map] at hd
  obtain ⟨x, hx, rfl⟩ := hd
  obtain ⟨h1, h2⟩ := h x (List.mem_of_mem_take hx)
  obtain ⟨e1, e2, e3, e4⟩ := nearD_packets x
  exact ⟨nearD_ok h1, by rw [e1, e2, e3, e4]; exact h2⟩
theorem owns_rdD {w : World} {base : Nat} {ao : Option Addr} {n cap : Nat} {l : List DoneS} (h : w.ownsRow base 42 12 (.slice ao n cap) n (doneC l)) (hl : l.length = n) (hg : GoodD w l) : RdD w ao n cap l :=
  ⟨owns_rdS h (doneC_one l), hl, hg⟩

end Go.Proofs.YtdjooacjjnjfmaaGreat.H
end
