/- A flow of the program and one of the reference, as they lie in memory, and what they are as plain data. -/
import Derived.Test.YtfgfjnlkgadkhaaObj
import Derived.Test.YtfgfjnlkgadkhaaTag
import Derived.Deep.LoopGhost
namespace Go.Proofs.Ytfgfjnlkgadkhaa
set_option linter.unusedVariables false
set_option linter.unusedSimpArgs false
open Go.RowKit Go.Proofs.YtfgfjnlkgadkhaaMem

structure Pk where
  flow : Int
  len : Int
  mark : Int
  deriving DecidableEq
def Pk.cells (p : Pk) : List Value := [.int .i64 p.flow, .int .i64 p.len, .int .i64 p.mark]
def Pk.val (p : Pk) : Value := .agg #[.int .i64 p.flow, .int .i64 p.len, .int .i64 p.mark]
def Pk.Ok (p : Pk) : Prop := I64 p.flow ∧ I64 p.len ∧ I64 p.mark
def Pk.zero : Pk := ⟨0, 0, 0⟩
def pks (l : List Pk) : List Value := l.flatMap Pk.cells
theorem pks_length (l : List Pk) : (pks l).length = l.length * 3 := by
  induction l with
  | nil => rfl
  | cons p l ih => simp [pks, Pk.cells] at *; omega
theorem pks_append (a b : List Pk) : pks (a ++ b) = pks a ++ pks b := by simp [pks]
theorem pks_cons (p : Pk) (l : List Pk) : pks (p :: l) = p.cells ++ pks l := by simp [pks]
theorem pks_one (l : List Pk) : ∀ u ∈ pks l, u.oneCell' = true := by
  intro u hu
  simp only [pks, List.mem_flatMap, Pk.cells] at hu
  obtain ⟨p, _, hu⟩ := hu
  simp only [List.mem_cons, List.not_mem_nil, or_false] at hu
  rcases hu with rfl | rfl | rfl <;> rfl

/-- A flow as plain data. -/
structure FlS where
  r : Int
  most : Int
  start : Int
  finish : Int
  l : List Pk
structure FlS.Ok (x : FlS) : Prop where
  r : W64 x.r
  start : W64 x.start
  finish : W64 x.finish
  m1 : 1 ≤ x.most
  m8 : x.most ≤ 8
  len : (x.l.length : Int) ≤ x.most
  pk : ∀ p ∈ x.l, p.Ok
def FlS.new (r most : Int) : FlS := ⟨r, min (max most 1) 8, 0, 0, []⟩
def FlS.full (x : FlS) : Bool := decide ((x.l.length : Int) = x.most)
def FlS.put (x : FlS) (v : Int) (p : Pk) : FlS := { x with start := if x.l = [] then max v x.finish else x.start, l := x.l ++ [p] }
def FlS.arrive (x : FlS) (v : Int) (p : Pk) : FlS := if x.full then x else x.put v p
def FlS.fin (x : FlS) (p : Pk) : Int := satAdd x.start (costOf p.len x.r)
def FlS.serve (x : FlS) : FlS := match x.l with | [] => x | p :: rest => { x with finish := x.fin p, start := x.fin p, l := rest }

/-- What may be changed of an object behind a call: what was its own, and what was made since. -/
def Ext (F : Nat → Prop) (w w' : World) : Nat → Prop := fun k => F k ∨ (w.heap.size ≤ k ∧ k < w'.heap.size)
def Lt (F : Nat → Prop) (w : World) : Prop := ∀ k, F k → k < w.heap.size
theorem Lt.ext {F : Nat → Prop} {w w' : World} (h : Lt F w) (hs : w.heap.size ≤ w'.heap.size) : Lt (Ext F w w') w' := fun k hk => by
  rcases hk with hk | hk
  · have := h k hk; omega
  · exact hk.2
theorem Lt.mono {F : Nat → Prop} {w w' : World} (h : Lt F w) (hs : w.heap.size ≤ w'.heap.size) : Lt F w' := fun k hk => Nat.lt_of_lt_of_le (h k hk) hs

/-- A flow of the program at block b; F: the blocks that are its own (and, it may be, more). -/
def FlowAt (w : World) (b : Nat) (x : FlS) (F : Nat → Prop) : Prop :=
  ∃ ao cap, Blk w b [.int .u64 x.r, .int .i64 x.most, .slice ao x.l.length cap, .int .u64 x.start, .int .u64 x.finish] 115 ∧ w.ownsRow 0 55 3 (.slice ao x.l.length cap) x.l.length (pks x.l) ∧
    F b ∧ (∀ a, ao = some a → F a.block ∧ a.block ≠ b) ∧ Lt F w
theorem FlowAt.fr {w w' : World} {b : Nat} {x : FlS} {F S : Nat → Prop} (h : FlowAt w b x F) (hf : Fr S w w') (hn : ∀ k, F k → ¬ S k) : FlowAt w' b x F := by
  obtain ⟨ao, cap, hb, ho, h1, h2, h3⟩ := h
  refine ⟨ao, cap, hb.fr hf (hn b h1), owns_fr ho hf fun k hk => ?_, h1, h2, h3.mono hf.size⟩
  cases ao with
  | none => cases hk
  | some a => cases hk; exact hn _ (h2 a rfl).1
theorem FlowAt.below {w w' : World} {b : Nat} {x : FlS} {F : Nat → Prop} (h : FlowAt w b x F) (hb : Below w.heap.size w w') : FlowAt w' b x F := h.fr (Fr.of_below (S := fun _ => False) hb) (fun _ _ f => f)
theorem FlowAt.mono {w : World} {b : Nat} {x : FlS} {F G : Nat → Prop} (h : FlowAt w b x F) (hF : ∀ k, F k → G k) (hG : Lt G w) : FlowAt w b x G := by
  obtain ⟨ao, cap, hb, ho, h1, h2, h3⟩ := h
  exact ⟨ao, cap, hb, ho, hF b h1, fun a ha => ⟨hF _ (h2 a ha).1, (h2 a ha).2⟩, hG⟩

theorem EP : ElT Try.prog 35 55 (.agg #[.int .i64 0, .int .i64 0, .int .i64 0]) 3 := ⟨Try.underlying35, ⟨24, by kernel_rfl, by omega⟩, rfl, by omega⟩

set_option maxHeartbeats 400000 in
theorem len_any (b : Nat) (x : FlS) (F : Nat → Prop) (w : World) (h : FlowAt w b x F) :
    Calls Try.prog 56 #[.pointer (some ⟨b, 0, none⟩)] w fun e w' => e = .returned (.int .i64 x.l.length) ∧ w = w' := by
  obtain ⟨ao, cap, hb, ho, -⟩ := h
  have c2 := hb.cell 2
  simp only [List.getElem?_cons_succ, List.getElem?_cons_zero] at c2
  go_enter Try.func56, Try.ntmps56
  go_wp2
  go_ret
  exact ⟨rfl, rfl⟩


def FlS.start0 (x : FlS) : Int := if x.l = [] then 0 else x.start
def FlS.has (x : FlS) : Bool := !x.l.isEmpty
set_option maxHeartbeats 400000 in
theorem start_any (b : Nat) (x : FlS) (F : Nat → Prop) (w : World) (h : FlowAt w b x F) :
    Calls Try.prog 63 #[.pointer (some ⟨b, 0, none⟩)] w fun e w' => e = .returned (.tuple #[.int .u64 x.start0, .bool x.has]) ∧ w = w' := by
  obtain ⟨ao, cap, hb, ho, -⟩ := h
  have c2 := hb.cell 2
  have c3 := hb.cell 3
  simp only [List.getElem?_cons_succ, List.getElem?_cons_zero] at c2 c3
  by_cases hl : x.l = []
  · have E : Hid (x.start0 = 0) := by unfold Hid FlS.start0; rw [if_pos hl]
    have E2 : Hid (x.has = false) := by unfold Hid FlS.has; rw [hl]; rfl
    have e1 : ((x.l.length : Int) == 0) = true := by rw [hl]; rfl
    clear hl hb ho
    go_enter Try.func63, Try.ntmps63
    go_wp2
    go_ret2
    exact ⟨by rw [E.out, E2.out]; rfl, rfl⟩
  · have E : Hid (x.start0 = x.start) := by unfold Hid FlS.start0; rw [if_neg hl]
    have E2 : Hid (x.has = true) := by unfold Hid FlS.has; simpa using hl
    have e1 : ((x.l.length : Int) == 0) = false := by
      have : x.l.length ≠ 0 := fun h0 => hl (List.eq_nil_of_length_eq_zero h0)
      simp; omega
    clear hl hb ho
    go_enter Try.func63, Try.ntmps63
    go_wp2
    go_ret2
    exact ⟨by rw [E.out, E2.out]; rfl, rfl⟩
end Go.Proofs.Ytfgfjnlkgadkhaa
