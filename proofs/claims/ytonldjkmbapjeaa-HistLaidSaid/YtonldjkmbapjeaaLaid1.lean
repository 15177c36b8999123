/- The law's own: a history that may be, as plain data, and how it lies in memory while it is made. -/
import Derived.Test.YtonldjkmbapjeaaHist11
namespace Go.Proofs.Ytonldjkmbapjeaa
set_option linter.unusedVariables false
set_option linter.unusedSimpArgs false
open Go.RowKit Go.Proofs.YtonldjkmbapjeaaMem Go.Proofs.YtonldjkmbapjeaaFlat

def updI (f : Nat → Int) (q : Nat) (v : Int) : Nat → Int := fun i => if i = q then v else f i
def updB (f : Nat → Bool) (q : Nat) (v : Bool) : Nat → Bool := fun i => if i = q then v else f i
structure LdS where
  a : Nat → Int
  n : Nat → Int
  op : Nat → Bool
  out : List DoneS
def who4 (d : DoneS) : Nat := (modZ (nearD d).who 4).toNat
theorem who4_lt (d : DoneS) : who4 d < 4 := by unfold who4; have := modZ_bd (nearD d).who (n := 4) (by omega); omega
theorem who4_eq (d : DoneS) : modZ (nearD d).who 4 = (who4 d : Int) := by unfold who4; have := modZ_bd (nearD d).who (n := 4) (by omega); omega
def ldFr (s : LdS) (x : DoneS) : Int := s.a (who4 x) + modZ x.fr 4
def ldTo (s : LdS) (x : DoneS) : Int := ldFr s x + modZ x.to 9
def ldLast (x : DoneS) : Bool := decide (modZ x.place 13 = 12)
def ldD (s : LdS) (x : DoneS) : DoneS := { nearD x with who := who4 x, place := s.n (who4 x), fr := ldFr s x, «to» := if ldLast x then -1 else ldTo s x }
def ldStep (s : LdS) (x : DoneS) : LdS :=
  if s.op (who4 x) = true then s else
    { a := updI s.a (who4 x) (ldTo s x + 1), n := updI s.n (who4 x) (s.n (who4 x) + 1), op := if ldLast x then updB s.op (who4 x) true else s.op, out := s.out ++ [ldD s x] }
def ld0 : LdS := ⟨fun _ => 0, fun _ => 0, fun _ => false, []⟩
def ldAll (l : List DoneS) : LdS := l.foldl ldStep ld0
def laidD (l : List DoneS) : List DoneS := (ldAll (l.take 40)).out
theorem ldAll_snoc {l : List DoneS} {k : Nat} (h : k < l.length) : ldAll (l.take (k + 1)) = ldStep (ldAll (l.take k)) (nthD l k) := by
  unfold ldAll
  rw [List.take_add_one, nthD_some h, List.foldl_append]; rfl

/-- How far the numbers come. -/
theorem ldStep_len (s : LdS) (x : DoneS) : (ldStep s x).out.length ≤ s.out.length + 1 := by
  unfold ldStep; split <;> simp
theorem ldAll_bd : ∀ k, ∀ l : List DoneS, (∀ q, 0 ≤ (ldAll (l.take k)).a q ∧ (ldAll (l.take k)).a q ≤ 12 * k) ∧ (∀ q, 0 ≤ (ldAll (l.take k)).n q ∧ (ldAll (l.take k)).n q ≤ k) ∧ (ldAll (l.take k)).out.length ≤ k := by
  intro k
  induction k with
  | zero => intro l; simp [ldAll, ld0]
  | succ k ih =>
    intro l
    by_cases hk : k < l.length
    · rw [ldAll_snoc hk]
      obtain ⟨h1, h2, h3⟩ := ih l
      generalize ldAll (l.take k) = s at *
      have hl := ldStep_len s (nthD l k)
      refine ⟨fun q => ?_, fun q => ?_, by omega⟩
      · have a1 := h1 q
        have a2 := h1 (who4 (nthD l k))
        have b1 := modZ_bd (nthD l k).fr (n := 4) (by omega)
        have b2 := modZ_bd (nthD l k).to (n := 9) (by omega)
        unfold ldStep
        split
        · omega
        · simp only [updI, ldTo, ldFr]
          split <;> omega
      · have a1 := h2 q
        have a2 := h2 (who4 (nthD l k))
        unfold ldStep
        split
        · omega
        · simp only [updI]
          split <;> omega
    · have : l.take (k + 1) = l.take k := by rw [List.take_of_length_le (by omega), List.take_of_length_le (by omega)]
      rw [this]
      obtain ⟨h1, h2, h3⟩ := ih l
      exact ⟨fun q => by have := h1 q; omega, fun q => by have := h2 q; omega, by omega⟩

/-! ### In memory -/
def arrI (f : Nat → Int) : List Value := [.int .i64 (f 0), .int .i64 (f 1), .int .i64 (f 2), .int .i64 (f 3)]
def arrB (f : Nat → Bool) : List Value := [.bool (f 0), .bool (f 1), .bool (f 2), .bool (f 3)]
theorem arrI_at (f : Nat → Int) {q : Nat} (h : q < 4) : (arrI f)[q]? = some (.int .i64 (f q)) := by
  rcases (show q = 0 ∨ q = 1 ∨ q = 2 ∨ q = 3 by omega) with rfl | rfl | rfl | rfl <;> rfl
theorem arrB_at (f : Nat → Bool) {q : Nat} (h : q < 4) : (arrB f)[q]? = some (.bool (f q)) := by
  rcases (show q = 0 ∨ q = 1 ∨ q = 2 ∨ q = 3 by omega) with rfl | rfl | rfl | rfl <;> rfl
theorem arrI_set (f : Nat → Int) {q : Nat} (h : q < 4) (v : Int) : (arrI f).set q (.int .i64 v) = arrI (updI f q v) := by
  rcases (show q = 0 ∨ q = 1 ∨ q = 2 ∨ q = 3 by omega) with rfl | rfl | rfl | rfl <;> rfl
theorem arrB_set (f : Nat → Bool) {q : Nat} (h : q < 4) (v : Bool) : (arrB f).set q (.bool v) = arrB (updB f q v) := by
  rcases (show q = 0 ∨ q = 1 ∨ q = 2 ∨ q = 3 by omega) with rfl | rfl | rfl | rfl <;> rfl

/-- The numbers of each worker, in blocks of their own, and what was laid so far. -/
structure LB (w wr : World) (A N O : Nat) (s : LdS) (v : Value) : Prop where
  own : wr.ownsRow w.heap.size 31 12 v s.out.length (doneC s.out)
  bel : Below w.heap.size w wr
  bA : Blk wr A (arrI s.a) 58
  bN : Blk wr N (arrI s.n) 58
  bO : Blk wr O (arrB s.op) 46
  geA : w.heap.size ≤ A
  geN : w.heap.size ≤ N
  geO : w.heap.size ≤ O
  neAN : A ≠ N
theorem own_blk {w : World} {base : Nat} {e t : TypeId} {size n B : Nat} {v : Value} {xs cs : List Value} (h : w.ownsRow base e size v n xs) (hB : Blk w B cs t) (hne : e ≠ t) : ∀ k, v.ownBlock = some k → k ≠ B := by
  intro k hk e'
  subst e'
  obtain ⟨cur, hc⟩ := own_heap h hk
  unfold Blk at hB
  rw [hB] at hc
  simp only [Option.some.injEq, Obj.cells.injEq] at hc
  exact hne hc.2.1.symm
theorem blk_ne {w : World} {B C : Nat} {cs ds : List Value} {t u : TypeId} (hB : Blk w B cs t) (hC : Blk w C ds u) (hne : t ≠ u) : B ≠ C := by
  rintro rfl
  unfold Blk at hB hC
  rw [hB] at hC
  simp only [Option.some.injEq, Obj.cells.injEq] at hC
  exact hne hC.2.1
theorem LB.below {w wr w2 : World} {A N O : Nat} {s : LdS} {v : Value} (h : LB w wr A N O s v) (hb : Below wr.heap.size wr w2) : LB w w2 A N O s v :=
  ⟨owns_below (B := 0) h.own hb, h.bel.trans (hb.mono h.bel.size), h.bA.below hb, h.bN.below hb, h.bO.below hb, h.geA, h.geN, h.geO, h.neAN⟩
theorem LB.drew {w wr : World} {A N O : Nat} {s : LdS} {v : Value} (h : LB w wr A N O s v) : LB w wr.drew A N O s v := ⟨h.own.drew, h.bel.drew, h.bA, h.bN, h.bO, h.geA, h.geN, h.geO, h.neAN⟩
/-- A call in a box beside it. -/
structure LX (w wr : World) (A N O D : Nat) (s : LdS) (v : Value) (y : DoneS) : Prop extends LB w wr A N O s v where
  bD : BoxD wr D y 31
  geD : w.heap.size ≤ D
  neD : ∀ k, v.ownBlock = some k → k ≠ D
theorem LX.drew {w wr : World} {A N O D : Nat} {s : LdS} {v : Value} {y : DoneS} (h : LX w wr A N O D s v y) : LX w wr.drew A N O D s v y := ⟨h.toLB.drew, h.bD, h.geD, h.neD⟩
theorem LX.below {w wr w2 : World} {A N O D : Nat} {s : LdS} {v : Value} {y : DoneS} (h : LX w wr A N O D s v y) (hb : Below wr.heap.size wr w2) : LX w w2 A N O D s v y := ⟨h.toLB.below hb, h.bD.below hb, h.geD, h.neD⟩
theorem LX.neA {w wr : World} {A N O D : Nat} {s : LdS} {v : Value} {y : DoneS} (h : LX w wr A N O D s v y) : A ≠ D ∧ N ≠ D ∧ O ≠ D := by
  have hD : Blk wr D y.cells 31 := h.bD
  exact ⟨blk_ne h.bA hD (by decide), blk_ne h.bN hD (by decide), blk_ne h.bO hD (by decide)⟩
theorem LX.putD {w wr : World} {A N O D : Nat} {s : LdS} {v : Value} {y z : DoneS} (h : LX w wr A N O D s v y) {i : Nat} {u : Value} (e : y.cells.set i u = z.cells) : LX w (wr.setCell ⟨D, i, none⟩ u) A N O D s v z :=
  ⟨⟨owns_far h.own h.neD u, h.bel.setCell (p := ⟨D, i, none⟩) h.geD u, h.bA.set_far (a := ⟨D, i, none⟩) h.neA.1 u, h.bN.set_far (a := ⟨D, i, none⟩) h.neA.2.1 u, h.bO.set_far (a := ⟨D, i, none⟩) h.neA.2.2 u, h.geA, h.geN, h.geO, h.neAN⟩, h.bD.put e, h.geD, h.neD⟩
theorem LX.putA {w wr : World} {A N O D : Nat} {s : LdS} {v : Value} {y : DoneS} (h : LX w wr A N O D s v y) {q : Nat} (hq : q < 4) (x : Int) : LX w (wr.setCell ⟨A, q, none⟩ (.int .i64 x)) A N O D { s with a := updI s.a q x } v y :=
  ⟨⟨owns_far h.own (own_blk h.own h.bA (by decide)) _, h.bel.setCell (p := ⟨A, q, none⟩) h.geA _, by have := h.bA.set q (.int .i64 x); rw [arrI_set s.a hq] at this; exact this, h.bN.set_far (a := ⟨A, q, none⟩) h.neAN.symm _, h.bO.set_far (a := ⟨A, q, none⟩) (blk_ne h.bO h.bA (by decide)) _, h.geA, h.geN, h.geO, h.neAN⟩, BoxD.far h.bD h.neA.1.symm _, h.geD, h.neD⟩
theorem LX.putN {w wr : World} {A N O D : Nat} {s : LdS} {v : Value} {y : DoneS} (h : LX w wr A N O D s v y) {q : Nat} (hq : q < 4) (x : Int) : LX w (wr.setCell ⟨N, q, none⟩ (.int .i64 x)) A N O D { s with n := updI s.n q x } v y :=
  ⟨⟨owns_far h.own (own_blk h.own h.bN (by decide)) _, h.bel.setCell (p := ⟨N, q, none⟩) h.geN _, h.bA.set_far (a := ⟨N, q, none⟩) h.neAN _, by have := h.bN.set q (.int .i64 x); rw [arrI_set s.n hq] at this; exact this, h.bO.set_far (a := ⟨N, q, none⟩) (blk_ne h.bO h.bN (by decide)) _, h.geA, h.geN, h.geO, h.neAN⟩, BoxD.far h.bD h.neA.2.1.symm _, h.geD, h.neD⟩
theorem LX.putO {w wr : World} {A N O D : Nat} {s : LdS} {v : Value} {y : DoneS} (h : LX w wr A N O D s v y) {q : Nat} (hq : q < 4) (x : Bool) : LX w (wr.setCell ⟨O, q, none⟩ (.bool x)) A N O D { s with op := updB s.op q x } v y :=
  ⟨⟨owns_far h.own (own_blk h.own h.bO (by decide)) _, h.bel.setCell (p := ⟨O, q, none⟩) h.geO _, h.bA.set_far (a := ⟨O, q, none⟩) (blk_ne h.bA h.bO (by decide)) _, h.bN.set_far (a := ⟨O, q, none⟩) (blk_ne h.bN h.bO (by decide)) _, by have := h.bO.set q (.bool x); rw [arrB_set s.op hq] at this; exact this, h.geA, h.geN, h.geO, h.neAN⟩, BoxD.far h.bD h.neA.2.2.symm _, h.geD, h.neD⟩
theorem LX.push {w wr w2 : World} {A N O D m : Nat} {s : LdS} {v v' : Value} {y z : DoneS} (h : LX w wr A N O D s v y) (hn : s.out.length = m)
    (ho : w2.ownsRow w.heap.size 31 12 v' (m + 1) (doneC s.out ++ z.cells)) (hg : wr.grownBy w2 v.ownBlock) (hb : Below w.heap.size wr w2) : LB w w2 A N O { s with out := s.out ++ [z] } v' := by
  subst hn
  refine ⟨?_, h.bel.trans hb, h.bA.grown hg (fun e => own_blk h.own h.bA (by decide) A e rfl), h.bN.grown hg (fun e => own_blk h.own h.bN (by decide) N e rfl), h.bO.grown hg (fun e => own_blk h.own h.bO (by decide) O e rfl), h.geA, h.geN, h.geO, h.neAN⟩
  rw [doneC_snoc]; simpa using ho
theorem LB.start (w : World) : LB w (((w.alloc (.cells #[.int .i64 0, .int .i64 0, .int .i64 0, .int .i64 0] 58)).alloc (.cells #[.int .i64 0, .int .i64 0, .int .i64 0, .int .i64 0] 58)).alloc (.cells #[.bool false, .bool false, .bool false, .bool false] 46)) w.heap.size (w.heap.size + 1) (w.heap.size + 1 + 1) ld0 (.slice none 0 0) := by
  have e1 : (w.alloc (.cells #[.int .i64 0, .int .i64 0, .int .i64 0, .int .i64 0] 58)).heap.size = w.heap.size + 1 := by simp
  have e2 : ((w.alloc (.cells #[.int .i64 0, .int .i64 0, .int .i64 0, .int .i64 0] 58)).alloc (.cells #[.int .i64 0, .int .i64 0, .int .i64 0, .int .i64 0] 58)).heap.size = w.heap.size + 1 + 1 := by simp
  have b1 := Blk.new w (arrI ld0.a) 58
  have b2 := Blk.new (w.alloc (.cells #[.int .i64 0, .int .i64 0, .int .i64 0, .int .i64 0] 58)) (arrI ld0.n) 58
  have b3 := Blk.new ((w.alloc (.cells #[.int .i64 0, .int .i64 0, .int .i64 0, .int .i64 0] 58)).alloc (.cells #[.int .i64 0, .int .i64 0, .int .i64 0, .int .i64 0] 58)) (arrB ld0.op) 46
  rw [e1] at b2
  rw [e2] at b3
  exact ⟨by simpa [ld0, doneC] using World.ownsRow_nil _ _ _ _, below_step (below2 w _ _) (below1 _ _), (Blk.alloc (Blk.alloc b1 _) _), Blk.alloc b2 _, b3, by omega, by omega, by omega, by omega⟩
end Go.Proofs.Ytonldjkmbapjeaa
