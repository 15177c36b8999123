/- HistAll: of any calls the program tells what the reference tells: whether they may be, whether all have ended, how many are under way at once. -/
import Derived.Test.YtonldjkmbapjeaaHist12
namespace Go.Proofs.Ytonldjkmbapjeaa
set_option linter.unusedVariables false
set_option linter.unusedSimpArgs false
open Go.RowKit Go.Proofs.YtonldjkmbapjeaaMem Go.Proofs.YtonldjkmbapjeaaFlat

set_option maxRecDepth 20000 in
set_option maxHeartbeats 4000000 in
theorem HistAll_1 (ao : Option Addr) (n cap : Nat) (l : List DoneS) (a b : DoneS) (w : World) (h : RdD w ao n cap l) :
    Calls Try.prog 3 #[.slice ao n cap, (.agg #[.int .i64 a.who, .int .i64 a.place, .int .i64 a.op, .int .i64 a.fl, .int .i64 a.a, .int .i64 a.b, .int .i64 a.e, .slice a.ao a.len a.cap, .int .i64 a.n, .int .u64 a.v, .int .i64 a.fr, .int .i64 a.to]), (.agg #[.int .i64 b.who, .int .i64 b.place, .int .i64 b.op, .int .i64 b.fl, .int .i64 b.a, .int .i64 b.b, .int .i64 b.e, .slice b.ao b.len b.cap, .int .i64 b.n, .int .u64 b.v, .int .i64 b.fr, .int .i64 b.to])] w fun e w' => e = .returned (.bool true) ∧ Below w.heap.size w w' := by
  have hl40 : (someD l).length ≤ 40 := by rw [someD_length]; omega
  have hg := h.good.some
  go_enter Try.func3, Try.ntmps3
  go_upto_region 1 with fail
  have hh := two_boxesD w a b 31
  have hbW := below2 w (.cells #[.int .i64 a.who, .int .i64 a.place, .int .i64 a.op, .int .i64 a.fl, .int .i64 a.a, .int .i64 a.b, .int .i64 a.e, .slice a.ao a.len a.cap, .int .i64 a.n, .int .u64 a.v, .int .i64 a.fr, .int .i64 a.to] 31) (.cells #[.int .i64 b.who, .int .i64 b.place, .int .i64 b.op, .int .i64 b.fl, .int .i64 b.a, .int .i64 b.b, .int .i64 b.e, .slice b.ao b.len b.cap, .int .i64 b.n, .int .u64 b.v, .int .i64 b.fr, .int .i64 b.to] 31)
  generalize (w.alloc (.cells #[.int .i64 a.who, .int .i64 a.place, .int .i64 a.op, .int .i64 a.fl, .int .i64 a.a, .int .i64 a.b, .int .i64 a.e, .slice a.ao a.len a.cap, .int .i64 a.n, .int .u64 a.v, .int .i64 a.fr, .int .i64 a.to] 31)).alloc (.cells #[.int .i64 b.who, .int .i64 b.place, .int .i64 b.op, .int .i64 b.fl, .int .i64 b.a, .int .i64 b.b, .int .i64 b.e, .slice b.ao b.len b.cap, .int .i64 b.n, .int .u64 b.v, .int .i64 b.fr, .int .i64 b.to] 31) = W at *
  obtain ⟨hA, hB⟩ := hh
  generalize hn : w.heap.size = A at *
  generalize A + 1 = A1 at *
  have HA := Lib.hid hA
  have HB := Lib.hid hB
  clear hA hB
  go_wp2_with fail
  refine (some_any ao n cap l _ (h.below (by rw [hn]; exact hbW))).mono ?_
  rintro e w1 ⟨v, rfl, hown, hb1⟩
  obtain ⟨pa, pc, rfl⟩ := owns_slice hown
  have r1 := Lib.hid (owns_rdD hown rfl (hg.below (by rw [hn]; exact hbW.trans (hb1.mono (by have := hbW.size; omega)))))
  have B1 := hbW.trans (hb1.mono (show A ≤ W.heap.size by have := hbW.size; omega))
  have HA1 := HA.out.below hb1
  have HB1 := HB.out.below hb1
  obtain ⟨a0, a1, a2, a3, a4, a5, a6, a7, a8, a9, a10, a11⟩ := HA1.cells
  obtain ⟨b0, b1, b2, b3, b4, b5, b6, b7, b8, b9, b10, b11⟩ := HB1.cells
  have hAl := HA1.lt
  have hBl := HB1.lt
  clear HA HB HA1 HB1 hown hb1 hbW hg h
  generalize someD l = L at *
  have q1 := histRight_any pa L.length pc L
  have q2 := refRight_any pa L.length pc L
  have q3 := histEnded_any pa L.length pc L
  have q4 := refEnded_any pa L.length pc L
  have q5 := histMost_any pa L.length pc L
  have q6 := refMost_any pa L.length pc L
  have q7 := histAhead_any a b
  have q8 := refAhead_any a b
  have q9 := histAhead_any (nearD a) (nearD b)
  have q10 := refAhead_any (nearD a) (nearD b)
  have Q1 := Lib.hid q1
  have Q2 := Lib.hid q2
  have Q3 := Lib.hid q3
  have Q4 := Lib.hid q4
  have Q5 := Lib.hid q5
  have Q6 := Lib.hid q6
  have Q7 := Lib.hid q7
  have Q8 := Lib.hid q8
  have Q9 := Lib.hid q9
  have Q10 := Lib.hid q10
  have Q11 := Lib.hid (near_any a)
  have Q12 := Lib.hid (near_any b)
  clear q1 q2 q3 q4 q5 q6 q7 q8 q9 q10
  generalize rightH L = x1 at *
  generalize L.all endedB = x2 at *
  generalize mostD L = x3 at *
  generalize aheadB a b = x4 at *
  generalize aheadB (nearD a) (nearD b) = x5 at *
  generalize nearD a = a' at *
  generalize nearD b = b' at *
  generalize L.length = m at *
  go_wp2_with fail
  generalize hW1 : w1 = W1 at *
  clear hW1
  go_region_held3 (fun w' => Below W1.heap.size W1 w' ∧ (∀ b o, b < W1.heap.size → w'.cell? ⟨b, o, none⟩ = W1.cell? ⟨b, o, none⟩)) (first | exact hs_refl ((Below.refl _ _).drew) | assumption | exact hs_step (by assumption) (by assumption))
    (first
      | (go_at_call 11; (with_reducible refine (awake_any _).mono ?_); rintro e w' ⟨rfl, hb'⟩)
      | (go_at_call 12; (with_reducible refine (Q1.out _ (r1.out.held (by assumption))).mono ?_); rintro e w' ⟨rfl, hb'⟩)
      | (go_at_call 13; (with_reducible refine (Q2.out _ (r1.out.held (by assumption))).mono ?_); rintro e w' ⟨rfl, hb'⟩)
      | (go_at_call 14; (with_reducible refine (Q3.out _ (r1.out.held (by assumption))).mono ?_); rintro e w' ⟨rfl, hb'⟩)
      | (go_at_call 15; (with_reducible refine (Q4.out _ (r1.out.held (by assumption))).mono ?_); rintro e w' ⟨rfl, hb'⟩)
      | (go_at_call 16; (with_reducible refine (Q5.out _ (r1.out.held (by assumption)) (by omega)).mono ?_); rintro e w' ⟨rfl, hb'⟩)
      | (go_at_call 17; (with_reducible refine (Q6.out _ (r1.out.held (by assumption)) (by omega)).mono ?_); rintro e w' ⟨rfl, hb'⟩)
      | (go_at_call 18; (with_reducible refine (Q7.out _).mono ?_); rintro e w' ⟨rfl, hb'⟩)
      | (go_at_call 18; (with_reducible refine (Q9.out _).mono ?_); rintro e w' ⟨rfl, hb'⟩)
      | (go_at_call 19; (with_reducible refine (Q8.out _).mono ?_); rintro e w' ⟨rfl, hb'⟩)
      | (go_at_call 19; (with_reducible refine (Q10.out _).mono ?_); rintro e w' ⟨rfl, hb'⟩)
      | (go_at_call 20; (with_reducible refine (Q11.out _).mono ?_); rintro e w' ⟨rfl, hb'⟩)
      | (go_at_call 20; (with_reducible refine (Q12.out _).mono ?_); rintro e w' ⟨rfl, hb'⟩))
  have hS := ‹Below W1.heap.size W1 _ ∧ _›.1
  go_wp2
  go_ret
  exact ⟨rfl, by rw [hn]; exact B1.trans (hS.mono (show A ≤ W1.heap.size by have := B1.size; omega))⟩

theorem HistAll_any (w : World) (ao : Option Addr) (len cap : Nat) (L : List (List Value)) (h : IsNest w doneK ao len cap L) (ca : List Value) (ha : NestOk w doneK ca) (cb : List Value) (hb : NestOk w doneK cb) :
    Calls Try.prog 3 #[.slice ao len cap, .agg ca.toArray, .agg cb.toArray] w fun e w' => e = .returned (.bool true) ∧ Below w.heap.size w w' := by
  obtain ⟨l, hl⟩ := isNest_rdD h
  obtain ⟨a, rfl, _, _⟩ := done_of ha
  obtain ⟨b, rfl, _, _⟩ := done_of hb
  exact HistAll_1 ao len cap l a b w hl
end Go.Proofs.Ytonldjkmbapjeaa
