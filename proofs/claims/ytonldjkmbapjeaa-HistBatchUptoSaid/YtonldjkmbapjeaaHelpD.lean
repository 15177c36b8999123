/- weighbridgehelp at calls: packets, answers, calls and lists of them held against each other. -/
import Derived.Test.YtonldjkmbapjeaaHist11
namespace Go.Proofs.Ytonldjkmbapjeaa
set_option linter.unusedVariables false
set_option linter.unusedSimpArgs false
open Go.RowKit Go.Proofs.YtonldjkmbapjeaaMem Go.Proofs.YtonldjkmbapjeaaFlat

set_option maxHeartbeats 400000 in
theorem plainK1_any (p : PkS) (w : World) :
    Calls Try.prog 45 #[.agg #[.int .i64 p.flow, .int .i64 p.len, .int .i64 p.mark], .agg #[.int .i64 p.flow, .int .i64 p.len, .int .i64 p.mark]] w fun e w' => e = .returned (.bool true) ∧ Below w.heap.size w w' := by
  go_enter Try.func45, Try.ntmps45
  go_wp2
  go_ret
  exact ⟨rfl, below2 _ _ _⟩

set_option maxHeartbeats 1000000 in
theorem sameK_any (a0 a1 : Option Addr) (n c0 c1 : Nat) (l : List PkS) (w : World) (h0 : RdK w a0 n c0 l) (h1 : RdK w a1 n c1 l) :
    Calls Try.prog 44 #[.slice a0 n c0, .slice a1 n c1, .func (.func 45) #[] #[]] w fun e w' => e = .returned (.bool true) ∧ Below w.heap.size w w' := by
  have s0 := h0.rd.small
  have hb : ((n : Int) != (n : Int)) = false := by simp
  go_enter Try.func44, Try.ntmps44
  go_wp2
  go_loopw [7] (fun i wr => ∃ k : Nat, k ≤ n ∧ i = .int .i64 k ∧ Below w.heap.size w wr) (fun i _ => n - (intOf i).toNat)
  case atStart => exact ⟨0, Nat.zero_le _, rfl, Below.refl _ _⟩
  case round =>
    obtain ⟨k, hk, rfl, hbr⟩ := hrel
    by_cases hl : k < n
    · obtain ⟨b0, o0, rfl, hlt0, hc0⟩ := h0.cells hl
      obtain ⟨b1, o1, rfl, hlt1, hc1⟩ := h1.cells hl
      obtain ⟨x0, x1, x2⟩ := hc0 wr hbr
      obtain ⟨y0, y1, y2⟩ := hc1 wr hbr
      clear hc0 hc1
      have l0 : b0 < wr.heap.size := Nat.lt_of_lt_of_le hlt0 hbr.size
      have l1 : b1 < wr.heap.size := Nat.lt_of_lt_of_le hlt1 hbr.size
      have i1 : (k : Int) < (n : Int) := by omega
      go_wp2_with fail
      go_region_held3 (fun w' => Below wr.heap.size wr w' ∧ (∀ b o, b < wr.heap.size → w'.cell? ⟨b, o, none⟩ = wr.cell? ⟨b, o, none⟩)) (first | exact hs_refl ((Below.refl _ _).drew) | assumption | exact hs_step (by assumption) (by assumption))
        (first | (go_at_call 45; (with_reducible refine (plainK1_any (nthK l k) _).mono ?_); rintro e w' ⟨rfl, hb'⟩))
      go_wp2
      go_roundw
      case rel => exact ⟨k + 1, by omega, by go_num, hbr.trans ((‹Below wr.heap.size wr _ ∧ _›).1.mono hbr.size)⟩
      case measure => simp [intOf]; omega
    · have i1 : (n : Int) ≤ (k : Int) := by omega
      go_wp2
      go_ret
      exact ⟨rfl, hbr⟩

set_option maxHeartbeats 400000 in
theorem plainK_any (a0 a1 : Option Addr) (n c0 c1 : Nat) (l : List PkS) (w : World) (h0 : RdK w a0 n c0 l) (h1 : RdK w a1 n c1 l) :
    Calls Try.prog 40 #[.slice a0 n c0, .slice a1 n c1] w fun e w' => e = .returned (.bool true) ∧ Below w.heap.size w w' := by
  go_enter Try.func40, Try.ntmps40
  go_wp2_with fail
  refine (sameK_any a0 a1 n c0 c1 l _ h0 h1).mono ?_
  rintro e w1 ⟨rfl, hb⟩
  go_wp2
  go_ret
  exact ⟨rfl, hb⟩

set_option maxHeartbeats 1000000 in
theorem sameRet_any (e nn v : Int) (a0 a1 : Option Addr) (n c0 c1 : Nat) (l : List PkS) (w : World) (h0 : RdK w a0 n c0 l) (h1 : RdK w a1 n c1 l) :
    Calls Try.prog 27 #[.agg #[.int .i64 e, .slice a0 n c0, .int .i64 nn, .int .u64 v], .agg #[.int .i64 e, .slice a1 n c1, .int .i64 nn, .int .u64 v]] w fun en w' => en = .returned (.bool true) ∧ Below w.heap.size w w' := by
  have e1 : (e == e) = true := by simp
  have e2 : (nn == nn) = true := by simp
  have e3 : (v == v) = true := by simp
  have H0 := Lib.hid h0
  have H1 := Lib.hid h1
  clear h0 h1
  go_enter Try.func27, Try.ntmps27
  go_wp2_with fail
  refine (plainK_any a0 a1 n c0 c1 l _ (H0.out.below (below2 _ _ _)) (H1.out.below (below2 _ _ _))).mono ?_
  rintro en w1 ⟨rfl, hb⟩
  go_wp2
  go_ret
  exact ⟨rfl, below_step (below2 _ _ _) hb⟩

set_option maxHeartbeats 1000000 in
theorem sameDone_any (d : DoneS) (a1 : Option Addr) (c1 : Nat) (w : World) (h0 : RdK w d.ao d.len d.cap d.l) (h1 : RdK w a1 d.len c1 d.l) :
    Calls Try.prog 26 #[(.agg #[.int .i64 d.who, .int .i64 d.place, .int .i64 d.op, .int .i64 d.fl, .int .i64 d.a, .int .i64 d.b, .int .i64 d.e, .slice d.ao d.len d.cap, .int .i64 d.n, .int .u64 d.v, .int .i64 d.fr, .int .i64 d.to]), .agg #[.int .i64 d.who, .int .i64 d.place, .int .i64 d.op, .int .i64 d.fl, .int .i64 d.a, .int .i64 d.b, .int .i64 d.e, .slice a1 d.len c1, .int .i64 d.n, .int .u64 d.v, .int .i64 d.fr, .int .i64 d.to]] w fun en w' => en = .returned (.bool true) ∧ Below w.heap.size w w' := by
  have H0 := Lib.hid h0
  have H1 := Lib.hid h1
  clear h0 h1
  go_enter Try.func26, Try.ntmps26
  go_wp2_with fail
  refine (sameRet_any d.e d.n d.v d.ao a1 d.len d.cap c1 d.l _ (H0.out.below (below2 _ _ _)) (H1.out.below (below2 _ _ _))).mono ?_
  rintro en w1 ⟨rfl, hb⟩
  go_wp2
  go_ret
  exact ⟨rfl, below_step (below2 _ _ _) hb⟩

theorem bare_eq {x y : DoneS} (h : x.bare = y.bare) (hl : y.l.length = y.len) (hx : x.l.length = x.len) : y = { x with ao := y.ao, cap := y.cap } := by
  obtain ⟨x1, x2, x3, x4, x5, x6, x7, x8, x9, x10, x11, x12, x13, x14, x15⟩ := x
  obtain ⟨y1, y2, y3, y4, y5, y6, y7, y8, y9, y10, y11, y12, y13, y14, y15⟩ := y
  simp only [DoneS.bare, DoneS.mk.injEq, true_and] at h hl hx ⊢
  obtain ⟨rfl, rfl, rfl, rfl, rfl, rfl, rfl, rfl, rfl, rfl, rfl, rfl⟩ := h
  simp_all
theorem sameDone_bare (x y : DoneS) (w : World) (hb : x.bare = y.bare) (h0 : RdK w x.ao x.len x.cap x.l) (h1 : RdK w y.ao y.len y.cap y.l) :
    Calls Try.prog 26 #[(.agg #[.int .i64 x.who, .int .i64 x.place, .int .i64 x.op, .int .i64 x.fl, .int .i64 x.a, .int .i64 x.b, .int .i64 x.e, .slice x.ao x.len x.cap, .int .i64 x.n, .int .u64 x.v, .int .i64 x.fr, .int .i64 x.to]), (.agg #[.int .i64 y.who, .int .i64 y.place, .int .i64 y.op, .int .i64 y.fl, .int .i64 y.a, .int .i64 y.b, .int .i64 y.e, .slice y.ao y.len y.cap, .int .i64 y.n, .int .u64 y.v, .int .i64 y.fr, .int .i64 y.to])] w fun en w' => en = .returned (.bool true) ∧ Below w.heap.size w w' := by
  have e := bare_eq hb h1.len h0.len
  have h2 : RdK w y.ao x.len y.cap x.l := by rw [e] at h1; exact h1
  rw [e]
  exact sameDone_any x y.ao y.cap w h0 h2

set_option maxRecDepth 20000 in
set_option maxHeartbeats 1000000 in
theorem sameD_any (a0 a1 : Option Addr) (n c0 c1 : Nat) (l0 l1 : List DoneS) (w : World) (h0 : RdD w a0 n c0 l0) (h1 : RdD w a1 n c1 l1) (hm : l0.map DoneS.bare = l1.map DoneS.bare) :
    Calls Try.prog 23 #[.slice a0 n c0, .slice a1 n c1, .func (.func 26) #[] #[]] w fun e w' => e = .returned (.bool true) ∧ Below w.heap.size w w' := by
  have s0 := h0.rd.small
  have hb : ((n : Int) != (n : Int)) = false := by simp
  have hbare : ∀ k, k < n → (nthD l0 k).bare = (nthD l1 k).bare := by
    intro k hk
    have h2 := congrArg (fun l => l[k]?) hm
    simp only [List.getElem?_map] at h2
    rw [nthD_some (show k < l0.length by rw [h0.len]; exact hk), nthD_some (show k < l1.length by rw [h1.len]; exact hk)] at h2
    simpa using h2
  have HB := Lib.hid hbare
  clear hm hbare
  go_enter Try.func23, Try.ntmps23
  go_wp2
  go_loopw [7] (fun i wr => ∃ k : Nat, k ≤ n ∧ i = .int .i64 k ∧ Below w.heap.size w wr) (fun i _ => n - (intOf i).toNat)
  case atStart => exact ⟨0, Nat.zero_le _, rfl, Below.refl _ _⟩
  case round =>
    obtain ⟨k, hk, rfl, hbr⟩ := hrel
    by_cases hl : k < n
    · have hk0 := (h0.nth hl).2
      have hk1 := (h1.nth hl).2
      have Q := Lib.hid fun w' (hs : Below wr.heap.size wr w') => sameDone_bare (nthD l0 k) (nthD l1 k) w' (HB.out k hl) (hk0.below (hbr.trans (hs.mono hbr.size))) (hk1.below (hbr.trans (hs.mono hbr.size)))
      obtain ⟨b0, o0, rfl, hlt0, hc0⟩ := h0.cells hl
      obtain ⟨b1, o1, rfl, hlt1, hc1⟩ := h1.cells hl
      obtain ⟨x0, x1, x2, x3, x4, x5, x6, x7, x8, x9, x10, x11⟩ := RdD.at12 (ao := none) (n := 0) (cap := 0) hc0 hbr
      obtain ⟨y0, y1, y2, y3, y4, y5, y6, y7, y8, y9, y10, y11⟩ := RdD.at12 (ao := none) (n := 0) (cap := 0) hc1 hbr
      clear hc0 hc1 hk0 hk1
      have l0' : b0 < wr.heap.size := Nat.lt_of_lt_of_le hlt0 hbr.size
      have l1' : b1 < wr.heap.size := Nat.lt_of_lt_of_le hlt1 hbr.size
      have i1 : (k : Int) < (n : Int) := by omega
      go_wp2_with fail
      go_region_held3 (fun w' => Below wr.heap.size wr w' ∧ (∀ b o, b < wr.heap.size → w'.cell? ⟨b, o, none⟩ = wr.cell? ⟨b, o, none⟩)) (first | exact hs_refl ((Below.refl _ _).drew) | assumption | exact hs_step (by assumption) (by assumption))
        (first | (go_at_call 26; (with_reducible refine (Q.out _ (And.left (by assumption))).mono ?_); rintro e w' ⟨rfl, hb'⟩))
      go_wp2
      go_roundw
      case rel => exact ⟨k + 1, by omega, by go_num, hbr.trans ((‹Below wr.heap.size wr _ ∧ _›).1.mono hbr.size)⟩
      case measure => simp [intOf]; omega
    · have i1 : (n : Int) ≤ (k : Int) := by omega
      go_wp2
      go_ret
      exact ⟨rfl, hbr⟩
end Go.Proofs.Ytonldjkmbapjeaa
