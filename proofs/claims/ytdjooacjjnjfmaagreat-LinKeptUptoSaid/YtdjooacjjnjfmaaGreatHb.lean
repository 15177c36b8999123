/- Several texts in one: HelpD HelpK. -/
import Derived.Test.YtdjooacjjnjfmaaGreatGr
import Derived.Test.YtdjooacjjnjfmaaGreatGs
import Derived.OwnWalk
-- weighbridgehelp at calls: packets, answers, calls and lists of them held against each other.
section
namespace Go.Proofs.YtdjooacjjnjfmaaGreat.H
set_option linter.unusedVariables false
set_option linter.unusedSimpArgs false
open Go.RowKit Go.Proofs.YtdjooacjjnjfmaaGreatMem Go.Proofs.YtdjooacjjnjfmaaGreatFlat

set_option maxHeartbeats 400000 in
theorem plainK1_any (p : PkS) (w : World) :
    Calls Tryz.prog 87 #[.agg #[.int .i64 p.flow, .int .i64 p.len, .int .i64 p.mark], .agg #[.int .i64 p.flow, .int .i64 p.len, .int .i64 p.mark]] w fun e w' => e = .returned (.bool true) ∧ Below w.heap.size w w' := by
  go_enter Tryz.func87, Tryz.ntmps87
  go_wp2
  go_ret
  exact ⟨rfl, below2 _ _ _⟩

set_option maxHeartbeats 1000000 in
theorem sameK_any (a0 a1 : Option Addr) (n c0 c1 : Nat) (l : List PkS) (w : World) (h0 : RdK w a0 n c0 l) (h1 : RdK w a1 n c1 l) :
    Calls Tryz.prog 86 #[.slice a0 n c0, .slice a1 n c1, .func (.func 87) #[] #[]] w fun e w' => e = .returned (.bool true) ∧ Below w.heap.size w w' := by
  have s0 := h0.rd.small
  have hb : ((n : Int) != (n : Int)) = false := by simp
  go_enter Tryz.func86, Tryz.ntmps86
  go_wp2
  go_loopw [7] (fun i wr => ∃ k : Nat, k ≤ n ∧ i = .int .i64 k ∧ Below w.heap.size w wr) (fun i _ => n - (intOf i).toNat)
  case atStart => exact ⟨0, Nat.zero_le _, rfl, Below.refl _ _⟩
  case round =>
    obtain ⟨k, hk, rfl, hbr⟩ := hrel
    by_cases hl : k < n
    · obtain ⟨b0, o0, rfl, hlt0, hc0⟩ := h0.cells hl
      obtain ⟨b1, o1, rfl, hlt1, hc1⟩ := h1.cells hl
      obtain ⟨x0, x1, x2⟩ := hc0 wr hbr
      obtain ⟨y0, y1, y2⟩ := hc1 wr hbr
      clear hc0 hc1
      have l0 : b0 < wr.heap.size := Nat.lt_of_lt_of_le hlt0 hbr.size
      have l1 : b1 < wr.heap.size := Nat.lt_of_lt_of_le hlt1 hbr.size
      have i1 : (k : Int) < (n : Int) := by omega
      go_wp2_with fail
      go_region_held3 (fun w' => Below wr.heap.size wr w' ∧ (∀ b o, b < wr.heap.size → w'.cell? ⟨b, o, none⟩ = wr.cell? ⟨b, o, none⟩)) (first | exact hs_refl ((Below.refl _ _).drew) | assumption | exact hs_step (by assumption) (by assumption))
        (first | (go_at_call 87; (with_reducible refine (plainK1_any (nthK l k) _).mono ?_); rintro e w' ⟨rfl, hb'⟩))
      go_wp2
      go_roundw
      case rel => exact ⟨k + 1, by omega, by go_num, hbr.trans ((‹Below wr.heap.size wr _ ∧ _›).1.mono hbr.size)⟩
      case measure => simp [intOf]; omega
    · have i1 : (n : Int) ≤ (k : Int) := by omega
      go_wp2
      go_ret
      exact ⟨rfl, hbr⟩

set_option maxHeartbeats 400000 in
theorem plainK_any (a0 a1 : Option Addr) (n c0 c1 : Nat) (l : List PkS) (w : World) (h0 : RdK w a0 n c0 l) (h1 : RdK w a1 n c1 l) :
    Calls Tryz.prog 52 #[.slice a0 n c0, .slice a1 n c1] w fun e w' => e = .returned (.bool true) ∧ Below w.heap.size w w' := by
  go_enter Tryz.func52, Tryz.ntmps52
  go_wp2_with fail
  refine (sameK_any a0 a1 n c0 c1 l _ h0 h1).mono ?_
  rintro e w1 ⟨rfl, hb⟩
  go_wp2
  go_ret
  exact ⟨rfl, hb⟩

set_option maxHeartbeats 1000000 in
theorem sameRet_any (e nn v : Int) (a0 a1 : Option Addr) (n c0 c1 : Nat) (l : List PkS) (w : World) (h0 : RdK w a0 n c0 l) (h1 : RdK w a1 n c1 l) :
    Calls Tryz.prog 41 #[.agg #[.int .i64 e, .slice a0 n c0, .int .i64 nn, .int .u64 v], .agg #[.int .i64 e, .slice a1 n c1, .int .i64 nn, .int .u64 v]] w fun en w' => en = .returned (.bool true) ∧ Below w.heap.size w w' := by
  have e1 : (e == e) = true := by simp
  have e2 : (nn == nn) = true := by simp
  have e3 : (v == v) = true := by simp
  have H0 := Lib.hid h0
  have H1 := Lib.hid h1
  clear h0 h1
  go_enter Tryz.func41, Tryz.ntmps41
  go_wp2_with fail
  refine (plainK_any a0 a1 n c0 c1 l _ (H0.out.below (below2 _ _ _)) (H1.out.below (below2 _ _ _))).mono ?_
  rintro en w1 ⟨rfl, hb⟩
  go_wp2
  go_ret
  exact ⟨rfl, below_step (below2 _ _ _) hb⟩

set_option maxHeartbeats 1000000 in
theorem sameDone_any (d : DoneS) (a1 : Option Addr) (c1 : Nat) (w : World) (h0 : RdK w d.ao d.len d.cap d.l) (h1 : RdK w a1 d.len c1 d.l) :
    Calls Tryz.prog 30 #[(.agg #[.int .i64 d.who, .int .i64 d.place, .int .i64 d.op, .int .i64 d.fl, .int .i64 d.a, .int .i64 d.b, .int .i64 d.e, .slice d.ao d.len d.cap, .int .i64 d.n, .int .u64 d.v, .int .i64 d.fr, .int .i64 d.to]), .agg #[.int .i64 d.who, .int .i64 d.place, .int .i64 d.op, .int .i64 d.fl, .int .i64 d.a, .int .i64 d.b, .int .i64 d.e, .slice a1 d.len c1, .int .i64 d.n, .int .u64 d.v, .int .i64 d.fr, .int .i64 d.to]] w fun en w' => en = .returned (.bool true) ∧ Below w.heap.size w w' := by
  have H0 := Lib.hid h0
  have H1 := Lib.hid h1
  clear h0 h1
  go_enter Tryz.func30, Tryz.ntmps30
  go_wp2_with fail
  refine (sameRet_any d.e d.n d.v d.ao a1 d.len d.cap c1 d.l _ (H0.out.below (below2 _ _ _)) (H1.out.below (below2 _ _ _))).mono ?_
  rintro en w1 ⟨rfl, hb⟩
  go_wp2
  go_ret
  exact ⟨rfl, below_step (below2 _ _ _) hb⟩

theorem bare_eq {x y : DoneS} (h : x.bare = y.bare) (hl : y.l.length = y.len) (hx : x.l.length = x.len) : y = { x with ao := y.ao, cap := y.cap } := by
  obtain ⟨x1, x2, x3, x4, x5, x6, x7, x8, x9, x10, x11, x12, x13, x14, x15⟩ := x
  obtain ⟨y1, y2, y3, y4, y5, y6, y7, y8, y9, y10, y11, y12, y13, y14, y15⟩ := y
  simp only [DoneS.bare, DoneS.mk.injEq, true_and] at h hl hx ⊢
  obtain ⟨rfl, rfl, rfl, rfl, rfl, rfl, rfl, rfl, rfl, rfl, rfl, rfl⟩ := h
  simp_all
theorem sameDone_bare (x y : DoneS) (w : World) (hb : x.bare = y.bare) (h0 : RdK w x.ao x.len x.cap x.l) (h1 : RdK w y.ao y.len y.cap y.l) :
    Calls Tryz.prog 30 #[(.agg #[.int .i64 x.who, .int .i64 x.place, .int .i64 x.op, .int .i64 x.fl, .int .i64 x.a, .int .i64 x.b, .int .i64 x.e, .slice x.ao x.len x.cap, .int .i64 x.n, .int .u64 x.v, .int .i64 x.fr, .int .i64 x.to]), (.agg #[.int .i64 y.who, .int .i64 y.place, .int .i64 y.op, .int .i64 y.fl, .int .i64 y.a, .int .i64 y.b, .int .i64 y.e, .slice y.ao y.len y.cap, .int .i64 y.n, .int .u64 y.v, .int .i64 y.fr, .int .i64 y.to])] w fun en w' => en = .returned (.bool true) ∧ Below w.heap.size w w' := by
  have e := bare_eq hb h1.len h0.len
  have h2 : RdK w y.ao x.len y.cap x.l := by rw [e] at h1; exact h1
  rw [e]
  exact sameDone_any x y.ao y.cap w h0 h2

set_option maxRecDepth 20000 in
set_option maxHeartbeats 1000000 in
theorem sameD_any (a0 a1 : Option Addr) (n c0 c1 : Nat) (l0 l1 : List DoneS) (w : World) (h0 : RdD w a0 n c0 l0) (h1 : RdD w a1 n c1 l1) (hm : l0.map DoneS.bare = l1.map DoneS.bare) :
    Calls Tryz.prog 29 #[.slice a0 n c0, .slice a1 n c1, .func (.func 30) #[] #[]] w fun e w' => e = .returned (.bool true) ∧ Below w.heap.size w w' := by
  have s0 := h0.rd.small
  have hb : ((n : Int) != (n : Int)) = false := by simp
  have hbare : ∀ k, k < n → (nthD l0 k).bare = (nthD l1 k).bare := by
    intro k hk
    have h2 := congrArg (fun l => l[k]?) hm
    simp only [List.getElem?_map] at h2
    rw [nthD_some (show k < l0.length by rw [h0.len]; exact hk), nthD_some (show k < l1.length by rw [h1.len]; exact hk)] at h2
    simpa using h2
  have HB := Lib.hid hbare
  clear hm hbare
  go_enter Tryz.func29, Tryz.ntmps29
  go_wp2
  go_loopw [7] (fun i wr => ∃ k : Nat, k ≤ n ∧ i = .int .i64 k ∧ Below w.heap.size w wr) (fun i _ => n - (intOf i).toNat)
  case atStart => exact ⟨0, Nat.zero_le _, rfl, Below.refl _ _⟩
  case round =>
    obtain ⟨k, hk, rfl, hbr⟩ := hrel
    by_cases hl : k < n
    · have hk0 := (h0.nth hl).2
      have hk1 := (h1.nth hl).2
      have Q := Lib.hid fun w' (hs : Below wr.heap.size wr w') => sameDone_bare (nthD l0 k) (nthD l1 k) w' (HB.out k hl) (hk0.below (hbr.trans (hs.mono hbr.size))) (hk1.below (hbr.trans (hs.mono hbr.size)))
      obtain ⟨b0, o0, rfl, hlt0, hc0⟩ := h0.cells hl
      obtain ⟨b1, o1, rfl, hlt1, hc1⟩ := h1.cells hl
      obtain ⟨x0, x1, x2, x3, x4, x5, x6, x7, x8, x9, x10, x11⟩ := RdD.at12 (ao := none) (n := 0) (cap := 0) hc0 hbr
      obtain ⟨y0, y1, y2, y3, y4, y5, y6, y7, y8, y9, y10, y11⟩ := RdD.at12 (ao := none) (n := 0) (cap := 0) hc1 hbr
      clear hc0 hc1 hk0 hk1
      have l0' : b0 < wr.heap.size := Nat.lt_of_lt_of_le hlt0 hbr.size
      have l1' : b1 < wr.heap.size := Nat.lt_of_lt_of_le hlt1 hbr.size
      have i1 : (k : Int) < (n : Int) := by omega
      go_wp2_with fail
      go_region_held3 (fun w' => Below wr.heap.size wr w' ∧ (∀ b o, b < wr.heap.size → w'.cell? ⟨b, o, none⟩ = wr.cell? ⟨b, o, none⟩)) (first | exact hs_refl ((Below.refl _ _).drew) | assumption | exact hs_step (by assumption) (by assumption))
        (first | (go_at_call 30; (with_reducible refine (Q.out _ (And.left (by assumption))).mono ?_); rintro e w' ⟨rfl, hb'⟩))
      go_wp2
      go_roundw
      case rel => exact ⟨k + 1, by omega, by go_num, hbr.trans ((‹Below wr.heap.size wr _ ∧ _›).1.mono hbr.size)⟩
      case measure => simp [intOf]; omega
    · have i1 : (n : Int) ≤ (k : Int) := by omega
      go_wp2
      go_ret
      exact ⟨rfl, hbr⟩
end Go.Proofs.YtdjooacjjnjfmaaGreat.H
end

-- weighbridgehelp at packets and calls, next: a copy with spare room in which there is something; what is written over; whether it is as it was.
section
namespace Go.Proofs.YtdjooacjjnjfmaaGreat.H
set_option linter.unusedVariables false
set_option linter.unusedSimpArgs false
set_option maxRecDepth 20000
open Go.RowKit Go.Proofs.YtdjooacjjnjfmaaGreatMem Go.Proofs.YtdjooacjjnjfmaaGreatFlat

theorem pkC_append (a b : List PkS) : pkC (a ++ b) = pkC a ++ pkC b := by simp [pkC]
theorem pkC_snoc (l : List PkS) (p : PkS) : pkC (l ++ [p]) = pkC l ++ p.cells := by simp [pkC]
theorem box_cells {w : World} {B : Nat} {c0 c1 c2 : Value} {t : TypeId} (h : w.heap[B]? = some (.cells #[c0, c1, c2] t (0, 0))) : w.cell? ⟨B, 0, none⟩ = some c0 ∧ w.cell? ⟨B, 1, none⟩ = some c1 ∧ w.cell? ⟨B, 2, none⟩ = some c2 := by
  simp only [World.cell?, h]
  exact ⟨rfl, rfl, rfl⟩
theorem owns_rdK {w : World} {base : Nat} {ao : Option Addr} {n cap : Nat} {l : List PkS} (h : w.ownsRow base 59 3 (.slice ao n cap) n (pkC l)) (hf : ∀ p ∈ l, p.Ok) : RdK w ao n cap l :=
  ⟨owns_rdS h (pkC_one _), by have := h.1; rw [pkC_length] at this; omega, hf⟩

/-- A copy, in a block of its own, three more behind it. -/
def OwnedK (w : World) (g n : Nat) (l : List PkS) (f : PkS) : Prop := l.length = n ∧ w.ownsRow 0 59 3 (.slice (some ⟨g, 0, none⟩) (n + 3) (n + 3)) (n + 3) (pkC (l ++ [f, f, f]))
def OwnPostK (w : World) (n : Nat) (l : List PkS) (f : PkS) (en : Ending) (w' : World) : Prop := ∃ g, en = .returned (.slice (some ⟨g, 0, none⟩) n (n + 3)) ∧ w.heap.size ≤ g ∧ g < w'.heap.size ∧ OwnedK w' g n l f ∧ Below w.heap.size w w'

set_option maxHeartbeats 1000000 in
theorem ownK3_any (ao : Option Addr) (n cap : Nat) (l : List PkS) (f : PkS) (w : World) (h : RdK w ao n cap l) (hn : n ≤ 1048576) :
    Calls Tryz.prog 25 #[.slice ao n cap, .agg #[.int .i64 f.flow, .int .i64 f.len, .int .i64 f.mark]] w (OwnPostK w n l f) := by
  have HN := Lib.hid h.rd.nil
  have HL : Hid ((pkC l).length = n * 3) := h.rd.len
  have HC := Lib.hid h.rd.at_
  have H1 := Lib.hid (pkC_one l)
  have HZ := Lib.hid h.len
  obtain ⟨bytes, hi, hb⟩ := EPK.info
  obtain ⟨i0, hi, hz0, hz1, hz2⟩ := info_parts hi
  have hb8 : i0.bytes * (n + 3) ≤ 281474976710656 := by rw [hz2]; exact Nat.le_trans (Nat.mul_le_mul hb (show n + 3 ≤ 1048579 by omega)) (by omega)
  have HB8 := Lib.hid hb8
  have HI := Lib.hid hi
  have HZ0 := Lib.hid hz0
  have HZ1 := Lib.hid hz1
  have hm : n + 3 ≤ maxLen := by unfold maxLen; omega
  have hC : ((n : Int) + 3) = ((n + 3 : Nat) : Int) := by omega
  have HCC := Lib.hid hC
  clear hi hz0 hz1 hz2 hb8 hC h
  go_enter Tryz.func25, Tryz.ntmps25
  have hroom : 0 + n ≤ n + 3 := by omega
  go_upto_region 1 with fail
  obtain ⟨W0, hW0⟩ : ∃ W0, W0 = w.alloc (.cells #[.int .i64 f.flow, .int .i64 f.len, .int .i64 f.mark] 59) := ⟨_, rfl⟩
  have hbW : Below w.heap.size w W0 := by rw [hW0]; exact below1 _ _
  have hbx : ∀ w' : World, Below W0.heap.size W0 w' → w'.heap[w.heap.size]? = some (.cells #[.int .i64 f.flow, .int .i64 f.len, .int .i64 f.mark] 59 (0, 0)) := fun w' hb => (hb.block _ (by rw [hW0]; simp)).trans (by rw [hW0]; exact heap_alloc_new _ _)
  have HBX := Lib.hid hbx
  have hCW : ∀ j u, (pkC l)[j]? = some u → ∃ b off, ao = some ⟨b, off, none⟩ ∧ b < W0.heap.size ∧ W0.cell? ⟨b, off + j, none⟩ = some u := by
    intro j u hu
    obtain ⟨b, off, e, hlt, hc⟩ := HC.out j u hu
    exact ⟨b, off, e, Nat.lt_of_lt_of_le hlt hbW.size, (hbW.cell (p := ⟨b, off + j, none⟩) hlt).trans hc⟩
  have HCW := Lib.hid hCW
  rw [← hW0]
  clear hW0 hbx hCW HC
  generalize hBx : w.heap.size = B at *
  have hbase0 : W0.heap.size ≤ W0.heap.size := Nat.le_refl _
  go_wp2_with (first
    | (refine wpList_make_own W0 rfl _ _ 36 rfl W0.heap.size 59 i0 (.agg #[.int .i64 0, .int .i64 0, .int .i64 0]) 3 Tryz.underlying36 HI.out HZ0.out HZ1.out .i64 .i64 ((n : Int) + 3) (n + 3) rfl rfl HCC.out HB8.out hm hbase0 ?_; intro w1 hown1 hg1; have hb1 : Below W0.heap.size W0 w1 := (Below.refl _ _).grown hg1 hbase0 (fun k hk => by cases hk); have hlt1 : W0.heap.size < w1.heap.size := (hown1.lt _ rfl).2; have HC1 := Lib.hid (own_src HCW.out hb1))
    | (refine wpList_append_fits_any w1 rfl _ _ 36 rfl W0.heap.size 59 i0 3 Tryz.underlying36 HI.out HZ1.out W0.heap.size 0 (n + 3) [] rfl hown1 ao n cap (pkC l) rfl HL.out HN.out HC1.out H1.out hroom ?_; intro w2 hown2 hg2; rw [Nat.zero_add] at hown2; have hb2 : Below W0.heap.size W0 w2 := hb1.grown hg2 hb1.size (fun k hk => by cases hk; exact Nat.le_refl _); have hlt2 : W0.heap.size < w2.heap.size := (hown2.lt _ rfl).2; simp only [List.nil_append] at hown2; simp only [Nat.zero_add]))
  have HH := Lib.hid hown2
  clear hown1 hg1 hb1 hlt1 HC1 hg2
  generalize hG : W0.heap.size = G at *
  go_loopw [7] (fun i wr => ∃ k : Nat, k ≤ 3 ∧ i = .int .i64 (n + k : Nat) ∧ wr.ownsRow G 59 3 (.slice (some ⟨G, 0, none⟩) (n + k) (n + 3)) (n + k) (pkC (l ++ List.replicate k f)) ∧ Below G W0 wr) (fun i _ => n + 3 - (intOf i).toNat)
  case atStart => exact ⟨0, by omega, rfl, by simpa using hown2, hb2⟩
  case round =>
    obtain ⟨k, hk, rfl, hownr, hbr⟩ := hrel
    clear hown2 HH
    by_cases hl : k < 3
    · have hlt5 : (n + k) * 3 + 2 < (n + 3) * 3 := by omega
      obtain ⟨u0, hu0⟩ := owns_spare hownr (j := (n + k) * 3) (by omega)
      obtain ⟨u1, hu1⟩ := owns_spare hownr (j := (n + k) * 3 + 1) (by omega)
      obtain ⟨u2, hu2⟩ := owns_spare hownr (j := (n + k) * 3 + 2) (by omega)
      have z0 := hownr.frozenAt ((n + k) * 3)
      have z1 := hownr.frozenAt ((n + k) * 3 + 1)
      have z2 := hownr.frozenAt ((n + k) * 3 + 2)
      obtain ⟨x0, x1, x2⟩ := box_cells (HBX.out wr hbr)
      have hltr : G < wr.heap.size := (hownr.lt _ rfl).2
      have hnk : (0 : Int) ≤ (n : Int) + k := by omega
      have hp := owns_pushR hownr (by omega) (us := f.cells) rfl
      have HP := Lib.hid hp
      clear hp
      go_wp2
      go_roundw
      case rel =>
        refine ⟨k + 1, by omega, by go_num, ?_, ((hbr.setCell (p := ⟨G, (n + k) * 3, none⟩) (Nat.le_refl _) _).setCell (p := ⟨G, (n + k) * 3 + 1, none⟩) (Nat.le_refl _) _).setCell (p := ⟨G, (n + k) * 3 + 2, none⟩) (Nat.le_refl _) _⟩
        rw [List.replicate_succ', ← List.append_assoc, pkC_snoc]
        exact HP.out
      case measure => simp [intOf]; omega
    · have hk3 : k = 3 := by omega
      subst hk3
      go_wp2
      go_ret
      exact ⟨G, rfl, by rw [← hG]; rw [← hBx] at hbW; exact hbW.size, (hownr.lt _ rfl).2, ⟨HZ.out, owns_base (by simpa [List.replicate] using hownr) (Nat.zero_le _)⟩, by rw [← hBx] at hbW; rw [← hG] at hbr; exact below_step hbW hbr⟩

theorem OwnedK.below {w w' : World} {g n : Nat} {l : List PkS} {f : PkS} (h : OwnedK w g n l f) (hb : Below w.heap.size w w') : OwnedK w' g n l f := ⟨h.1, owns_below (B := 0) h.2 hb⟩
theorem OwnedK.grown {w w' : World} {g n : Nat} {l : List PkS} {f : PkS} {r : Option Nat} (h : OwnedK w g n l f) (hg : w.grownBy w' r) (hne : r ≠ some g) : OwnedK w' g n l f :=
  ⟨h.1, owns_grown h.2 hg fun k hk => by cases hk; exact hne⟩
theorem row_ofS {w : World} {g m cap n s : Nat} {xs : List Value} {base : Nat} {e : TypeId} (h : w.ownsRow base e s (.slice (some ⟨g, 0, none⟩) m cap) m xs) (hn : n ≤ m) (base' : Nat) (hb : base' ≤ g) : w.ownsRow base' e s (.slice (some ⟨g, 0, none⟩) n cap) n (xs.take (n * s)) := by
  have hl := h.1
  have hle : n * s ≤ m * s := Nat.mul_le_mul_right s hn
  rcases h.2 with ⟨hv, _⟩ | ⟨g', cap', cur, hv, _, hh, hnc, hm, hs, ht⟩
  · simp at hv
  · simp only [Value.slice.injEq, Option.some.injEq, Addr.mk.injEq, and_true, true_and] at hv
    obtain ⟨rfl, rfl⟩ := hv
    refine ⟨by rw [List.length_take, hl]; omega, .inr ⟨g, cap, cur, rfl, hb, hh, by omega, hm, hs, ?_⟩⟩
    rw [← ht, List.take_take, Nat.min_eq_left hle]
theorem OwnedK.rd {w : World} {g n : Nat} {l : List PkS} {f : PkS} (h : OwnedK w g n l f) (hf : ∀ e ∈ l, e.Ok) : RdK w (some ⟨g, 0, none⟩) n (n + 3) l := by
  have h1 := row_ofS h.2 (n := n) (by omega) g (Nat.le_refl _)
  have e : (pkC (l ++ [f, f, f])).take (n * 3) = pkC l := by
    rw [pkC_append]; exact List.take_left' (by rw [pkC_length, h.1])
  rw [e] at h1
  exact owns_rdK h1 hf

set_option maxHeartbeats 1000000 in
theorem keptK_any (g n : Nat) (ao : Option Addr) (cap : Nat) (l : List PkS) (f : PkS) (w : World) (ho : OwnedK w g n l f) (h : RdK w ao n cap l) (hn : n ≤ 1048576) :
    Calls Tryz.prog 27 #[.slice (some ⟨g, 0, none⟩) n (n + 3), .slice ao n cap, .agg #[.int .i64 f.flow, .int .i64 f.len, .int .i64 f.mark]] w fun e w' => e = .returned (.bool true) ∧ Below w.heap.size w w' := by
  have rd := ho.rd h.ok
  have hcapI : ((n : Int) + 3) ≤ ((n + 3 : Nat) : Int) := by omega
  go_enter Tryz.func27, Tryz.ntmps27
  go_upto_region 1 with fail
  obtain ⟨W0, hW0⟩ : ∃ W0, W0 = w.alloc (.cells #[.int .i64 f.flow, .int .i64 f.len, .int .i64 f.mark] 59) := ⟨_, rfl⟩
  have hbW : Below w.heap.size w W0 := by rw [hW0]; exact below1 _ _
  have hbx : ∀ w' : World, Below W0.heap.size W0 w' → w'.heap[w.heap.size]? = some (.cells #[.int .i64 f.flow, .int .i64 f.len, .int .i64 f.mark] 59 (0, 0)) := fun w' hb => (hb.block _ (by rw [hW0]; simp)).trans (by rw [hW0]; exact heap_alloc_new _ _)
  have HBX := Lib.hid hbx
  rw [← hW0]
  clear hW0 hbx
  have rd0 := rd.below hbW
  have h0 := h.below hbW
  have ho0 := ho.below hbW
  clear rd h ho
  go_wp2_with fail
  refine (plainK_any _ _ _ _ _ l _ rd0 h0).mono ?_
  rintro e w1 ⟨rfl, hb⟩
  have hown := (ho0.below hb).2
  have hlen := (ho0.below hb).1
  have HL := Lib.hid hlen
  have B1 : Below w.heap.size w w1 := below_step hbW hb
  have hbx1 := HBX.out w1 hb
  clear rd0 h0 ho0 hlen hb hbW HBX
  generalize hBB : w.heap.size = B at *
  go_wp2_with fail
  go_loopw [8] (fun i wr => ∃ k : Nat, k ≤ 3 ∧ i = .int .i64 (n + k : Nat) ∧ Below w1.heap.size w1 wr) (fun i _ => n + 3 - (intOf i).toNat)
  case atStart => exact ⟨0, by omega, rfl, Below.refl _ _⟩
  case round =>
    obtain ⟨k, hk, rfl, hbr2⟩ := hrel
    by_cases hl : k < 3
    · have hownr := owns_below (B := 0) hown hbr2
      have hxr : wr.heap[B]? = _ := (hbr2.block B (Array.getElem?_eq_some_iff.1 hbx1).1).trans hbx1
      obtain ⟨x0, x1, x2⟩ := box_cells hxr
      have hcell : ∀ i, i < 3 → wr.cell? ⟨g, (n + k) * 3 + i, none⟩ = f.cells[i]? := by
        intro i hi
        have hat : (pkC (l ++ [f, f, f]))[(n + k) * 3 + i]? = f.cells[i]? := by
          have hk' : (l ++ [f, f, f])[n + k]? = some f := by
            rw [List.getElem?_append_right (by rw [HL.out]; omega), HL.out]
            have : n + k - n = k := by omega
            rw [this]
            rcases (show k = 0 ∨ k = 1 ∨ k = 2 by omega) with rfl | rfl | rfl <;> rfl
          have hsome : ∃ u, f.cells[i]? = some u := ⟨f.cells[i]'(by rw [pkS_cells]; exact hi), by simp [pkS_cells, hi]⟩
          obtain ⟨u, hu⟩ := hsome
          rw [hu]
          exact recs_at pkS_cells _ _ _ hk' i u hu
        rw [← hat]
        have hlt : (n + k) * 3 + i < (pkC (l ++ [f, f, f])).length := by rw [pkC_length]; simp [HL.out]; omega
        obtain ⟨g', e', _, _, hc⟩ := owns_at hownr (List.getElem?_eq_getElem hlt)
        cases e'
        rw [Nat.zero_add] at hc
        rw [hc, List.getElem?_eq_getElem hlt]
      have y0 := hcell 0 (by omega)
      have y1 := hcell 1 (by omega)
      have y2 := hcell 2 (by omega)
      simp only [PkS.cells, List.getElem?_cons_succ, List.getElem?_cons_zero, Nat.add_zero] at y0 y1 y2
      clear hcell
      have hnk : (0 : Int) ≤ (n : Int) + k := by omega
      go_wp2_with fail
      go_region
      go_wp2
      go_roundw
      case rel => exact ⟨k + 1, by omega, by go_num, hbr2.drew⟩
      case measure => simp [intOf]; omega
    · have hk3 : k = 3 := by omega
      subst hk3
      go_wp2
      go_ret
      exact ⟨rfl, by rw [hBB]; exact B1.trans (hbr2.mono (by have := B1.size; omega))⟩

/-! ### What is written over -/
end Go.Proofs.YtdjooacjjnjfmaaGreat.H
end
