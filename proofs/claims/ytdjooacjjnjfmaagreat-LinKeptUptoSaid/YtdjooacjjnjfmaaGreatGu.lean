/- Several texts in one: RetG RetG2 KeyF KeyQ KeyM KeyB. -/
import Derived.Test.YtdjooacjjnjfmaaGreatGo
import Derived.Test.YtdjooacjjnjfmaaGreatGh
import Derived.Test.YtdjooacjjnjfmaaGreatGe
import Derived.BigQuiet
import Derived.Deep.CutRange
import Derived.Test.YtdjooacjjnjfmaaGreatGl
import Derived.Test.YtdjooacjjnjfmaaGreatGb
import Derived.Test.YtdjooacjjnjfmaaGreatGt
import Derived.Test.YtdjooacjjnjfmaaGreatGa
import Derived.Test.YtdjooacjjnjfmaaGreatGi
-- Packets and answers held against each other, by the program and by the reference.
section
namespace Go.Proofs.YtdjooacjjnjfmaaGreat
set_option linter.unusedVariables false
set_option linter.unusedSimpArgs false
set_option maxRecDepth 20000
open Go.RowKit Go.Proofs.YtdjooacjjnjfmaaGreatMem

theorem Pk.ne3 {p q : Pk} (h : p ≠ q) : p.flow ≠ q.flow ∨ (p.flow = q.flow ∧ p.len ≠ q.len) ∨ (p.flow = q.flow ∧ p.len = q.len ∧ p.mark ≠ q.mark) := by
  obtain ⟨a, b, c⟩ := p
  obtain ⟨a', b', c'⟩ := q
  simp only [ne_eq, Pk.mk.injEq] at *
  by_cases h1 : a = a' <;> by_cases h2 : b = b' <;> by_cases h3 : c = c' <;> simp_all
set_option maxHeartbeats 400000 in
theorem plainPG1_any (p q : Pk) (w : World) :
    Calls Tryz.prog 87 #[.agg #[.int .i64 p.flow, .int .i64 p.len, .int .i64 p.mark], .agg #[.int .i64 q.flow, .int .i64 q.len, .int .i64 q.mark]] w fun e w' => e = .returned (.bool (decide (p = q))) ∧ Below w.heap.size w w' := by
  by_cases h : p = q
  · subst h
    have E : Hid (decide (p = p) = true) := by unfold Hid; simp
    go_enter Tryz.func87, Tryz.ntmps87
    go_wp2
    go_ret
    exact ⟨by simp [Act.eval], ((Below.refl _ _).alloc (Nat.le_refl _) _).alloc (by simp) _⟩
  · have E : Hid (decide (p = q) = false) := by unfold Hid; simp [h]
    rcases Pk.ne3 h with h1 | ⟨h1, h2⟩ | ⟨h1, h2, h3⟩
    · have e1 : (p.flow == q.flow) = false := by simpa using h1
      clear h h1
      go_enter Tryz.func87, Tryz.ntmps87
      go_wp2
      go_ret
      exact ⟨by rw [E.out]; first | rfl | simp [Act.eval, e1], ((Below.refl _ _).alloc (Nat.le_refl _) _).alloc (by simp) _⟩
    · have e1 : (p.flow == q.flow) = true := by simpa using h1
      have e2 : (p.len == q.len) = false := by simpa using h2
      clear h h1 h2
      go_enter Tryz.func87, Tryz.ntmps87
      go_wp2
      go_ret
      exact ⟨by rw [E.out]; first | rfl | simp [Act.eval, e1, e2], ((Below.refl _ _).alloc (Nat.le_refl _) _).alloc (by simp) _⟩
    · have e1 : (p.flow == q.flow) = true := by simpa using h1
      have e2 : (p.len == q.len) = true := by simpa using h2
      have e3 : (p.mark == q.mark) = false := by simpa using h3
      clear h h1 h2 h3
      go_enter Tryz.func87, Tryz.ntmps87
      go_wp2
      go_ret
      exact ⟨by rw [E.out]; first | rfl | simp [Act.eval, e1, e2, e3], ((Below.refl _ _).alloc (Nat.le_refl _) _).alloc (by simp) _⟩
theorem eqPk_of {x y : List Pk} (hl : x.length = y.length) (h : ∀ j, j < x.length → nthP x j = nthP y j) : x = y := by
  apply List.ext_getElem hl
  intro i h1 h2
  have := h i h1
  rw [nthP_eq h1, nthP_eq h2] at this
  exact this
set_option maxHeartbeats 1000000 in
theorem samePG_any (a0 a1 : Option Addr) (n0 c0 n1 c1 : Nat) (x y : List Pk) (w : World) (h0 : RdS w a0 n0 c0 3 (pks x)) (h1 : RdS w a1 n1 c1 3 (pks y)) (l0 : x.length = n0) (l1 : y.length = n1) :
    Calls Tryz.prog 86 #[.slice a0 n0 c0, .slice a1 n1 c1, .func (.func 87) #[] #[]] w fun e w' => e = .returned (.bool (decide (x = y))) ∧ Below w.heap.size w w' := by
  have s0 := h0.small
  have L0 := Lib.hid l0
  have L1 := Lib.hid l1
  by_cases hn : n0 = n1
  · have N := Lib.hid hn
    have hb : ((n0 : Int) != (n1 : Int)) = false := by simp [hn]
    have hln : n0 ≤ n1 := by omega
    clear hn l0 l1
    go_enter Tryz.func86, Tryz.ntmps86
    go_wp2
    go_loopw [7] (fun i wr => ∃ k : Nat, k ≤ n0 ∧ i = .int .i64 k ∧ (∀ j : Nat, j < k → nthP x j = nthP y j) ∧ Below w.heap.size w wr) (fun i _ => n0 - (intOf i).toNat)
    case atStart => exact ⟨0, Nat.zero_le _, rfl, fun j hj => absurd hj (Nat.not_lt_zero _), Below.refl _ _⟩
    case round =>
      obtain ⟨k, hk, rfl, heq, hbr⟩ := hrel
      have HQ := Lib.hid heq
      clear heq
      by_cases hl : k < n0
      · obtain ⟨b0, o0, rfl, hlt0, hc0⟩ := rds_pk h0 L0.out hl
        obtain ⟨b1, o1, rfl, hlt1, hc1⟩ := rds_pk h1 L1.out (show k < n1 by omega)
        have i1 : (k : Int) < (n0 : Int) := by omega
        have i2 : (k : Int) < (n1 : Int) := by omega
        have HC0 := Lib.hid hc0
        have HC1 := Lib.hid hc1
        clear hc0 hc1
        have Td := hbr.drew
        cases hv : decide (nthP x k = nthP y k) with
        | true =>
          have V := Lib.hid hv
          clear hv
          go_wp2_with fail
          go_region_held3 (fun w' => (w'.cell? ⟨b0, o0 + k * 3, none⟩ = some (.int .i64 (nthP x k).flow) ∧ w'.cell? ⟨b0, o0 + k * 3 + 1, none⟩ = some (.int .i64 (nthP x k).len) ∧ w'.cell? ⟨b0, o0 + k * 3 + 2, none⟩ = some (.int .i64 (nthP x k).mark)) ∧ (w'.cell? ⟨b1, o1 + k * 3, none⟩ = some (.int .i64 (nthP y k).flow) ∧ w'.cell? ⟨b1, o1 + k * 3 + 1, none⟩ = some (.int .i64 (nthP y k).len) ∧ w'.cell? ⟨b1, o1 + k * 3 + 2, none⟩ = some (.int .i64 (nthP y k).mark)))
            (exact ⟨HC0.out _ Td, HC1.out _ Td⟩)
            (first | (go_at_call 87; refine (plainPG1_any (nthP x k) (nthP y k) _).mono ?_; rw [V.out]; rintro e w3 ⟨rfl, hb3⟩; replace Td := Td.trans (hb3.mono Td.size)))
          go_wp2
          go_roundw
          case rel => exact ⟨k + 1, by omega, by go_num, fun j hj => by
            by_cases hjk : j = k
            · subst hjk; exact of_decide_eq_true V.out
            · exact HQ.out j (by omega), Td⟩
          case measure => simp [intOf]; omega
        | false =>
          have V := Lib.hid hv
          have E : Hid (decide (x = y) = false) := by
            unfold Hid
            simp only [decide_eq_false_iff_not] at hv ⊢
            intro he
            rw [he] at hv; exact hv rfl
          clear hv
          go_wp2_with fail
          go_region_held3 (fun w' => (w'.cell? ⟨b0, o0 + k * 3, none⟩ = some (.int .i64 (nthP x k).flow) ∧ w'.cell? ⟨b0, o0 + k * 3 + 1, none⟩ = some (.int .i64 (nthP x k).len) ∧ w'.cell? ⟨b0, o0 + k * 3 + 2, none⟩ = some (.int .i64 (nthP x k).mark)) ∧ (w'.cell? ⟨b1, o1 + k * 3, none⟩ = some (.int .i64 (nthP y k).flow) ∧ w'.cell? ⟨b1, o1 + k * 3 + 1, none⟩ = some (.int .i64 (nthP y k).len) ∧ w'.cell? ⟨b1, o1 + k * 3 + 2, none⟩ = some (.int .i64 (nthP y k).mark)))
            (exact ⟨HC0.out _ Td, HC1.out _ Td⟩)
            (first | (go_at_call 87; refine (plainPG1_any (nthP x k) (nthP y k) _).mono ?_; rw [V.out]; rintro e w3 ⟨rfl, hb3⟩; replace Td := Td.trans (hb3.mono Td.size)))
          go_wp2
          go_ret
          exact ⟨by rw [E.out]; rfl, Td⟩
      · have E : Hid (decide (x = y) = true) := by
          unfold Hid
          exact decide_eq_true (eqPk_of (by rw [L0.out, L1.out, N.out]) fun j hj => HQ.out j (by rw [L0.out] at hj; omega))
        have i1 : (n0 : Int) ≤ (k : Int) := by omega
        go_wp2
        go_ret
        exact ⟨by rw [E.out]; rfl, hbr⟩
  · have hb : ((n0 : Int) != (n1 : Int)) = true := by simp; omega
    have E : Hid (decide (x = y) = false) := by
      unfold Hid
      simp only [decide_eq_false_iff_not]
      intro he
      rw [he, l1] at l0
      exact hn l0.symm
    clear hn l0 l1
    go_enter Tryz.func86, Tryz.ntmps86
    go_wp2
    go_ret
    exact ⟨by rw [E.out]; rfl, Below.refl _ _⟩
set_option maxHeartbeats 400000 in
theorem plainPG_any (a0 a1 : Option Addr) (n0 c0 n1 c1 : Nat) (x y : List Pk) (w : World) (h0 : RdS w a0 n0 c0 3 (pks x)) (h1 : RdS w a1 n1 c1 3 (pks y)) (l0 : x.length = n0) (l1 : y.length = n1) :
    Calls Tryz.prog 52 #[.slice a0 n0 c0, .slice a1 n1 c1] w fun e w' => e = .returned (.bool (decide (x = y))) ∧ Below w.heap.size w w' := by
  have hs := samePG_any a0 a1 n0 c0 n1 c1 x y
  go_enter Tryz.func52, Tryz.ntmps52
  go_wp2_with fail
  refine (hs _ h0 h1 l0 l1).mono ?_
  rintro e w1 ⟨rfl, hb⟩
  go_wp2
  go_ret
  exact ⟨rfl, hb⟩
set_option maxHeartbeats 1000000 in
theorem slEqual_any (a0 a1 : Option Addr) (n0 c0 n1 c1 : Nat) (x y : List Pk) (w : World) (h0 : RdS w a0 n0 c0 3 (pks x)) (h1 : RdS w a1 n1 c1 3 (pks y)) (l0 : x.length = n0) (l1 : y.length = n1) :
    Calls Tryz.prog 63 #[.slice a0 n0 c0, .slice a1 n1 c1] w fun e w' => e = .returned (.bool (decide (x = y))) ∧ Below w.heap.size w w' := by
  have s0 := h0.small
  have L0 := Lib.hid l0
  have L1 := Lib.hid l1
  by_cases hn : n0 = n1
  · have N := Lib.hid hn
    have hb : ((n0 : Int) != (n1 : Int)) = false := by simp [hn]
    have hln : n0 ≤ n1 := by omega
    clear hn l0 l1
    go_enter Tryz.func63, Tryz.ntmps63
    go_wp2
    go_loopw [5, 13] (fun _ i wr => ∃ k : Nat, k ≤ n0 ∧ i = .int .i64 k ∧ (∀ j : Nat, j < k → nthP x j = nthP y j) ∧ Below w.heap.size w wr) (fun _ i _ => n0 - (intOf i).toNat)
    case atStart => exact ⟨0, Nat.zero_le _, rfl, fun j hj => absurd hj (Nat.not_lt_zero _), Below.refl _ _⟩
    case round =>
      obtain ⟨k, hk, rfl, heq, hbr⟩ := hrel
      have HQ := Lib.hid heq
      clear heq
      by_cases hl : k < n0
      · obtain ⟨b0, o0, rfl, hlt0, hc0⟩ := rds_pk h0 L0.out hl
        obtain ⟨b1, o1, rfl, hlt1, hc1⟩ := rds_pk h1 L1.out (show k < n1 by omega)
        have i1 : (k : Int) < (n0 : Int) := by omega
        have i2 : (k : Int) < (n1 : Int) := by omega
        obtain ⟨x0, x1, x2⟩ := hc0 _ hbr
        obtain ⟨y0, y1, y2⟩ := hc1 _ hbr
        clear hc0 hc1
        by_cases hv : nthP x k = nthP y k
        · have V := Lib.hid hv
          rw [← hv] at y0 y1 y2
          clear hv
          go_wp2_with fail
          go_quiet (fail)
          go_wp2
          go_roundw
          case rel => exact ⟨k + 1, by omega, by go_num, fun j hj => by
            by_cases hjk : j = k
            · subst hjk; exact V.out
            · exact HQ.out j (by omega), hbr.trans ((below_drewN _ _).mono hbr.size)⟩
          case measure => simp [intOf]; omega
        · have E : Hid (decide (x = y) = false) := by
            unfold Hid
            simp only [decide_eq_false_iff_not]
            intro he
            rw [he] at hv; exact hv rfl
          generalize nthP x k = p at *
          generalize nthP y k = q at *
          rcases Pk.ne3 hv with g1 | ⟨g1, g2⟩ | ⟨g1, g2, g3⟩
          · have e1 : (p.flow == q.flow) = false := by simpa using g1
            clear hv g1
            go_wp2_with fail
            go_quiet (fail)
            go_wp2
            go_ret
            exact ⟨by rw [E.out]; rfl, hbr.trans ((below_drewN _ _).mono hbr.size)⟩
          · have e1 : (p.flow == q.flow) = true := by simpa using g1
            have e2 : (p.len == q.len) = false := by simpa using g2
            clear hv g1 g2
            go_wp2_with fail
            go_quiet (fail)
            go_wp2
            go_ret
            exact ⟨by rw [E.out]; rfl, hbr.trans ((below_drewN _ _).mono hbr.size)⟩
          · have e1 : (p.flow == q.flow) = true := by simpa using g1
            have e2 : (p.len == q.len) = true := by simpa using g2
            have e3 : (p.mark == q.mark) = false := by simpa using g3
            clear hv g1 g2 g3
            go_wp2_with fail
            go_quiet (fail)
            go_wp2
            go_ret
            exact ⟨by rw [E.out]; rfl, hbr.trans ((below_drewN _ _).mono hbr.size)⟩
      · have E : Hid (decide (x = y) = true) := by
          unfold Hid
          exact decide_eq_true (eqPk_of (by rw [L0.out, L1.out, N.out]) fun j hj => HQ.out j (by rw [L0.out] at hj; omega))
        have i1 : (n0 : Int) ≤ (k : Int) := by omega
        go_wp2
        go_ret
        exact ⟨by rw [E.out]; rfl, hbr⟩
  · have hb : ((n0 : Int) != (n1 : Int)) = true := by simp; omega
    have E : Hid (decide (x = y) = false) := by
      unfold Hid
      simp only [decide_eq_false_iff_not]
      intro he
      rw [he, l1] at l0
      exact hn l0.symm
    clear hn l0 l1
    go_enter Tryz.func63, Tryz.ntmps63
    go_wp2
    go_ret
    exact ⟨by rw [E.out]; rfl, Below.refl _ _⟩
end Go.Proofs.YtdjooacjjnjfmaaGreat
end

-- Answers held against each other, by the program and by the reference.
section
namespace Go.Proofs.YtdjooacjjnjfmaaGreat
set_option linter.unusedVariables false
set_option linter.unusedSimpArgs false
set_option maxRecDepth 20000
open Go.RowKit Go.Proofs.YtdjooacjjnjfmaaGreatMem

def retEq (e0 m0 v0 e1 m1 v1 : Int) (x y : List Pk) : Bool := decide (e0 = e1 ∧ m0 = m1 ∧ v0 = v1 ∧ x = y)
set_option maxHeartbeats 2000000 in
theorem helpRetG_any (e0 m0 v0 e1 m1 v1 : Int) (a0 a1 : Option Addr) (n0 c0 n1 c1 : Nat) (x y : List Pk) (w : World) (h0 : RdS w a0 n0 c0 3 (pks x)) (h1 : RdS w a1 n1 c1 3 (pks y)) (l0 : x.length = n0) (l1 : y.length = n1) :
    Calls Tryz.prog 41 #[.agg #[.int .i64 e0, .slice a0 n0 c0, .int .i64 m0, .int .u64 v0], .agg #[.int .i64 e1, .slice a1 n1 c1, .int .i64 m1, .int .u64 v1]] w fun e w' => e = .returned (.bool (retEq e0 m0 v0 e1 m1 v1 x y)) ∧ Below w.heap.size w w' := by
  have hb : Below w.heap.size w ((w.alloc (.cells #[.int .i64 e0, .slice a0 n0 c0, .int .i64 m0, .int .u64 v0] 38)).alloc (.cells #[.int .i64 e1, .slice a1 n1 c1, .int .i64 m1, .int .u64 v1] 38)) := ((Below.refl _ _).alloc (Nat.le_refl _) _).alloc (by simp) _
  have B0 : Blk ((w.alloc (.cells #[.int .i64 e0, .slice a0 n0 c0, .int .i64 m0, .int .u64 v0] 38)).alloc (.cells #[.int .i64 e1, .slice a1 n1 c1, .int .i64 m1, .int .u64 v1] 38)) w.heap.size [.int .i64 e0, .slice a0 n0 c0, .int .i64 m0, .int .u64 v0] 38 := (Blk.new w [.int .i64 e0, .slice a0 n0 c0, .int .i64 m0, .int .u64 v0] 38).alloc _
  have B1 := Blk.new (w.alloc (.cells #[.int .i64 e0, .slice a0 n0 c0, .int .i64 m0, .int .u64 v0] 38)) [.int .i64 e1, .slice a1 n1 c1, .int .i64 m1, .int .u64 v1] 38
  have q1 : (w.alloc (.cells #[.int .i64 e0, .slice a0 n0 c0, .int .i64 m0, .int .u64 v0] 38)).heap.size = w.heap.size + 1 := by simp
  rw [q1] at B1
  have d0 := h0.below hb
  have d1 := h1.below hb
  have HB := Lib.hid hb
  have HP := Lib.hid (plainPG_any a0 a1 n0 c0 n1 c1 x y)
  clear h0 h1 hb q1
  go_enter Tryz.func41, Tryz.ntmps41
  go_upto_region 1 with fail
  generalize ((w.alloc (.cells #[.int .i64 e0, .slice a0 n0 c0, .int .i64 m0, .int .u64 v0] 38)).alloc (.cells #[.int .i64 e1, .slice a1 n1 c1, .int .i64 m1, .int .u64 v1] 38)) = W at *
  have x0 : W.cell? ⟨w.heap.size, 0, none⟩ = some (.int .i64 e0) := B0.cell 0
  have x1 : W.cell? ⟨w.heap.size, 1, none⟩ = some (.slice a0 n0 c0) := B0.cell 1
  have x2 : W.cell? ⟨w.heap.size, 2, none⟩ = some (.int .i64 m0) := B0.cell 2
  have x3 : W.cell? ⟨w.heap.size, 3, none⟩ = some (.int .u64 v0) := B0.cell 3
  have y0 : W.cell? ⟨w.heap.size + 1, 0, none⟩ = some (.int .i64 e1) := B1.cell 0
  have y1 : W.cell? ⟨w.heap.size + 1, 1, none⟩ = some (.slice a1 n1 c1) := B1.cell 1
  have y2 : W.cell? ⟨w.heap.size + 1, 2, none⟩ = some (.int .i64 m1) := B1.cell 2
  have y3 : W.cell? ⟨w.heap.size + 1, 3, none⟩ = some (.int .u64 v1) := B1.cell 3
  have xl := B0.lt
  have yl := B1.lt
  clear B0 B1
  by_cases f1 : e0 = e1
  · by_cases f2 : m0 = m1
    · by_cases f3 : v0 = v1
      · have E : Hid (retEq e0 m0 v0 e1 m1 v1 x y = decide (x = y)) := by unfold Hid retEq; simp [f1, f2, f3]
        have b1 : (e0 == e1) = true := by simpa using f1
        have b2 : (m0 == m1) = true := by simpa using f2
        have b3 : (v0 == v1) = true := by simpa using f3
        clear f1 f2 f3
        go_wp2_with fail
        refine (HP.out W d0 d1 l0 l1).mono ?_
        rintro e w1 ⟨rfl, hb1⟩
        have HB1 := Lib.hid hb1
        clear hb1
        go_wp2
        go_ret
        exact ⟨by rw [E.out]; rfl, HB.out.trans (HB1.out.mono HB.out.size)⟩
      · have E : Hid (retEq e0 m0 v0 e1 m1 v1 x y = false) := by unfold Hid retEq; simp [f3]
        have b1 : (e0 == e1) = true := by simpa using f1
        have b2 : (m0 == m1) = true := by simpa using f2
        have b3 : (v0 == v1) = false := by simpa using f3
        clear f1 f2 f3
        go_wp2
        go_ret
        exact ⟨by rw [E.out]; rfl, HB.out⟩
    · have E : Hid (retEq e0 m0 v0 e1 m1 v1 x y = false) := by unfold Hid retEq; simp [f2]
      have b1 : (e0 == e1) = true := by simpa using f1
      have b2 : (m0 == m1) = false := by simpa using f2
      clear f1 f2
      go_wp2
      go_ret
      exact ⟨by rw [E.out]; rfl, HB.out⟩
  · have E : Hid (retEq e0 m0 v0 e1 m1 v1 x y = false) := by unfold Hid retEq; simp [f1]
    have b1 : (e0 == e1) = false := by simpa using f1
    clear f1
    go_wp2
    go_ret
    exact ⟨by rw [E.out]; rfl, HB.out⟩
set_option maxHeartbeats 2000000 in
theorem linSame_any (e0 m0 v0 e1 m1 v1 : Int) (a0 a1 : Option Addr) (n0 c0 n1 c1 : Nat) (x y : List Pk) (w : World) (h0 : RdS w a0 n0 c0 3 (pks x)) (h1 : RdS w a1 n1 c1 3 (pks y)) (l0 : x.length = n0) (l1 : y.length = n1) :
    Calls Tryz.prog 37 #[.agg #[.int .i64 e0, .slice a0 n0 c0, .int .i64 m0, .int .u64 v0], .agg #[.int .i64 e1, .slice a1 n1 c1, .int .i64 m1, .int .u64 v1]] w fun e w' => e = .returned (.bool (retEq e0 m0 v0 e1 m1 v1 x y)) ∧ Below w.heap.size w w' := by
  have hb : Below w.heap.size w ((w.alloc (.cells #[.int .i64 e0, .slice a0 n0 c0, .int .i64 m0, .int .u64 v0] 38)).alloc (.cells #[.int .i64 e1, .slice a1 n1 c1, .int .i64 m1, .int .u64 v1] 38)) := ((Below.refl _ _).alloc (Nat.le_refl _) _).alloc (by simp) _
  have B0 : Blk ((w.alloc (.cells #[.int .i64 e0, .slice a0 n0 c0, .int .i64 m0, .int .u64 v0] 38)).alloc (.cells #[.int .i64 e1, .slice a1 n1 c1, .int .i64 m1, .int .u64 v1] 38)) w.heap.size [.int .i64 e0, .slice a0 n0 c0, .int .i64 m0, .int .u64 v0] 38 := (Blk.new w [.int .i64 e0, .slice a0 n0 c0, .int .i64 m0, .int .u64 v0] 38).alloc _
  have B1 := Blk.new (w.alloc (.cells #[.int .i64 e0, .slice a0 n0 c0, .int .i64 m0, .int .u64 v0] 38)) [.int .i64 e1, .slice a1 n1 c1, .int .i64 m1, .int .u64 v1] 38
  have q1 : (w.alloc (.cells #[.int .i64 e0, .slice a0 n0 c0, .int .i64 m0, .int .u64 v0] 38)).heap.size = w.heap.size + 1 := by simp
  rw [q1] at B1
  have d0 := h0.below hb
  have d1 := h1.below hb
  have HB := Lib.hid hb
  have HP := Lib.hid (slEqual_any a0 a1 n0 c0 n1 c1 x y)
  clear h0 h1 hb q1
  go_enter Tryz.func37, Tryz.ntmps37
  go_upto_region 1 with fail
  generalize ((w.alloc (.cells #[.int .i64 e0, .slice a0 n0 c0, .int .i64 m0, .int .u64 v0] 38)).alloc (.cells #[.int .i64 e1, .slice a1 n1 c1, .int .i64 m1, .int .u64 v1] 38)) = W at *
  have x0 : W.cell? ⟨w.heap.size, 0, none⟩ = some (.int .i64 e0) := B0.cell 0
  have x1 : W.cell? ⟨w.heap.size, 1, none⟩ = some (.slice a0 n0 c0) := B0.cell 1
  have x2 : W.cell? ⟨w.heap.size, 2, none⟩ = some (.int .i64 m0) := B0.cell 2
  have x3 : W.cell? ⟨w.heap.size, 3, none⟩ = some (.int .u64 v0) := B0.cell 3
  have y0 : W.cell? ⟨w.heap.size + 1, 0, none⟩ = some (.int .i64 e1) := B1.cell 0
  have y1 : W.cell? ⟨w.heap.size + 1, 1, none⟩ = some (.slice a1 n1 c1) := B1.cell 1
  have y2 : W.cell? ⟨w.heap.size + 1, 2, none⟩ = some (.int .i64 m1) := B1.cell 2
  have y3 : W.cell? ⟨w.heap.size + 1, 3, none⟩ = some (.int .u64 v1) := B1.cell 3
  have xl := B0.lt
  have yl := B1.lt
  clear B0 B1
  by_cases f1 : e0 = e1
  · by_cases f2 : m0 = m1
    · by_cases f3 : v0 = v1
      · have E : Hid (retEq e0 m0 v0 e1 m1 v1 x y = decide (x = y)) := by unfold Hid retEq; simp [f1, f2, f3]
        have b1 : (e0 == e1) = true := by simpa using f1
        have b2 : (m0 == m1) = true := by simpa using f2
        have b3 : (v0 == v1) = true := by simpa using f3
        clear f1 f2 f3
        go_wp2_with fail
        refine (HP.out W d0 d1 l0 l1).mono ?_
        rintro e w1 ⟨rfl, hb1⟩
        have HB1 := Lib.hid hb1
        clear hb1
        go_wp2
        go_ret
        exact ⟨by rw [E.out]; rfl, HB.out.trans (HB1.out.mono HB.out.size)⟩
      · have E : Hid (retEq e0 m0 v0 e1 m1 v1 x y = false) := by unfold Hid retEq; simp [f3]
        have b1 : (e0 == e1) = true := by simpa using f1
        have b2 : (m0 == m1) = true := by simpa using f2
        have b3 : (v0 == v1) = false := by simpa using f3
        clear f1 f2 f3
        go_wp2
        go_ret
        exact ⟨by rw [E.out]; rfl, HB.out⟩
    · have E : Hid (retEq e0 m0 v0 e1 m1 v1 x y = false) := by unfold Hid retEq; simp [f2]
      have b1 : (e0 == e1) = true := by simpa using f1
      have b2 : (m0 == m1) = false := by simpa using f2
      clear f1 f2
      go_wp2
      go_ret
      exact ⟨by rw [E.out]; rfl, HB.out⟩
  · have E : Hid (retEq e0 m0 v0 e1 m1 v1 x y = false) := by unfold Hid retEq; simp [f1]
    have b1 : (e0 == e1) = false := by simpa using f1
    clear f1
    go_wp2
    go_ret
    exact ⟨by rw [E.out]; rfl, HB.out⟩
end Go.Proofs.YtdjooacjjnjfmaaGreat
end

-- The key of a flow.
section
namespace Go.Proofs.YtdjooacjjnjfmaaGreat
set_option linter.unusedVariables false
set_option linter.unusedSimpArgs false
set_option maxRecDepth 20000
open Go.RowKit Go.Proofs.YtdjooacjjnjfmaaGreatMem

def u64s (l : List Int) : List Value := l.map (Value.int .u64)
theorem u64s_append (a b : List Int) : u64s (a ++ b) = u64s a ++ u64s b := by simp [u64s]
theorem u64s_length (a : List Int) : (u64s a).length = a.length := by simp [u64s]
theorem u64s_one (l : List Int) : ∀ u ∈ u64s l, u.oneCell' = true := by
  intro u hu
  simp only [u64s, List.mem_map] at hu
  obtain ⟨z, -, rfl⟩ := hu
  rfl
theorem EU : ElT Tryz.prog 141 22 (.int .u64 0) 1 := ⟨Tryz.underlying141, ⟨8, by kernel_rfl, by omega⟩, rfl, by omega⟩
theorem pkW_length (l : List Pk) : (l.flatMap pkW).length = l.length * 3 := by
  induction l with
  | nil => rfl
  | cons p l ih => rw [List.flatMap_cons, List.length_append, ih]; simp [pkW]; omega
theorem pkW_take (l : List Pk) {k : Nat} (h : k < l.length) : (l.take (k + 1)).flatMap pkW = (l.take k).flatMap pkW ++ pkW (nthP l k) := by
  rw [List.take_add_one, List.flatMap_append, nthP_eq h]
  simp [h]
def fl5 (x : FlS) : List Int := [x.r, toU x.most, x.start0, x.finish, toU (x.l.length : Int)]
theorem flW_length (x : FlS) : (flW x).length = 5 + x.l.length * 3 := by unfold flW; rw [List.length_append, pkW_length]; rfl
set_option maxHeartbeats 2000000 in
theorem keyFl_any (b : Nat) (x : FlS) (F : Nat → Prop) (w : World) (h : FlowAt w b x F) (hn : x.l.length ≤ 1000) :
    Calls Tryz.prog 147 #[.pointer (some ⟨b, 0, none⟩)] w (RetRow w 22 1 (flW x).length (u64s (flW x))) := by
  have hst := start_any b x F w h
  obtain ⟨ao, cap, hb, ho, -⟩ := h
  have c0 := hb.cell 0
  have c1 := hb.cell 1
  have c2 := hb.cell 2
  have c4 := hb.cell 4
  simp only [List.getElem?_cons_succ, List.getElem?_cons_zero] at c0 c1 c2 c4
  have hlt := hb.lt
  have hrd := owns_rdS ho (pks_one _)
  have HF : Hid (flW x = [x.r, toU x.most, x.start0, x.finish, toU (x.l.length : Int)] ++ x.l.flatMap pkW) := Lib.hid rfl
  have HL := Lib.hid (flW_length x)
  have hrow : (w.alloc (.cells #[.int .u64 x.r, .int .u64 (toU x.most), .int .u64 x.start0, .int .u64 x.finish, .int .u64 (toU (x.l.length : Int))] 22)).ownsRow w.heap.size 22 1 (.slice (some ⟨w.heap.size, 0, none⟩) 5 5) 5 (u64s [x.r, toU x.most, x.start0, x.finish, toU (x.l.length : Int)]) := by
    have := World.ownsRow_lit (e := 22) (size := 1) (base := w.heap.size) w #[.int .u64 x.r, .int .u64 (toU x.most), .int .u64 x.start0, .int .u64 x.finish, .int .u64 (toU (x.l.length : Int))] 5 (Nat.le_refl _) (by unfold maxLen; omega) (by simp)
    simpa [u64s] using this
  have HROW := Lib.hid hrow
  have HRD := Lib.hid hrd
  have hwr : toU (x.l.length : Int) = (x.l.length : Int) := by unfold toU; rw [IntKind.wrap_u64]; omega
  rw [hwr] at HF HROW
  clear hwr
  unfold toU at *
  generalize x.start0 = st at *
  generalize hnn : x.l.length = n at *
  generalize hLL : x.l = L at *
  have HN := Lib.hid hnn
  clear hb ho hrd hrow hnn hLL
  go_enter Tryz.func147, Tryz.ntmps147
  go_wp2_with fail
  refine hst.mono ?_
  rintro e w1 ⟨rfl, rfl⟩
  clear hst
  go_wp2_with fail
  go_region
  have hb1 := below1 w (.cells #[.int .u64 x.r, .int .u64 (IntKind.u64.wrap x.most), .int .u64 st, .int .u64 x.finish, .int .u64 ((n : Int))] 22)
  have c2' : (w.alloc (.cells #[.int .u64 x.r, .int .u64 (IntKind.u64.wrap x.most), .int .u64 st, .int .u64 x.finish, .int .u64 ((n : Int))] 22)).drew.cell? ⟨b, 2, none⟩ = some (.slice ao n cap) := (hb1.cell (p := ⟨b, 2, none⟩) hlt).trans c2
  have hlt' : b < (w.alloc (.cells #[.int .u64 x.r, .int .u64 (IntKind.u64.wrap x.most), .int .u64 st, .int .u64 x.finish, .int .u64 ((n : Int))] 22)).drew.heap.size := Nat.lt_of_lt_of_le hlt hb1.size
  have hb1' := hb1.drew
  have hrow' : (w.alloc (.cells #[.int .u64 x.r, .int .u64 (IntKind.u64.wrap x.most), .int .u64 st, .int .u64 x.finish, .int .u64 ((n : Int))] 22)).drew.ownsRow w.heap.size 22 1 (.slice (some ⟨w.heap.size, 0, none⟩) 5 5) 5 (u64s [x.r, IntKind.u64.wrap x.most, st, x.finish, (n : Int)]) := HROW.out
  generalize (w.alloc (.cells #[.int .u64 x.r, .int .u64 (IntKind.u64.wrap x.most), .int .u64 st, .int .u64 x.finish, .int .u64 ((n : Int))] 22)).drew = W at *
  have HB1 := Lib.hid hb1'
  have HR1 := Lib.hid hrow'
  obtain ⟨FV, hFV⟩ : ∃ FV, FV = [x.r, IntKind.u64.wrap x.most, st, x.finish, (n : Int)] := ⟨_, rfl⟩
  rw [← hFV] at HF HR1
  clear hb1 hb1' hrow' HROW c0 c1 c2 c4 hlt hFV
  obtain ⟨V0, hV0⟩ : ∃ V0, V0 = Value.slice (some ⟨w.heap.size, 0, none⟩) 5 5 := ⟨_, rfl⟩
  rw [← hV0] at HR1 ⊢
  clear hV0
  go_wp2_with fail
  go_loopw [5, 7, 39] (fun v5 _ v39 wr => ∃ k : Nat, k ≤ n ∧ v39 = .int .i64 k ∧ wr.ownsRow w.heap.size 22 1 v5 (5 + k * 3) (u64s (FV ++ (L.take k).flatMap pkW)) ∧ Below w.heap.size w wr) (fun _ _ v39 _ => n - (intOf v39).toNat)
  case atStart => exact ⟨0, Nat.zero_le _, rfl, by simpa using HR1.out, HB1.out⟩
  case round =>
    obtain ⟨k, hk, rfl, hown, hbr⟩ := hrel
    have hszr := hbr.size
    by_cases hl : k < n
    · have i1 : (k : Int) < (n : Int) := by omega
      obtain ⟨b0, o0, rfl, hlt0, hc0⟩ := rds_pk HRD.out HN.out hl
      obtain ⟨x0, x1, x2⟩ := hc0 _ hbr
      have HE := Lib.hid (pkW_take L (by rw [HN.out]; exact hl))
      have hown' := hown.alloc (.cells #[.int .i64 (nthP L k).flow, .int .i64 (nthP L k).len, .int .i64 (nthP L k).mark] 59)
      have hbx := hbr.alloc hszr (.cells #[.int .i64 (nthP L k).flow, .int .i64 (nthP L k).len, .int .i64 (nthP L k).mark] 59)
      have Bx := Blk.new wr [.int .i64 (nthP L k).flow, .int .i64 (nthP L k).len, .int .i64 (nthP L k).mark] 59
      have y0 := Bx.cell 0
      have y1 := Bx.cell 1
      have y2 := Bx.cell 2
      simp only [List.getElem?_cons_succ, List.getElem?_cons_zero] at y0 y1 y2
      have yl := Bx.lt
      have hszx := hbx.size
      have hn2 : 5 + k * 3 + 3 ≤ 1099511627776 := by omega
      have h1 : ∀ u ∈ (#[.int .u64 (IntKind.u64.wrap (nthP L k).flow), .int .u64 (IntKind.u64.wrap (nthP L k).len), .int .u64 (IntKind.u64.wrap (nthP L k).mark)] : Array Value).toList, u.oneCell' = true := by
        intro u hu
        have hu2 : u ∈ [Value.int .u64 (IntKind.u64.wrap (nthP L k).flow), .int .u64 (IntKind.u64.wrap (nthP L k).len), .int .u64 (IntKind.u64.wrap (nthP L k).mark)] := hu
        simp only [List.mem_cons, List.not_mem_nil, or_false] at hu2
        rcases hu2 with rfl | rfl | rfl <;> rfl
      have HK2 : Hid (u64s (FV ++ (L.take (k + 1)).flatMap pkW) = u64s (FV ++ (L.take k).flatMap pkW) ++ [.int .u64 (IntKind.u64.wrap (nthP L k).flow), .int .u64 (IntKind.u64.wrap (nthP L k).len), .int .u64 (IntKind.u64.wrap (nthP L k).mark)]) := Lib.hid (by rw [HE.out, ← List.append_assoc, u64s_append]; rfl)
      clear hc0 hown HE Bx
      generalize u64s (FV ++ (L.take k).flatMap pkW) = XS at *
      generalize nthP L k = q at *
      go_upto_region 6 with fail
      generalize wr.alloc (.cells #[.int .i64 q.flow, .int .i64 q.len, .int .i64 q.mark] 59) = wx at *
      go_wp2_with ((at_builtin; refine ap_new wx #[.int .u64 (IntKind.u64.wrap q.flow), .int .u64 (IntKind.u64.wrap q.len), .int .u64 (IntKind.u64.wrap q.mark)] EU rfl _ _ rfl w.heap.size _ (5 + k * 3) _ rfl hown' hszx 3 rfl rfl h1 hn2 ?_; intro v' w3 hown3 hg3 hb3 hfr3))
      go_roundw
      case rel => exact ⟨k + 1, by omega, by go_num, by rw [HK2.out, show 5 + (k + 1) * 3 = 5 + k * 3 + 3 by omega]; exact hown3, hbx.trans hb3⟩
      case measure => simp [intOf]; omega
    · obtain rfl : k = n := by omega
      have hT : L.take k = L := List.take_of_length_le (by rw [HN.out]; exact Nat.le_refl _)
      rw [hT] at hown
      obtain ⟨ra, rc, rfl⟩ := owns_slice hown
      go_wp2
      go_ret
      exact ⟨_, rfl, by rw [HL.out, HF.out]; exact hown, hbr⟩
end Go.Proofs.YtdjooacjjnjfmaaGreat
end

-- The key of a set of flows.
section
namespace Go.Proofs.YtdjooacjjnjfmaaGreat
set_option linter.unusedVariables false
set_option linter.unusedSimpArgs false
set_option maxRecDepth 20000
open Go.RowKit Go.Proofs.YtdjooacjjnjfmaaGreatMem Go.Proofs.YtdjooacjjnjfmaaGreatMapK

theorem ids_sortF (s : SfS) : (s.ids.mergeSort fun x y => decide (x ≤ y)) = (sortF s.fs).map (·.1) := by
  have tr : ∀ a b c : Int, decide (a ≤ b) = true → decide (b ≤ c) = true → decide (a ≤ c) = true := fun a b c h1 h2 => by simp only [decide_eq_true_eq] at *; omega
  have tot : ∀ a b : Int, (decide (a ≤ b) || decide (b ≤ a)) = true := fun a b => by simp only [Bool.or_eq_true, decide_eq_true_eq]; omega
  refine List.Perm.eq_of_pairwise (le := fun x y : Int => decide (x ≤ y) = true) (fun a b _ _ h1 h2 => by simp only [decide_eq_true_eq] at h1 h2; omega) (List.pairwise_mergeSort tr tot _) ?_ ((List.mergeSort_perm _ _).trans ((sortF_perm s.fs).map fun e : Int × FlS => e.1).symm)
  rw [List.pairwise_map]
  exact (List.pairwise_mergeSort (le := fun a c : Int × FlS => decide (a.1 ≤ c.1)) (fun a b c h1 h2 => by simp only [decide_eq_true_eq] at *; omega) (fun a b => by simp only [Bool.or_eq_true, decide_eq_true_eq]; omega) s.fs)
theorem getR_of {l : List FlR} (hn : (l.map (·.id)).Nodup) {r : FlR} (hr : r ∈ l) : getR l r.id = some r := by
  induction l with
  | nil => cases hr
  | cons e l ih =>
    simp only [List.map_cons, List.nodup_cons] at hn
    unfold getR
    rw [List.find?_cons]
    rcases List.mem_cons.1 hr with rfl | hr
    · simp
    · have hne : e.id ≠ r.id := fun e0 => hn.1 (List.mem_map.2 ⟨r, hr, e0.symm⟩)
      have hd : decide (e.id = r.id) = false := decide_eq_false hne
      rw [hd]
      exact ih hn.2 hr
theorem enW_length (e : Int × FlS) : (enW e).length = 6 + e.2.l.length * 3 := by unfold enW; rw [List.length_cons, flW_length]; omega
theorem ens_length {l : List (Int × FlS)} (h : ∀ e ∈ l, e.2.l.length ≤ 8) : (l.flatMap enW).length ≤ l.length * 30 := by
  induction l with
  | nil => simp
  | cons e l ih =>
    rw [List.flatMap_cons, List.length_append, enW_length, List.length_cons]
    have h1 := h e (List.mem_cons_self ..)
    have h2 := ih fun x hx => h x (List.mem_cons_of_mem _ hx)
    omega
theorem sfW_length {s : SfS} (ok : s.Ok) : (sfW s).length ≤ s.fs.length * 30 + 2 := by
  unfold sfW
  rw [List.length_cons, List.length_cons]
  have h1 := ens_length (l := sortF s.fs) fun e he => by have ho := ok.fs e ((sortF_perm _).mem_iff.1 he); have h2 := ho.len; have h3 := ho.m8; omega
  rw [(sortF_perm s.fs).length_eq] at h1
  omega
theorem own_heapQ {w : World} {base : Nat} {e : TypeId} {size : Nat} {v : Value} {n : Nat} {xs : List Value} (h : w.ownsRow base e size v n xs) {k : Nat} (hk : v.ownBlock = some k) : ∃ cur, w.heap[k]? = some (.cells cur e (0, 0)) := by
  rcases h.2 with ⟨rfl, _⟩ | ⟨g, cap, cur, rfl, _, hh, _⟩
  · cases hk
  · cases hk; exact ⟨cur, hh⟩
theorem tag_neQ {w : World} {b1 b2 : Nat} {e1 e2 : TypeId} {s1 s2 n1 n2 : Nat} {v1 v2 : Value} {xs ys : List Value} (h1 : w.ownsRow b1 e1 s1 v1 n1 xs) (h2 : w.ownsRow b2 e2 s2 v2 n2 ys) (hne : e1 ≠ e2) : ∀ k, v2.ownBlock = some k → v1.ownBlock ≠ some k := by
  intro k h3 h4
  obtain ⟨c1, e⟩ := own_heapQ h1 h4
  obtain ⟨c2, e'⟩ := own_heapQ h2 h3
  rw [e] at e'
  simp only [Option.some.injEq, Obj.cells.injEq] at e'
  exact hne e'.2.1
set_option maxHeartbeats 4000000 in
theorem keySf_any (b : Nat) (s : SfS) (F : Nat → Prop) (w : World) (h : SfsAt w b s F) (ok : s.Ok) (hn : s.fs.length ≤ 1000000) :
    Calls Tryz.prog 122 #[.pointer (some ⟨b, 0, none⟩)] w (RetRow w 22 1 (sfW s).length (u64s (sfW s))) := by
  have hFls := fun w (h : SfsAt w b s F) => flowsS_any b s F w h ok.ids hn
  rw [ids_sortF] at hFls
  have hSl : (sortF s.fs).length = s.fs.length := (sortF_perm s.fs).length_eq
  have hsub : ∀ e ∈ sortF s.fs, e ∈ s.fs := fun e he => (sortF_perm _).mem_iff.1 he
  have h8 : ∀ e ∈ sortF s.fs, e.2.l.length ≤ 8 := fun e he => by have ho := ok.fs e (hsub e he); have h2 := ho.len; have h3 := ho.m8; omega
  have HW : Hid (sfW s = [s.v, s.most] ++ (sortF s.fs).flatMap enW) := Lib.hid rfl
  obtain ⟨mb, l, hl, R⟩ := h
  have hR : ∀ w', Below w.heap.size w w' → SfqR w' b mb s.v s.most l F := fun w' hb => R.below hb
  have hAt : ∀ w', Below w.heap.size w w' → SfsAt w' b s F := fun w' hb => ⟨mb, l, hl, hR w' hb⟩
  have hnd : (l.map (·.id)).Nodup := by
    obtain ⟨es, clock, hm⟩ := R.map
    have := hm.keys
    rw [List.map_map] at this
    exact this
  have HR := Lib.hid hR
  have HAT := Lib.hid hAt
  have HND := Lib.hid hnd
  have HSL := Lib.hid hSl
  have HSUB := Lib.hid hsub
  have H8 := Lib.hid h8
  have HL := Lib.hid hl
  have c1 : w.cell? ⟨b, 1, none⟩ = some (.int .u64 s.v) := R.blk.cell 1
  have c2 : w.cell? ⟨b, 2, none⟩ = some (.int .u64 s.most) := R.blk.cell 2
  have hbl := R.blk.lt
  have hrow : (w.alloc (.cells #[.int .u64 s.v, .int .u64 s.most] 22)).drew.ownsRow w.heap.size 22 1 (.slice (some ⟨w.heap.size, 0, none⟩) 2 2) 2 (u64s [s.v, s.most]) := by
    have := World.ownsRow_lit (e := 22) (size := 1) (base := w.heap.size) w #[.int .u64 s.v, .int .u64 s.most] 2 (Nat.le_refl _) (by unfold maxLen; omega) (by simp)
    have h0 : (w.alloc (.cells #[.int .u64 s.v, .int .u64 s.most] 22)).ownsRow w.heap.size 22 1 (.slice (some ⟨w.heap.size, 0, none⟩) 2 2) 2 (u64s [s.v, s.most]) := by simpa [u64s] using this
    exact h0
  have hb1 := (below1 w (.cells #[.int .u64 s.v, .int .u64 s.most] 22)).drew
  generalize sortF s.fs = SF at *
  generalize hnn : s.fs.length = n at *
  clear hR hAt hnd hSl hsub h8 hl hnn R
  go_enter Tryz.func122, Tryz.ntmps122
  go_wp2_with fail
  go_region
  have HROW := Lib.hid hrow
  have HB1 := Lib.hid hb1
  generalize (w.alloc (.cells #[.int .u64 s.v, .int .u64 s.most] 22)).drew = W at *
  obtain ⟨V0, hV0⟩ : ∃ V0, V0 = Value.slice (some ⟨w.heap.size, 0, none⟩) 2 2 := ⟨_, rfl⟩
  rw [← hV0] at HROW ⊢
  clear hrow hb1 c1 c2 hV0
  go_wp2_with fail
  refine (hFls _ (HAT.out _ HB1.out)).mono ?_
  rintro e w1 ⟨vf, rfl, hrf, hbf⟩
  obtain ⟨fa, fc, rfl⟩ := owns_slice hrf
  have HRF := Lib.hid hrf
  have HB2 := Lib.hid (HB1.out.trans (hbf.mono HB1.out.size))
  have HO := Lib.hid (owns_below (B := 0) HROW.out hbf)
  clear hrf hbf hFls
  go_wp2_with fail
  go_loopw [3, 5, 18] (fun v3 _ v18 wr => ∃ k : Nat, k ≤ n ∧ v18 = .int .i64 k ∧ wr.ownsRow w.heap.size 22 1 v3 (([s.v, s.most] ++ (SF.take k).flatMap enW).length) (u64s ([s.v, s.most] ++ (SF.take k).flatMap enW)) ∧ Below w.heap.size w wr ∧ wr.ownsRow W.heap.size 3 1 (.slice fa n fc) n ((SF.map (·.1)).map (Value.int .i64))) (fun _ _ v18 _ => n - (intOf v18).toNat)
  case atStart => exact ⟨0, Nat.zero_le _, rfl, by simpa using HO.out, HB2.out, HRF.out⟩
  case round =>
    obtain ⟨k, hk, rfl, hown, hbr, hids⟩ := hrel
    have hszr := hbr.size
    by_cases hl : k < n
    · have i1 : (k : Int) < (n : Int) := by omega
      obtain ⟨e, he⟩ : ∃ e, SF[k]? = some e := ⟨_, List.getElem?_eq_getElem (by rw [HSL.out]; exact hl)⟩
      have hmem := HSUB.out e (List.mem_of_getElem? he)
      have hlen8 := H8.out e (List.mem_of_getElem? he)
      rw [← HL.out] at hmem
      obtain ⟨r, hr, hre⟩ := List.mem_map.1 hmem
      have hg := getR_of HND.out hr
      have hid' : (((SF.map (·.1)).map (Value.int .i64)))[k]? = some (.int .i64 r.id) := by simp [he, ← hre, FlR.pl]
      obtain ⟨b0, rfl, -, hlt0, hc0⟩ := owns_at hids hid'
      rw [Nat.zero_add] at hc0
      have HE : Hid ([s.v, s.most] ++ (SF.take (k + 1)).flatMap enW = [s.v, s.most] ++ (SF.take k).flatMap enW ++ [toU r.id] ++ flW r.x) := Lib.hid (by
        rw [List.take_add_one, he]
        simp [enW, ← hre, FlR.pl])
      have hacc : ([s.v, s.most] ++ (SF.take k).flatMap enW).length ≤ 30000002 := by
        have := ens_length (l := SF.take k) fun e he => H8.out e (List.mem_of_mem_take he)
        rw [List.length_take] at this
        rw [List.length_append]
        have h2 : [s.v, s.most].length = 2 := rfl
        omega
      have hfl : (flW r.x).length ≤ 29 := by
        rw [flW_length]
        have : r.x.l.length ≤ 8 := by rw [← hre] at hlen8; exact hlen8
        omega
      have hx8 : r.x.l.length ≤ 1000 := by rw [← hre] at hlen8; exact Nat.le_trans hlen8 (by omega)
      generalize hAC : [s.v, s.most] ++ (SF.take k).flatMap enW = AC at *
      have hRr := HR.out _ hbr.drew
      have hLK : ∀ w', Below w.heap.size w w' → (Instr.lookup 136 (.map (some mb)) (.int .i64 r.id) false).run Tryz.prog w' = .ok (.pointer (some ⟨r.b, 0, none⟩)) w' ∧ w'.cell? ⟨b, 0, none⟩ = some (.map (some mb)) ∧ b < w'.heap.size := fun w' hb => by
        have h1 := (HR.out w' hb).look r.id
        rw [hg] at h1
        exact ⟨h1, (HR.out w' hb).blk.cell 0, Nat.lt_of_lt_of_le hbl hb.size⟩
      have HLK := Lib.hid hLK
      obtain ⟨hlk, m0, hbm⟩ := hLK _ hbr.drew
      obtain ⟨hlk1, m01, hbm1⟩ := hLK _ ((hbr.alloc hszr (.cells #[.int .u64 (IntKind.u64.wrap r.id)] 22)).drew)
      have hblr : b < wr.drew.heap.size := Nat.lt_of_lt_of_le hbl hbr.size
      have hKey : ∀ w', Below w.heap.size w w' → Calls Tryz.prog 147 #[.pointer (some ⟨r.b, 0, none⟩)] w' (RetRow w' 22 1 (flW r.x).length (u64s (flW r.x))) := fun w' hb => keyFl_any r.b r.x r.G w' ((HR.out w' hb).flows r hr) hx8
      have HKEY := Lib.hid hKey
      have HOWN := Lib.hid hown
      have HBR := Lib.hid hbr
      have HI := Lib.hid hids
      clear hLK hRr hKey hown hbr hids he hmem hre hg hid' hr hAC
      generalize flW r.x = FX at *
      go_wp2_with fail
      go_region_law (first
        | (refine step_ap_new wr #[.int .u64 (IntKind.u64.wrap r.id)] EU (by rfl) _ _ (by rfl) w.heap.size _ AC.length _ (by simp [Act.eval, Act.put]) HOWN.out HBR.out.size 1 (by simp [Act.eval, Act.put]) (by rfl) (by simp [Value.oneCell']) (by omega) ?_; intro v8 w8 hown8 hg8 hb8 hfr8; obtain ⟨a8, c8, rfl⟩ := owns_slice hown8; have HT8 := Lib.hid (HBR.out.trans hb8); have HI8 := Lib.hid (owns_grown HI.out hg8 (tag_neQ HOWN.out HI.out (by decide))); have HO8 := Lib.hid hown8; obtain ⟨hlk8, m08, hbm8⟩ := HLK.out _ HT8.out; clear hg8 hb8 hown8 hfr8)
        | (go_simp; go_at_call 147; refine (HKEY.out _ HT8.out).mono ?_; rintro e w9 ⟨v9, rfl, hown9, hb9⟩; obtain ⟨a9, c9, rfl⟩ := owns_slice hown9; have HT9 := Lib.hid (HT8.out.trans (hb9.mono HT8.out.size)); have HO9 := Lib.hid (owns_below (B := 0) HO8.out hb9); have HK9 := Lib.hid hown9; have HI9 := Lib.hid (owns_below (B := 0) HI8.out hb9); clear hb9 hown9)
        | (refine step_ap_src0 w9 EU (by rfl) _ _ (by rfl) w.heap.size _ (AC.length + 1) _ (by simp [Act.eval, Act.put]) HO9.out HT9.out.size a9 FX.length c9 (u64s FX) (by simp [Act.eval, Act.put]) (fun h => (owns_cap HK9.out).2.2.2 h) (by rw [u64s_length, Nat.mul_one]) (fun j u hu => by obtain ⟨g, h1, -, -, h2⟩ := owns_at HK9.out hu; exact ⟨g, 0, h1, h2⟩) (u64s_one _) (by omega) ?_; intro v10 w10 hown10 hg10 hb10 hfr10; have HT10 := Lib.hid (HT9.out.trans hb10); have HO10 := Lib.hid hown10; have HI10 := Lib.hid (owns_grown HI9.out hg10 (tag_neQ HO9.out HI9.out (by decide))); clear hg10 hb10 hown10 hfr10)
        | fail)
      all_goals
        go_wp2
        go_roundw
        case rel =>
          refine ⟨k + 1, by omega, by go_num, ?_, HT10.out, HI10.out⟩
          rw [HE.out]
          have h1 : (AC ++ [toU r.id] ++ FX).length = AC.length + 1 + FX.length := by simp only [List.length_append, List.length_cons, List.length_nil]
          have h2 : u64s (AC ++ [toU r.id] ++ FX) = u64s AC ++ [.int .u64 (IntKind.u64.wrap r.id)] ++ u64s FX := by rw [u64s_append, u64s_append]; rfl
          rw [h1, h2]
          exact HO10.out
        case measure => simp [intOf]; omega
    · obtain rfl : k = n := by omega
      have hT : SF.take k = SF := List.take_of_length_le (by rw [HSL.out]; exact Nat.le_refl _)
      rw [hT] at hown
      obtain ⟨ra, rc, rfl⟩ := owns_slice hown
      go_wp2
      go_ret
      exact ⟨_, rfl, by rw [HW.out]; exact hown, hbr⟩
end Go.Proofs.YtdjooacjjnjfmaaGreat
end

-- The model's key.
section
namespace Go.Proofs.YtdjooacjjnjfmaaGreat
set_option linter.unusedVariables false
set_option linter.unusedSimpArgs false
set_option maxRecDepth 20000
open Go.RowKit Go.Proofs.YtdjooacjjnjfmaaGreatMem Go.Proofs.YtdjooacjjnjfmaaGreatMapK

theorem mdW_length {m : MdS} : (mdW m).length = (sfW m.s).length + 1 := by unfold mdW; simp
set_option maxHeartbeats 4000000 in
theorem keyMd_any (b : Nat) (c : Cfg) (m : MdS) (F : Nat → Prop) (w : World) (h : MdAt w b c m.s m.served F) (ok : m.s.Ok) (hn : m.s.fs.length ≤ 1000000) :
    Calls Tryz.prog 104 #[.pointer (some ⟨b, 0, none⟩)] w (RetRow w 22 1 (mdW m).length (u64s (mdW m))) := by
  obtain ⟨sb, lm, Fs, h⟩ := h
  have HM := Lib.hid h
  have hl := sfW_length ok
  have hS : ∀ w', Below w.heap.size w w' → w'.cell? ⟨b, 5, none⟩ = some (.pointer (some ⟨sb, 0, none⟩)) ∧ w'.cell? ⟨b, 7, none⟩ = some (.int .i64 m.served) ∧ b < w'.heap.size := fun w' hb =>
    ⟨(h.blk.below hb).cell 5, (h.blk.below hb).cell 7, (h.blk.below hb).lt⟩
  have HS := Lib.hid hS
  obtain ⟨q5, q7, hlt⟩ := hS w (Below.refl _ _)
  obtain ⟨r5, r7, rlt⟩ := hS w.drew (Below.refl _ _).drew
  have hK : ∀ w', Below w.heap.size w w' → Calls Tryz.prog 122 #[.pointer (some ⟨sb, 0, none⟩)] w' (RetRow w' 22 1 (sfW m.s).length (u64s (sfW m.s))) := fun w' hb => keySf_any sb m.s Fs w' (h.sfq.below hb) ok hn
  have HK := Lib.hid hK
  have HL : Hid (mdW m = sfW m.s ++ [toU m.served]) := Lib.hid rfl
  have HLE := Lib.hid (mdW_length (m := m))
  clear h hS hK
  generalize sfW m.s = SW at *
  generalize m.served = sv at *
  go_enter Tryz.func104, Tryz.ntmps104
  go_wp2_with fail
  have hlit : ∀ w', Below (w.heap.size + 1) (w.alloc (.cells #[.int .u64 (IntKind.u64.wrap sv)] 22)).drew w' → ∀ j u, ([.int .u64 (IntKind.u64.wrap sv)] : List Value)[j]? = some u → ∃ b off, (some ⟨w.heap.size, 0, none⟩ : Option Addr) = some ⟨b, off, none⟩ ∧ w'.cell? ⟨b, off + j, none⟩ = some u := fun w' hb j u hu => by
    have B := (Blk.new w [.int .u64 (IntKind.u64.wrap sv)] 22).drew
    have hj : j = 0 := by
      rcases Nat.eq_zero_or_pos j with h | h
      · exact h
      · rw [List.getElem?_eq_none (by simp; omega)] at hu; cases hu
    subst hj
    exact ⟨w.heap.size, 0, rfl, (hb.cell (p := ⟨w.heap.size, 0, none⟩) (Nat.lt_succ_self _)).trans (by rw [← hu]; exact B.cell 0)⟩
  have HLIT := Lib.hid hlit
  clear hlit
  go_region_law (first
    | (go_simp; go_at_call 122; refine (HK.out _ (by exact (Below.refl _ _).drew)).mono ?_; rintro e w9 ⟨v9, rfl, hown9, hb9⟩; obtain ⟨a9, c9, rfl⟩ := owns_slice hown9; have HB9 : Hid (Below w.heap.size w w9) := Lib.hid ((Below.refl _ w).drew.trans hb9); have HK9 : Hid (w9.ownsRow w.heap.size 22 1 (.slice a9 SW.length c9) SW.length (u64s SW)) := Lib.hid hown9; obtain ⟨s5, s7, slt⟩ := HS.out w9 HB9.out; clear hb9 hown9)
    | (go_simp; go_at_call 122; refine (HK.out _ (by exact (below1 _ _).drew)).mono ?_; rintro e w9 ⟨v9, rfl, hown9, hb9⟩; obtain ⟨a9, c9, rfl⟩ := owns_slice hown9; have HB9 : Hid (Below w.heap.size w w9) := Lib.hid ((below1 _ _).drew.trans (hb9.mono (by simp))); have HK9 : Hid (w9.ownsRow w.heap.size 22 1 (.slice a9 SW.length c9) SW.length (u64s SW)) := Lib.hid (owns_base hown9 (by simp)); have HC9 := Lib.hid (HLIT.out w9 (hb9.mono (by simp))); obtain ⟨s5, s7, slt⟩ := HS.out w9 HB9.out; clear hb9 hown9)
    | (refine step_ap_src0 w9 EU (by rfl) _ _ (by rfl) w.heap.size _ SW.length _ (by simp [Act.eval, Act.put]) HK9.out HB9.out.size (some ⟨w.heap.size, 0, none⟩) 1 1 [.int .u64 (IntKind.u64.wrap sv)] (by simp [Act.eval, Act.put]) (fun h => by cases h) rfl HC9.out (by simp [Value.oneCell']) (by omega) ?_; intro v10 w10 hown10 hg10 hb10 hfr10; obtain ⟨a10, c10, rfl⟩ := owns_slice hown10; have HT10 := Lib.hid (HB9.out.trans hb10); have HO10 := Lib.hid hown10; clear hg10 hb10 hown10 hfr10)
    | (refine step_ap_new0 w9 #[.int .u64 (IntKind.u64.wrap sv)] EU (by rfl) _ _ (by rfl) w.heap.size _ SW.length _ (by simp [Act.eval, Act.put]) HK9.out HB9.out.size 1 (by simp [Act.eval, Act.put]) (by rfl) (by simp [Value.oneCell']) (by omega) ?_; intro v10 w10 hown10 hg10 hb10 hfr10; obtain ⟨a10, c10, rfl⟩ := owns_slice hown10; have HT10 := Lib.hid (HB9.out.trans hb10); have HO10 := Lib.hid hown10; clear hg10 hb10 hown10 hfr10)
    | fail)
  all_goals
    go_wp2
    go_ret
    refine ⟨_, rfl, ?_, HT10.out⟩
    rw [HLE.out, HL.out, u64s_append]
    exact HO10.out
end Go.Proofs.YtdjooacjjnjfmaaGreat
end

-- The key of a state of the search: what was done, how the model is, as a string.
section
namespace Go.Proofs.YtdjooacjjnjfmaaGreat
set_option linter.unusedVariables false
set_option linter.unusedSimpArgs false
set_option maxRecDepth 20000
open Go.RowKit Go.Proofs.YtdjooacjjnjfmaaGreatMem Go.Proofs.YtdjooacjjnjfmaaGreatMapK

def u8s (l : List Int) : List Value := l.map (Value.int .u8)
theorem u8s_append (a b : List Int) : u8s (a ++ b) = u8s a ++ u8s b := by simp [u8s]
theorem EB : ElT Tryz.prog 140 5 (.int .u8 0) 1 := ⟨Tryz.underlying140, ⟨1, by kernel_rfl, by omega⟩, rfl, by omega⟩
/-- So many bytes off. -/
def shN (n : Int) : Nat → Int
  | 0 => n
  | j + 1 => shN n j / 256
theorem shN_bd {n : Int} (h : W64 n) : ∀ j, W64 (shN n j)
  | 0 => h
  | j + 1 => by
    have h1 := shN_bd h j
    show W64 (shN n j / 256)
    unfold W64 at *
    omega
theorem byt_take (n : Int) {j : Nat} (h : j < 8) : (byt n).take (j + 1) = (byt n).take j ++ [shN n j % 256] := by
  match j, h with
  | 0, _ => rfl
  | 1, _ => rfl
  | 2, _ => rfl
  | 3, _ => rfl
  | 4, _ => rfl
  | 5, _ => rfl
  | 6, _ => rfl
  | 7, _ => rfl
theorem byt_take8 (n : Int) : (byt n).take 8 = byt n := rfl
theorem byts_length (l : List Int) : (l.flatMap byt).length = l.length * 8 := by
  induction l with
  | nil => rfl
  | cons a l ih => rw [List.flatMap_cons, List.length_append, ih]; simp [byt]; omega
def nthW (l : List Int) (k : Nat) : Int := l.getD k 0
theorem nthW_some {l : List Int} {k : Nat} (h : k < l.length) : l[k]? = some (nthW l k) := by unfold nthW; rw [List.getD_eq_getElem?_getD, List.getElem?_eq_getElem h]; rfl
theorem byts_take (l : List Int) {k : Nat} (h : k < l.length) : (l.take (k + 1)).flatMap byt = (l.take k).flatMap byt ++ byt (nthW l k) := by
  rw [List.take_add_one, nthW_some h, List.flatMap_append]; simp
set_option maxHeartbeats 4000000 in
theorem key_any (b : Nat) (c : Cfg) (m : MdS) (F : Nat → Prop) (done : Int) (w : World) (h : MdAt w b c m.s m.served F) (ok : m.s.Ok) (hd : W64 done) (hn : m.s.fs.length ≤ 1000) :
    Calls Tryz.prog 76 #[.int .u64 done, .pointer (some ⟨b, 0, none⟩)] w fun e w' => e = .returned (.string (strOfNums (keyB done m))) ∧ Below w.heap.size w w' := by
  have hK : ∀ w', Below w.heap.size w w' → Calls Tryz.prog 104 #[.pointer (some ⟨b, 0, none⟩)] w' (RetRow w' 22 1 (mdW m).length (u64s (mdW m))) := fun w' hb => keyMd_any b c m F w' (h.below hb) ok (by omega)
  have HK := Lib.hid hK
  have hl : (mdW m).length ≤ 30003 := by rw [mdW_length]; have := sfW_length ok; omega
  have hw : ∀ a ∈ done :: mdW m, W64 a := fun a ha => by
    rcases List.mem_cons.1 ha with rfl | ha
    · exact hd
    · exact mdW_w64 ok a ha
  have HW := Lib.hid hw
  have hKB : keyB done m = (done :: mdW m).flatMap byt := rfl
  rw [hKB]
  have hlen : (done :: mdW m).length = 1 + (mdW m).length := by simp; omega
  have HLEN := Lib.hid hlen
  have hu : u64s (done :: mdW m) = #[.int .u64 done].toList ++ u64s (mdW m) := rfl
  have HU := Lib.hid hu
  clear hK hw hKB hlen hu h hd
  generalize hWS : done :: mdW m = WS at *
  generalize mdW m = MW at *
  have hrow : (w.alloc (.cells #[.int .u64 done] 22)).ownsRow w.heap.size 22 1 (.slice (some ⟨w.heap.size, 0, none⟩) 1 1) 1 [.int .u64 done] := by
    have := World.ownsRow_lit (e := 22) (size := 1) (base := w.heap.size) w #[.int .u64 done] 1 (Nat.le_refl _) (by unfold maxLen; omega) (by simp)
    simpa using this
  have hb1 := below1 w (.cells #[.int .u64 done] 22)
  have HROW := Lib.hid hrow
  have HB1 := Lib.hid hb1
  clear hWS hrow hb1
  go_enter Tryz.func76, Tryz.ntmps76
  go_wp2_with fail
  refine (HK.out _ HB1.out).mono ?_
  rintro e w1 ⟨v1, rfl, hown1, hb2⟩
  obtain ⟨a1, c1, rfl⟩ := owns_slice hown1
  have HO1 := Lib.hid hown1
  have HR1 := Lib.hid (owns_below (B := 0) HROW.out hb2)
  have HB2 := Lib.hid (HB1.out.trans (hb2.mono HB1.out.size))
  clear hown1 hb2
  have hL2 : 1 + MW.length = WS.length := by rw [HLEN.out]
  go_wp2_with ((at_builtin; refine ap_src w1 EU rfl _ _ rfl w.heap.size _ 1 _ rfl HR1.out HB2.out.size a1 MW.length c1 (u64s MW) rfl (fun h => (owns_cap HO1.out).2.2.2 h) (by rw [u64s_length, Nat.mul_one]) (fun j u hu => by obtain ⟨g, h1, -, -, h2⟩ := owns_at HO1.out hu; exact ⟨g, 0, h1, h2⟩) (u64s_one _) (by omega) ?_; intro v2 w2 hown2 hg2 hb2 hfr2; obtain ⟨a2, c2, rfl⟩ := owns_slice hown2; rw [hL2] at hown2 ⊢))
  have hrd2 : RdS w2 a2 WS.length c2 1 (u64s WS) := by
    have h1 := owns_rdS hown2 (fun u hu => by rw [← HU.out] at hu; exact u64s_one _ u hu)
    rw [← HU.out] at h1
    exact h1
  have HRD := Lib.hid hrd2
  have HB3 := Lib.hid (HB2.out.trans hb2)
  have hWl : WS.length ≤ 30004 := by omega
  clear hown2 hg2 hb2 hfr2 hL2 hrd2 HR1 HO1 HU HLEN HROW
  generalize hn2 : WS.length = n at *
  have HN := Lib.hid hn2
  clear hn2
  go_wp2_with fail
  go_loopw [5, 7, 14, 18] (fun v5 _ v14 _ wr => ∃ k : Nat, k ≤ n ∧ v14 = .int .i64 k ∧ wr.ownsRow w2.heap.size 5 1 v5 (k * 8) (u8s ((WS.take k).flatMap byt)) ∧ Below w2.heap.size w2 wr) (fun _ _ v14 _ _ => n - (intOf v14).toNat)
  case atStart => exact ⟨0, Nat.zero_le _, rfl, owns_nil _ _ _ _, Below.refl _ _⟩
  case round =>
    obtain ⟨k, hk, rfl, hown, hbr⟩ := hrel
    by_cases hl : k < n
    · have i1 : (k : Int) < (n : Int) := by omega
      have hkl : k < WS.length := by rw [HN.out]; exact hl
      obtain ⟨b0, o0, rfl, hlt0, hc0⟩ := (HRD.out.below hbr).at_ k (.int .u64 (nthW WS k)) (by unfold u64s; rw [List.getElem?_map, nthW_some hkl]; rfl)
      have hw64 := HW.out (nthW WS k) (List.mem_of_getElem? (nthW_some hkl))
      have HE := Lib.hid (byts_take WS hkl)
      have HOWN := Lib.hid hown
      have HBR := Lib.hid hbr
      clear hown hbr
      generalize nthW WS k = z at *
      go_wp2_with fail
      go_loopw [5, 7, 18] (fun v5 v7 v18 wr => ∃ j : Nat, j ≤ 8 ∧ v18 = .int .i64 j ∧ v7 = .int .u64 (shN z j) ∧ wr.ownsRow w2.heap.size 5 1 v5 (k * 8 + j) (u8s ((WS.take k).flatMap byt ++ (byt z).take j)) ∧ Below w2.heap.size w2 wr) (fun _ _ v18 _ => 8 - (intOf v18).toNat)
      case atStart => exact ⟨0, Nat.zero_le _, rfl, rfl, by simpa using HOWN.out, HBR.out⟩
      case round =>
        obtain ⟨j, hj, rfl, rfl, hown, hbr⟩ := hrel
        by_cases hjl : j < 8
        · have i2 : (j : Int) < 8 := by omega
          have hbd := shN_bd hw64 j
          have HBT := Lib.hid (byt_take z hjl)
          have HOWN := Lib.hid hown
          have hszr := hbr.size
          clear hown
          go_wp2_with ((at_builtin; refine ap_new wr #[.int .u8 (shN z j % 256)] EB rfl _ _ rfl w2.heap.size _ (k * 8 + j) _ rfl HOWN.out hszr 1 rfl rfl (by simp [Value.oneCell']) (by omega) ?_; intro v3 w3 hown3 hg3 hb3 hfr3))
          go_roundw
          case rel => exact ⟨j + 1, by omega, by go_num, rfl, by rw [HBT.out, ← List.append_assoc, u8s_append]; exact hown3, hbr.trans hb3⟩
          case measure => simp [intOf]; omega
        · obtain rfl : j = 8 := by omega
          have HOWN := Lib.hid hown
          clear hown
          go_wp2
          go_roundw
          case rel => exact ⟨k + 1, by omega, by go_num, by rw [HE.out, show (k + 1) * 8 = k * 8 + 8 by omega]; exact HOWN.out, hbr⟩
          case measure => simp [intOf]; omega
    · obtain rfl : k = n := by omega
      have hT : WS.take k = WS := List.take_of_length_le (by rw [HN.out]; exact Nat.le_refl _)
      rw [hT] at hown
      obtain ⟨a3, c3, rfl⟩ := owns_slice hown
      have hcv : ∀ dst, Tryz.prog.underlying dst = some .string → (convert 140 dst (.slice a3 (k * 8) c3)).run Tryz.prog wr = .ok (.string (strOfNums (WS.flatMap byt))) wr := by
        have hlb := byts_length WS
        rw [HN.out] at hlb
        cases a3 with
        | none =>
          have h0 := (owns_cap hown).2.2.2 rfl
          have hz : WS.flatMap byt = [] := List.eq_nil_of_length_eq_zero (by omega)
          rw [hz]
          exact run_convert_bytes_nil wr 140 5 Tryz.underlying140 Tryz.underlying5 _ _
        | some ad =>
          obtain ⟨g, cur, hv, -⟩ : ∃ g cur, some ad = some ⟨g, 0, none⟩ ∧ wr.heap[g]? = some (.cells cur 5 (0, 0)) := by
            rcases hown.2 with ⟨hv, _⟩ | ⟨g, cap, cur, hv, _, hh, _⟩
            · cases hv
            · simp only [Value.slice.injEq] at hv
              exact ⟨g, cur, hv.1, hh⟩
          cases hv
          refine run_convert_bytes_arg wr 140 5 Tryz.underlying140 Tryz.underlying5 g 0 (k * 8) c3 (WS.flatMap byt) hlb fun i hi => ?_
          have hu : (u8s (WS.flatMap byt))[i]? = some (.int .u8 ((WS.flatMap byt).getD i 0)) := by
            unfold u8s
            rw [List.getElem?_map, List.getElem?_eq_getElem (by omega), List.getD_eq_getElem?_getD, List.getElem?_eq_getElem (by omega)]
            rfl
          obtain ⟨g', e', -, -, hc⟩ := owns_at hown hu
          cases e'
          exact hc
      have hcv2 := hcv 9 Tryz.underlying9
      have HB4 := Lib.hid (HB3.out.trans (hbr.mono HB3.out.size))
      clear hown hcv
      go_wp2
      go_ret
      exact ⟨rfl, HB4.out⟩
end Go.Proofs.YtdjooacjjnjfmaaGreat
end
