import Derived.Test.YtfhllncdimfdpaaTagB
import Derived.Deep.RegionHeld3
namespace Go.Proofs.Ytfhllncdimfdpaa
set_option linter.unusedVariables false
set_option linter.unusedSimpArgs false
open Go.RowKit
theorem hs_refl {W w1 : World} (hb : Below W.heap.size W w1) : Below W.heap.size W w1 ∧ (∀ b o, b < W.heap.size → w1.cell? ⟨b, o, none⟩ = W.cell? ⟨b, o, none⟩) :=
  ⟨hb, fun b o h => hb.cell (p := ⟨b, o, none⟩) h⟩
theorem hs_step {W w1 w2 : World} (h : Below W.heap.size W w1 ∧ (∀ b o, b < W.heap.size → w1.cell? ⟨b, o, none⟩ = W.cell? ⟨b, o, none⟩)) (hb : Below w1.heap.size w1 w2) : Below W.heap.size W w2 ∧ (∀ b o, b < W.heap.size → w2.cell? ⟨b, o, none⟩ = W.cell? ⟨b, o, none⟩) :=
  hs_refl (h.1.trans (hb.mono h.1.size))

theorem ahead_irr (k i : Int) : aheadB k i k i = false := by unfold aheadB; simp
theorem ahead_swap {k i l j : Int} (h : ¬ (k = l ∧ i = j)) : aheadB l j k i = !aheadB k i l j := by
  unfold aheadB; rw [Bool.eq_iff_iff]; simp; omega
theorem ahead_trans {k i l j m n : Int} (h : aheadB k i l j = true) (h' : aheadB l j m n = true) : aheadB k i m n = true := by
  unfold aheadB at *; simp at *; omega


set_option maxHeartbeats 400000 in
theorem TagAhead_k_tt (k0 i0 k1 i1 k2 i2 : Int) (hx : aheadB k0 i0 k1 i1 = true) (hy : aheadB k1 i1 k2 i2 = true) (hz : aheadB k0 i0 k2 i2 = true) (hr : aheadB k1 i1 k0 i0 = false) (hdk : (k0 == k1) = false) (w : World) :
    Calls Try.prog 9 #[.agg #[.int .u64 k0, .int .i64 i0], .agg #[.int .u64 k1, .int .i64 i1], .agg #[.int .u64 k2, .int .i64 i2]] w fun e w' => e = .returned (.bool true) ∧ Below w.heap.size w w' := by
  have hi := ahead_irr k0 i0
  go_enter Try.func9, Try.ntmps9
  go_wp2_with fail
  obtain ⟨W, hW⟩ : ∃ W, W = ((w.alloc (.cells #[.int .u64 k0, .int .i64 i0] 35)).alloc (.cells #[.int .u64 k1, .int .i64 i1] 35)).alloc (.cells #[.int .u64 k2, .int .i64 i2] 35) := ⟨_, rfl⟩
  have hB : Below w.heap.size w W := by subst hW; repeat (first | exact Below.refl _ _ | refine Below.alloc ?_ (by simp; try omega) _)
  have f0 : W.cell? ⟨w.heap.size, 0, none⟩ = some (.int .u64 k0) := by subst hW; simp [go_sem]
  have f1 : W.cell? ⟨w.heap.size, 1, none⟩ = some (.int .i64 i0) := by subst hW; simp [go_sem]
  have f2 : W.cell? ⟨w.heap.size+1, 0, none⟩ = some (.int .u64 k1) := by subst hW; simp [go_sem]
  have f3 : W.cell? ⟨w.heap.size+1, 1, none⟩ = some (.int .i64 i1) := by subst hW; simp [go_sem]
  have f4 : W.cell? ⟨w.heap.size+1+1, 0, none⟩ = some (.int .u64 k2) := by subst hW; simp [go_sem]
  have f5 : W.cell? ⟨w.heap.size+1+1, 1, none⟩ = some (.int .i64 i2) := by subst hW; simp [go_sem]
  have hsz2 : w.heap.size + 1 + 1 < W.heap.size := by subst hW; simp
  have hsz1 : w.heap.size + 1 < W.heap.size := by omega
  have hsz0 : w.heap.size < W.heap.size := by omega
  rw [← hW]
  clear hW
  go_region_held3 (fun w' => Below W.heap.size W w' ∧ (∀ b o, b < W.heap.size → w'.cell? ⟨b, o, none⟩ = W.cell? ⟨b, o, none⟩)) (first | exact hs_refl ((Below.refl _ _).drew) | exact hs_step (by assumption) (by assumption))
    (first | (go_at_call 19; refine (ahead_any _ _ _ _ _).mono ?_; rintro e w' ⟨rfl, hb⟩))
  go_wp2_with (first
    | (go_at_call 10; refine (awake_any _).mono ?_; rintro e w1 ⟨rfl, hb1⟩; have hS := hs_step (by assumption) hb1; clear hb1)
    | (go_at_call 19; refine (ahead_any _ _ _ _ _).mono ?_; rintro e w1 ⟨rfl, hb1⟩; have hS := hs_step (by assumption) hb1; clear hb1)
    | (go_at_call 20; refine (refAhead_any _ _ _ _ _).mono ?_; rintro e w1 ⟨rfl, hb1⟩; have hS := hs_step (by assumption) hb1; clear hb1))
  go_ret
  exact ⟨rfl, hB.trans (hS.1.mono hB.size)⟩

set_option maxHeartbeats 400000 in
theorem TagAhead_k_tf (k0 i0 k1 i1 k2 i2 : Int) (hx : aheadB k0 i0 k1 i1 = true) (hy : aheadB k1 i1 k2 i2 = false) (hr : aheadB k1 i1 k0 i0 = false) (hdk : (k0 == k1) = false) (w : World) :
    Calls Try.prog 9 #[.agg #[.int .u64 k0, .int .i64 i0], .agg #[.int .u64 k1, .int .i64 i1], .agg #[.int .u64 k2, .int .i64 i2]] w fun e w' => e = .returned (.bool true) ∧ Below w.heap.size w w' := by
  have hi := ahead_irr k0 i0
  go_enter Try.func9, Try.ntmps9
  go_wp2_with fail
  obtain ⟨W, hW⟩ : ∃ W, W = ((w.alloc (.cells #[.int .u64 k0, .int .i64 i0] 35)).alloc (.cells #[.int .u64 k1, .int .i64 i1] 35)).alloc (.cells #[.int .u64 k2, .int .i64 i2] 35) := ⟨_, rfl⟩
  have hB : Below w.heap.size w W := by subst hW; repeat (first | exact Below.refl _ _ | refine Below.alloc ?_ (by simp; try omega) _)
  have f0 : W.cell? ⟨w.heap.size, 0, none⟩ = some (.int .u64 k0) := by subst hW; simp [go_sem]
  have f1 : W.cell? ⟨w.heap.size, 1, none⟩ = some (.int .i64 i0) := by subst hW; simp [go_sem]
  have f2 : W.cell? ⟨w.heap.size+1, 0, none⟩ = some (.int .u64 k1) := by subst hW; simp [go_sem]
  have f3 : W.cell? ⟨w.heap.size+1, 1, none⟩ = some (.int .i64 i1) := by subst hW; simp [go_sem]
  have f4 : W.cell? ⟨w.heap.size+1+1, 0, none⟩ = some (.int .u64 k2) := by subst hW; simp [go_sem]
  have f5 : W.cell? ⟨w.heap.size+1+1, 1, none⟩ = some (.int .i64 i2) := by subst hW; simp [go_sem]
  have hsz2 : w.heap.size + 1 + 1 < W.heap.size := by subst hW; simp
  have hsz1 : w.heap.size + 1 < W.heap.size := by omega
  have hsz0 : w.heap.size < W.heap.size := by omega
  rw [← hW]
  clear hW
  go_region_held3 (fun w' => Below W.heap.size W w' ∧ (∀ b o, b < W.heap.size → w'.cell? ⟨b, o, none⟩ = W.cell? ⟨b, o, none⟩)) (first | exact hs_refl ((Below.refl _ _).drew) | exact hs_step (by assumption) (by assumption))
    (first | (go_at_call 19; refine (ahead_any _ _ _ _ _).mono ?_; rintro e w' ⟨rfl, hb⟩))
  go_wp2_with (first
    | (go_at_call 10; refine (awake_any _).mono ?_; rintro e w1 ⟨rfl, hb1⟩; have hS := hs_step (by assumption) hb1; clear hb1)
    | (go_at_call 19; refine (ahead_any _ _ _ _ _).mono ?_; rintro e w1 ⟨rfl, hb1⟩; have hS := hs_step (by assumption) hb1; clear hb1)
    | (go_at_call 20; refine (refAhead_any _ _ _ _ _).mono ?_; rintro e w1 ⟨rfl, hb1⟩; have hS := hs_step (by assumption) hb1; clear hb1))
  go_ret
  exact ⟨rfl, hB.trans (hS.1.mono hB.size)⟩

set_option maxHeartbeats 400000 in
theorem TagAhead_k_f (k0 i0 k1 i1 k2 i2 : Int) (hx : aheadB k0 i0 k1 i1 = false) (hr : aheadB k1 i1 k0 i0 = true) (hdk : (k0 == k1) = false) (w : World) :
    Calls Try.prog 9 #[.agg #[.int .u64 k0, .int .i64 i0], .agg #[.int .u64 k1, .int .i64 i1], .agg #[.int .u64 k2, .int .i64 i2]] w fun e w' => e = .returned (.bool true) ∧ Below w.heap.size w w' := by
  have hi := ahead_irr k0 i0
  go_enter Try.func9, Try.ntmps9
  go_wp2_with fail
  obtain ⟨W, hW⟩ : ∃ W, W = ((w.alloc (.cells #[.int .u64 k0, .int .i64 i0] 35)).alloc (.cells #[.int .u64 k1, .int .i64 i1] 35)).alloc (.cells #[.int .u64 k2, .int .i64 i2] 35) := ⟨_, rfl⟩
  have hB : Below w.heap.size w W := by subst hW; repeat (first | exact Below.refl _ _ | refine Below.alloc ?_ (by simp; try omega) _)
  have f0 : W.cell? ⟨w.heap.size, 0, none⟩ = some (.int .u64 k0) := by subst hW; simp [go_sem]
  have f1 : W.cell? ⟨w.heap.size, 1, none⟩ = some (.int .i64 i0) := by subst hW; simp [go_sem]
  have f2 : W.cell? ⟨w.heap.size+1, 0, none⟩ = some (.int .u64 k1) := by subst hW; simp [go_sem]
  have f3 : W.cell? ⟨w.heap.size+1, 1, none⟩ = some (.int .i64 i1) := by subst hW; simp [go_sem]
  have f4 : W.cell? ⟨w.heap.size+1+1, 0, none⟩ = some (.int .u64 k2) := by subst hW; simp [go_sem]
  have f5 : W.cell? ⟨w.heap.size+1+1, 1, none⟩ = some (.int .i64 i2) := by subst hW; simp [go_sem]
  have hsz2 : w.heap.size + 1 + 1 < W.heap.size := by subst hW; simp
  have hsz1 : w.heap.size + 1 < W.heap.size := by omega
  have hsz0 : w.heap.size < W.heap.size := by omega
  rw [← hW]
  clear hW
  go_region_held3 (fun w' => Below W.heap.size W w' ∧ (∀ b o, b < W.heap.size → w'.cell? ⟨b, o, none⟩ = W.cell? ⟨b, o, none⟩)) (first | exact hs_refl ((Below.refl _ _).drew) | exact hs_step (by assumption) (by assumption))
    (first | (go_at_call 19; refine (ahead_any _ _ _ _ _).mono ?_; rintro e w' ⟨rfl, hb⟩))
  go_wp2_with (first
    | (go_at_call 10; refine (awake_any _).mono ?_; rintro e w1 ⟨rfl, hb1⟩; have hS := hs_step (by assumption) hb1; clear hb1)
    | (go_at_call 19; refine (ahead_any _ _ _ _ _).mono ?_; rintro e w1 ⟨rfl, hb1⟩; have hS := hs_step (by assumption) hb1; clear hb1)
    | (go_at_call 20; refine (refAhead_any _ _ _ _ _).mono ?_; rintro e w1 ⟨rfl, hb1⟩; have hS := hs_step (by assumption) hb1; clear hb1))
  go_ret
  exact ⟨rfl, hB.trans (hS.1.mono hB.size)⟩

set_option maxHeartbeats 400000 in
theorem TagAhead_i_tt (k0 i0 i1 k2 i2 : Int) (hx : aheadB k0 i0 k0 i1 = true) (hy : aheadB k0 i1 k2 i2 = true) (hz : aheadB k0 i0 k2 i2 = true) (hr : aheadB k0 i1 k0 i0 = false) (hdi : (i0 == i1) = false) (w : World) :
    Calls Try.prog 9 #[.agg #[.int .u64 k0, .int .i64 i0], .agg #[.int .u64 k0, .int .i64 i1], .agg #[.int .u64 k2, .int .i64 i2]] w fun e w' => e = .returned (.bool true) ∧ Below w.heap.size w w' := by
  have hi := ahead_irr k0 i0
  go_enter Try.func9, Try.ntmps9
  go_wp2_with fail
  obtain ⟨W, hW⟩ : ∃ W, W = ((w.alloc (.cells #[.int .u64 k0, .int .i64 i0] 35)).alloc (.cells #[.int .u64 k0, .int .i64 i1] 35)).alloc (.cells #[.int .u64 k2, .int .i64 i2] 35) := ⟨_, rfl⟩
  have hB : Below w.heap.size w W := by subst hW; repeat (first | exact Below.refl _ _ | refine Below.alloc ?_ (by simp; try omega) _)
  have f0 : W.cell? ⟨w.heap.size, 0, none⟩ = some (.int .u64 k0) := by subst hW; simp [go_sem]
  have f1 : W.cell? ⟨w.heap.size, 1, none⟩ = some (.int .i64 i0) := by subst hW; simp [go_sem]
  have f2 : W.cell? ⟨w.heap.size+1, 0, none⟩ = some (.int .u64 k0) := by subst hW; simp [go_sem]
  have f3 : W.cell? ⟨w.heap.size+1, 1, none⟩ = some (.int .i64 i1) := by subst hW; simp [go_sem]
  have f4 : W.cell? ⟨w.heap.size+1+1, 0, none⟩ = some (.int .u64 k2) := by subst hW; simp [go_sem]
  have f5 : W.cell? ⟨w.heap.size+1+1, 1, none⟩ = some (.int .i64 i2) := by subst hW; simp [go_sem]
  have hsz2 : w.heap.size + 1 + 1 < W.heap.size := by subst hW; simp
  have hsz1 : w.heap.size + 1 < W.heap.size := by omega
  have hsz0 : w.heap.size < W.heap.size := by omega
  rw [← hW]
  clear hW
  go_region_held3 (fun w' => Below W.heap.size W w' ∧ (∀ b o, b < W.heap.size → w'.cell? ⟨b, o, none⟩ = W.cell? ⟨b, o, none⟩)) (first | exact hs_refl ((Below.refl _ _).drew) | exact hs_step (by assumption) (by assumption))
    (first | (go_at_call 19; refine (ahead_any _ _ _ _ _).mono ?_; rintro e w' ⟨rfl, hb⟩))
  go_wp2_with (first
    | (go_at_call 10; refine (awake_any _).mono ?_; rintro e w1 ⟨rfl, hb1⟩; have hS := hs_step (by assumption) hb1; clear hb1)
    | (go_at_call 19; refine (ahead_any _ _ _ _ _).mono ?_; rintro e w1 ⟨rfl, hb1⟩; have hS := hs_step (by assumption) hb1; clear hb1)
    | (go_at_call 20; refine (refAhead_any _ _ _ _ _).mono ?_; rintro e w1 ⟨rfl, hb1⟩; have hS := hs_step (by assumption) hb1; clear hb1))
  go_ret
  exact ⟨rfl, hB.trans (hS.1.mono hB.size)⟩

set_option maxHeartbeats 400000 in
theorem TagAhead_i_tf (k0 i0 i1 k2 i2 : Int) (hx : aheadB k0 i0 k0 i1 = true) (hy : aheadB k0 i1 k2 i2 = false) (hr : aheadB k0 i1 k0 i0 = false) (hdi : (i0 == i1) = false) (w : World) :
    Calls Try.prog 9 #[.agg #[.int .u64 k0, .int .i64 i0], .agg #[.int .u64 k0, .int .i64 i1], .agg #[.int .u64 k2, .int .i64 i2]] w fun e w' => e = .returned (.bool true) ∧ Below w.heap.size w w' := by
  have hi := ahead_irr k0 i0
  go_enter Try.func9, Try.ntmps9
  go_wp2_with fail
  obtain ⟨W, hW⟩ : ∃ W, W = ((w.alloc (.cells #[.int .u64 k0, .int .i64 i0] 35)).alloc (.cells #[.int .u64 k0, .int .i64 i1] 35)).alloc (.cells #[.int .u64 k2, .int .i64 i2] 35) := ⟨_, rfl⟩
  have hB : Below w.heap.size w W := by subst hW; repeat (first | exact Below.refl _ _ | refine Below.alloc ?_ (by simp; try omega) _)
  have f0 : W.cell? ⟨w.heap.size, 0, none⟩ = some (.int .u64 k0) := by subst hW; simp [go_sem]
  have f1 : W.cell? ⟨w.heap.size, 1, none⟩ = some (.int .i64 i0) := by subst hW; simp [go_sem]
  have f2 : W.cell? ⟨w.heap.size+1, 0, none⟩ = some (.int .u64 k0) := by subst hW; simp [go_sem]
  have f3 : W.cell? ⟨w.heap.size+1, 1, none⟩ = some (.int .i64 i1) := by subst hW; simp [go_sem]
  have f4 : W.cell? ⟨w.heap.size+1+1, 0, none⟩ = some (.int .u64 k2) := by subst hW; simp [go_sem]
  have f5 : W.cell? ⟨w.heap.size+1+1, 1, none⟩ = some (.int .i64 i2) := by subst hW; simp [go_sem]
  have hsz2 : w.heap.size + 1 + 1 < W.heap.size := by subst hW; simp
  have hsz1 : w.heap.size + 1 < W.heap.size := by omega
  have hsz0 : w.heap.size < W.heap.size := by omega
  rw [← hW]
  clear hW
  go_region_held3 (fun w' => Below W.heap.size W w' ∧ (∀ b o, b < W.heap.size → w'.cell? ⟨b, o, none⟩ = W.cell? ⟨b, o, none⟩)) (first | exact hs_refl ((Below.refl _ _).drew) | exact hs_step (by assumption) (by assumption))
    (first | (go_at_call 19; refine (ahead_any _ _ _ _ _).mono ?_; rintro e w' ⟨rfl, hb⟩))
  go_wp2_with (first
    | (go_at_call 10; refine (awake_any _).mono ?_; rintro e w1 ⟨rfl, hb1⟩; have hS := hs_step (by assumption) hb1; clear hb1)
    | (go_at_call 19; refine (ahead_any _ _ _ _ _).mono ?_; rintro e w1 ⟨rfl, hb1⟩; have hS := hs_step (by assumption) hb1; clear hb1)
    | (go_at_call 20; refine (refAhead_any _ _ _ _ _).mono ?_; rintro e w1 ⟨rfl, hb1⟩; have hS := hs_step (by assumption) hb1; clear hb1))
  go_ret
  exact ⟨rfl, hB.trans (hS.1.mono hB.size)⟩

set_option maxHeartbeats 400000 in
theorem TagAhead_i_f (k0 i0 i1 k2 i2 : Int) (hx : aheadB k0 i0 k0 i1 = false) (hr : aheadB k0 i1 k0 i0 = true) (hdi : (i0 == i1) = false) (w : World) :
    Calls Try.prog 9 #[.agg #[.int .u64 k0, .int .i64 i0], .agg #[.int .u64 k0, .int .i64 i1], .agg #[.int .u64 k2, .int .i64 i2]] w fun e w' => e = .returned (.bool true) ∧ Below w.heap.size w w' := by
  have hi := ahead_irr k0 i0
  go_enter Try.func9, Try.ntmps9
  go_wp2_with fail
  obtain ⟨W, hW⟩ : ∃ W, W = ((w.alloc (.cells #[.int .u64 k0, .int .i64 i0] 35)).alloc (.cells #[.int .u64 k0, .int .i64 i1] 35)).alloc (.cells #[.int .u64 k2, .int .i64 i2] 35) := ⟨_, rfl⟩
  have hB : Below w.heap.size w W := by subst hW; repeat (first | exact Below.refl _ _ | refine Below.alloc ?_ (by simp; try omega) _)
  have f0 : W.cell? ⟨w.heap.size, 0, none⟩ = some (.int .u64 k0) := by subst hW; simp [go_sem]
  have f1 : W.cell? ⟨w.heap.size, 1, none⟩ = some (.int .i64 i0) := by subst hW; simp [go_sem]
  have f2 : W.cell? ⟨w.heap.size+1, 0, none⟩ = some (.int .u64 k0) := by subst hW; simp [go_sem]
  have f3 : W.cell? ⟨w.heap.size+1, 1, none⟩ = some (.int .i64 i1) := by subst hW; simp [go_sem]
  have f4 : W.cell? ⟨w.heap.size+1+1, 0, none⟩ = some (.int .u64 k2) := by subst hW; simp [go_sem]
  have f5 : W.cell? ⟨w.heap.size+1+1, 1, none⟩ = some (.int .i64 i2) := by subst hW; simp [go_sem]
  have hsz2 : w.heap.size + 1 + 1 < W.heap.size := by subst hW; simp
  have hsz1 : w.heap.size + 1 < W.heap.size := by omega
  have hsz0 : w.heap.size < W.heap.size := by omega
  rw [← hW]
  clear hW
  go_region_held3 (fun w' => Below W.heap.size W w' ∧ (∀ b o, b < W.heap.size → w'.cell? ⟨b, o, none⟩ = W.cell? ⟨b, o, none⟩)) (first | exact hs_refl ((Below.refl _ _).drew) | exact hs_step (by assumption) (by assumption))
    (first | (go_at_call 19; refine (ahead_any _ _ _ _ _).mono ?_; rintro e w' ⟨rfl, hb⟩))
  go_wp2_with (first
    | (go_at_call 10; refine (awake_any _).mono ?_; rintro e w1 ⟨rfl, hb1⟩; have hS := hs_step (by assumption) hb1; clear hb1)
    | (go_at_call 19; refine (ahead_any _ _ _ _ _).mono ?_; rintro e w1 ⟨rfl, hb1⟩; have hS := hs_step (by assumption) hb1; clear hb1)
    | (go_at_call 20; refine (refAhead_any _ _ _ _ _).mono ?_; rintro e w1 ⟨rfl, hb1⟩; have hS := hs_step (by assumption) hb1; clear hb1))
  go_ret
  exact ⟨rfl, hB.trans (hS.1.mono hB.size)⟩

set_option maxHeartbeats 400000 in
theorem TagAhead_same (k0 i0 k2 i2 : Int)  (w : World) :
    Calls Try.prog 9 #[.agg #[.int .u64 k0, .int .i64 i0], .agg #[.int .u64 k0, .int .i64 i0], .agg #[.int .u64 k2, .int .i64 i2]] w fun e w' => e = .returned (.bool true) ∧ Below w.heap.size w w' := by
  have hi := ahead_irr k0 i0
  go_enter Try.func9, Try.ntmps9
  go_wp2_with fail
  obtain ⟨W, hW⟩ : ∃ W, W = ((w.alloc (.cells #[.int .u64 k0, .int .i64 i0] 35)).alloc (.cells #[.int .u64 k0, .int .i64 i0] 35)).alloc (.cells #[.int .u64 k2, .int .i64 i2] 35) := ⟨_, rfl⟩
  have hB : Below w.heap.size w W := by subst hW; repeat (first | exact Below.refl _ _ | refine Below.alloc ?_ (by simp; try omega) _)
  have f0 : W.cell? ⟨w.heap.size, 0, none⟩ = some (.int .u64 k0) := by subst hW; simp [go_sem]
  have f1 : W.cell? ⟨w.heap.size, 1, none⟩ = some (.int .i64 i0) := by subst hW; simp [go_sem]
  have f2 : W.cell? ⟨w.heap.size+1, 0, none⟩ = some (.int .u64 k0) := by subst hW; simp [go_sem]
  have f3 : W.cell? ⟨w.heap.size+1, 1, none⟩ = some (.int .i64 i0) := by subst hW; simp [go_sem]
  have f4 : W.cell? ⟨w.heap.size+1+1, 0, none⟩ = some (.int .u64 k2) := by subst hW; simp [go_sem]
  have f5 : W.cell? ⟨w.heap.size+1+1, 1, none⟩ = some (.int .i64 i2) := by subst hW; simp [go_sem]
  have hsz2 : w.heap.size + 1 + 1 < W.heap.size := by subst hW; simp
  have hsz1 : w.heap.size + 1 < W.heap.size := by omega
  have hsz0 : w.heap.size < W.heap.size := by omega
  rw [← hW]
  clear hW
  go_region_held3 (fun w' => Below W.heap.size W w' ∧ (∀ b o, b < W.heap.size → w'.cell? ⟨b, o, none⟩ = W.cell? ⟨b, o, none⟩)) (first | exact hs_refl ((Below.refl _ _).drew) | exact hs_step (by assumption) (by assumption))
    (first | (go_at_call 19; refine (ahead_any _ _ _ _ _).mono ?_; rintro e w' ⟨rfl, hb⟩))
  go_wp2_with (first
    | (go_at_call 10; refine (awake_any _).mono ?_; rintro e w1 ⟨rfl, hb1⟩; have hS := hs_step (by assumption) hb1; clear hb1)
    | (go_at_call 19; refine (ahead_any _ _ _ _ _).mono ?_; rintro e w1 ⟨rfl, hb1⟩; have hS := hs_step (by assumption) hb1; clear hb1)
    | (go_at_call 20; refine (refAhead_any _ _ _ _ _).mono ?_; rintro e w1 ⟨rfl, hb1⟩; have hS := hs_step (by assumption) hb1; clear hb1))
  go_ret
  exact ⟨rfl, hB.trans (hS.1.mono hB.size)⟩

theorem TagAhead_walk (k0 i0 k1 i1 k2 i2 : Int) (w : World) :
    Calls Try.prog 9 #[.agg #[.int .u64 k0, .int .i64 i0], .agg #[.int .u64 k1, .int .i64 i1], .agg #[.int .u64 k2, .int .i64 i2]] w fun e w' => e = .returned (.bool true) ∧ Below w.heap.size w w' := by
  by_cases hk : k0 = k1
  · subst hk
    by_cases hi : i0 = i1
    · subst hi
      exact TagAhead_same k0 i0 k2 i2 w
    · have hr := ahead_swap (k := k0) (i := i0) (l := k0) (j := i1) (by simp [hi])
      have hd : (i0 == i1) = false := by simpa using hi
      cases hx : aheadB k0 i0 k0 i1
      · exact TagAhead_i_f k0 i0 i1 k2 i2 hx (by rw [hr, hx]; rfl) hd w
      · cases hy : aheadB k0 i1 k2 i2
        · exact TagAhead_i_tf k0 i0 i1 k2 i2 hx hy (by rw [hr, hx]; rfl) hd w
        · exact TagAhead_i_tt k0 i0 i1 k2 i2 hx hy (ahead_trans hx hy) (by rw [hr, hx]; rfl) hd w
  · have hr := ahead_swap (k := k0) (i := i0) (l := k1) (j := i1) (by simp [hk])
    have hd : (k0 == k1) = false := by simpa using hk
    cases hx : aheadB k0 i0 k1 i1
    · exact TagAhead_k_f k0 i0 k1 i1 k2 i2 hx (by rw [hr, hx]; rfl) hd w
    · cases hy : aheadB k1 i1 k2 i2
      · exact TagAhead_k_tf k0 i0 k1 i1 k2 i2 hx hy (by rw [hr, hx]; rfl) hd w
      · exact TagAhead_k_tt k0 i0 k1 i1 k2 i2 hx hy (ahead_trans hx hy) (by rw [hr, hx]; rfl) hd w
end Go.Proofs.Ytfhllncdimfdpaa
