/- The reference's join and order of clocks. -/
import Derived.Test.YtkhhjjjpbfnlmaaClk3
namespace Go.Proofs.Ytkhhjjjpbfnlmaa
set_option linter.unusedVariables false
set_option linter.unusedSimpArgs false
open Go.RowKit Go.Proofs.YtkhhjjjpbfnlmaaMem

theorem atC_lt {zs : List Int} {k : Nat} (h : k < zs.length) : atC zs k = nth zs k := by unfold atC; rw [if_pos (by omega)]; simp
theorem atC_ge {zs : List Int} {k : Nat} (h : zs.length ≤ k) : atC zs k = 0 := by unfold atC; rw [if_neg (by omega)]

set_option maxHeartbeats 1000000 in
theorem refJoin_any (a0 a1 : Option Addr) (n0 c0 n1 c1 : Nat) (x y : List Int) (w : World) (h0 : RdI w a0 n0 c0 x) (h1 : RdI w a1 n1 c1 y) (b0 : n0 ≤ 549755813888) (b1 : n1 ≤ 549755813888) :
    Calls Try.prog 44 #[.slice a0 n0 c0, .slice a1 n1 c1] w (RetRow w 3 1 (maxN n0 n1) (ints (joinC x y))) := by
  have E : Hid (joinC x y = row (more x y) (maxN n0 n1)) := by unfold Hid joinC; rw [h0.len, h1.len]
  have L0 := Lib.hid h0.len
  have L1 := Lib.hid h1.len
  have M : Hid (maxN n0 n1 = max n0 n1) := rfl
  have m0 : n0 ≤ maxN n0 n1 := by rw [M.out]; omega
  have m1 : n1 ≤ maxN n0 n1 := by rw [M.out]; omega
  have m2 : maxN n0 n1 ≤ 549755813888 := by rw [M.out]; omega
  go_enter Try.func44, Try.ntmps44
  go_wp2
  go_loopw [5, 6] (fun v i wr => ∃ k : Nat, k ≤ maxN n0 n1 ∧ i = .int .i64 k ∧ wr.ownsRow w.heap.size 3 1 v k (ints (row (more x y) k)) ∧ Below w.heap.size w wr) (fun _ i _ => maxN n0 n1 - (intOf i).toNat)
  case atStart => exact ⟨0, Nat.zero_le _, rfl, World.ownsRow_nil _ _ _ _, Below.refl _ _⟩
  case round =>
    obtain ⟨k, hk, rfl, hown, hbr⟩ := hrel
    have hbase : w.heap.size ≤ wr.heap.size := hbr.size
    have hn2 : k + 1 ≤ 1099511627776 := by omega
    by_cases l0 : k < n0
    · obtain ⟨b0', o0, rfl, hlt0, hc0⟩ := h0.at_ k l0
      by_cases l1 : k < n1
      · obtain ⟨b1', o1, rfl, hlt1, hc1⟩ := h1.at_ k l1
        have hv : more x y k = if nth x k < nth y k then nth y k else nth x k := by
          unfold more; rw [atC_lt (by rw [L0.out]; exact l0), atC_lt (by rw [L1.out]; exact l1)]; split <;> omega
        have hcases : (nth x k < nth y k ∧ more x y k = nth y k) ∨ (¬ nth x k < nth y k ∧ more x y k = nth x k) := by
          rw [hv]; split <;> omega
        clear hv
        rcases hcases with ⟨hlt, hv⟩ | ⟨hlt, hv⟩
        all_goals
          have V := Lib.hid hv
          clear hv
          go_wp2_with fail
          all_goals
            go_region_held3 (fun w' => Below w.heap.size w w' ∧ (∀ b o, b < w.heap.size → w'.cell? ⟨b, o, none⟩ = w.cell? ⟨b, o, none⟩)) (first | exact hs_refl hbr.drew | exact hs_refl (hbr.alloc hbase _).drew | exact hs_refl (hbr.trans hb3))
              (first | (refine step_ap_new wr _ EI (by rfl) _ _ (by rfl) w.heap.size _ k _ (by rfl) hown hbase 1 (by rfl) (by rfl) (one1 rfl) hn2 ?_; intro v' w3 hown3 hg3 hb3 hfr3))
            go_wp2
            go_roundw
            case rel => exact ⟨k + 1, by omega, by go_num, by rw [row_snoc, ints_append, V.out]; first | exact hown3 | (rw [if_neg (by omega)] at hown3; exact hown3), hbr.trans hb3⟩
            case measure => simp [intOf]; omega
      · have hv : more x y k = max (nth x k) 0 := by
          unfold more; rw [atC_lt (by rw [L0.out]; exact l0), atC_ge (by rw [L1.out]; omega)]
        have hcx : wr.cell? ⟨b0', o0 + k, none⟩ = some (.int .i64 (nth x k)) := (hbr.cell (p := ⟨b0', o0 + k, none⟩) hlt0).trans hc0
        have hcases : (nth x k < 0 ∧ more x y k = 0) ∨ (0 ≤ nth x k ∧ more x y k = nth x k) := by
          rw [hv]; omega
        clear hv
        rcases hcases with ⟨hlt, hv⟩ | ⟨hlt, hv⟩
        all_goals
          have V := Lib.hid hv
          clear hv
          go_wp2_with ((at_builtin; refine ap_new wr _ EI rfl _ _ rfl w.heap.size _ k _ rfl hown hbase 1 rfl rfl (one1 rfl) hn2 ?_; intro v' w3 hown3 hg3 hb3 hfr3))
          all_goals
            go_roundw
            case rel => exact ⟨k + 1, by omega, by go_num, by rw [row_snoc, ints_append, V.out]; exact hown3, hbr.trans hb3⟩
            case measure => simp [intOf]; omega
    · by_cases l1 : k < n1
      · obtain ⟨b1', o1, rfl, hlt1, hc1⟩ := h1.at_ k l1
        have hv : more x y k = max 0 (nth y k) := by
          unfold more; rw [atC_lt (zs := y) (by rw [L1.out]; exact l1), atC_ge (by rw [L0.out]; omega)]
        have hcy : wr.cell? ⟨b1', o1 + k, none⟩ = some (.int .i64 (nth y k)) := (hbr.cell (p := ⟨b1', o1 + k, none⟩) hlt1).trans hc1
        have hcases : (nth y k < 0 ∧ more x y k = 0) ∨ (0 ≤ nth y k ∧ more x y k = nth y k) := by
          rw [hv]; omega
        clear hv
        rcases hcases with ⟨hlt, hv⟩ | ⟨hlt, hv⟩
        all_goals
          have V := Lib.hid hv
          clear hv
          go_wp2_with ((at_builtin; refine ap_new wr _ EI rfl _ _ rfl w.heap.size _ k _ rfl hown hbase 1 rfl rfl (one1 rfl) hn2 ?_; intro v' w3 hown3 hg3 hb3 hfr3))
          all_goals
            go_roundw
            case rel => exact ⟨k + 1, by omega, by go_num, by rw [row_snoc, ints_append, V.out]; exact hown3, hbr.trans hb3⟩
            case measure => simp [intOf]; omega
      · have hkn : maxN n0 n1 = k := by have := M.out; unfold Hid at *; omega
        have KN := Lib.hid hkn
        clear hkn
        go_wp2
        all_goals
          go_ret
          exact ⟨_, rfl, by rw [E.out, KN.out]; exact hown, hbr⟩

theorem leq_iff (x y : List Int) : leqC x y = true ↔ ∀ i : Nat, i < maxN x.length y.length → atC x i ≤ atC y i := by
  unfold leqC hasI
  rw [Bool.not_eq_true', ← Bool.not_eq_true, List.contains_iff_mem]
  simp only [row, List.mem_map, List.mem_range, above]
  constructor
  · intro h i hi
    have := fun hh => h ⟨i, hi, hh⟩
    split at this
    · exact absurd rfl (this)
    · omega
  · rintro h ⟨i, hi, e⟩
    have := h i hi
    split at e
    · omega
    · cases e

set_option maxHeartbeats 400000 in
theorem refLeq_any (a0 a1 : Option Addr) (n0 c0 n1 c1 : Nat) (x y : List Int) (w : World) (h0 : RdI w a0 n0 c0 x) (h1 : RdI w a1 n1 c1 y) :
    Calls Try.prog 25 #[.slice a0 n0 c0, .slice a1 n1 c1] w fun e w' => e = .returned (.bool (leqC x y)) ∧ w = w' := by
  have L0 := Lib.hid h0.len
  have L1 := Lib.hid h1.len
  have s0 := h0.small
  have s1 := h1.small
  have M : Hid (maxN n0 n1 = max n0 n1) := rfl
  have m0 : n0 ≤ maxN n0 n1 := by rw [M.out]; omega
  have m1 : n1 ≤ maxN n0 n1 := by rw [M.out]; omega
  go_enter Try.func25, Try.ntmps25
  go_wp2
  go_loop [5] (fun i => ∃ k : Nat, k ≤ maxN n0 n1 ∧ i = .int .i64 k ∧ ∀ j : Nat, j < k → atC x j ≤ atC y j) (fun i => maxN n0 n1 - (intOf i).toNat)
  case atStart => exact ⟨0, Nat.zero_le _, rfl, fun j hj => absurd hj (Nat.not_lt_zero _)⟩
  case round =>
    obtain ⟨k, hk, rfl, hle⟩ := hrel
    have HL := Lib.hid hle
    clear hle
    by_cases hl : k < maxN n0 n1
    · have hor : k < n0 ∨ k < n1 := by have := M.out; unfold Hid at *; omega
      by_cases hv : atC y k < atC x k
      · have E : Hid (leqC x y = false) := by
          unfold Hid
          rw [← Bool.not_eq_true, leq_iff]
          intro hh
          have := hh k (by rw [L0.out, L1.out]; exact hl)
          omega
        rcases hor with hor | hor
        all_goals
          go_wp2_with (first
            | (go_at_call 48; (with_reducible refine (refAt_any a0 n0 c0 x _ _ h0).mono ?_); rintro e w' ⟨rfl, rfl⟩)
            | (go_at_call 48; (with_reducible refine (refAt_any a1 n1 c1 y _ _ h1).mono ?_); rintro e w' ⟨rfl, rfl⟩))
          all_goals
            go_ret
            exact ⟨by rw [E.out]; rfl, rfl⟩
      · have HV := Lib.hid hv
        rcases hor with hor | hor
        all_goals
          go_wp2_with (first
            | (go_at_call 48; (with_reducible refine (refAt_any a0 n0 c0 x _ _ h0).mono ?_); rintro e w' ⟨rfl, rfl⟩)
            | (go_at_call 48; (with_reducible refine (refAt_any a1 n1 c1 y _ _ h1).mono ?_); rintro e w' ⟨rfl, rfl⟩))
          all_goals
            go_round
            case rel => exact ⟨k + 1, by omega, by go_num, fun j hj => by
              by_cases hjk : j = k
              · subst hjk; have := HV.out; omega
              · exact HL.out j (by omega)⟩
            case measure => simp [intOf]; omega
    · have E : Hid (leqC x y = true) := by
        unfold Hid
        rw [leq_iff, L0.out, L1.out]
        intro i hi
        exact HL.out i (by omega)
      have hge0 : n0 ≤ k := by omega
      have hge1 : n1 ≤ k := by omega
      go_wp2
      all_goals
        go_ret
        exact ⟨by rw [E.out]; rfl, rfl⟩

end Go.Proofs.Ytkhhjjjpbfnlmaa
