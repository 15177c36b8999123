/- The functions of package clock and of its reference, each by what it answers. -/
import Derived.Test.YtkhhjjjpbfnlmaaRows
import Derived.Test.YtkhhjjjpbfnlmaaMem
import Derived.WalkLawsBesides
namespace Go.Proofs.Ytkhhjjjpbfnlmaa
set_option linter.unusedVariables false
set_option linter.unusedSimpArgs false
open Go.RowKit Go.Proofs.YtkhhjjjpbfnlmaaMem

/-- A worker's number. -/
def atC (zs : List Int) (i : Int) : Int := if 0 ≤ i ∧ i < zs.length then nth zs i.toNat else 0

set_option maxHeartbeats 400000 in
theorem at_any (ao : Option Addr) (n cap : Nat) (zs : List Int) (i : Int) (w : World) (h : RdI w ao n cap zs) :
    Calls Try.prog 60 #[.slice ao n cap, .int .i64 i] w fun e w' => e = .returned (.int .i64 (atC zs i)) ∧ w = w' := by
  have hn := h.small
  have HL := Lib.hid h.len
  by_cases h0 : i < 0
  · have E : Hid (atC zs i = 0) := by unfold Hid atC; rw [if_neg (by omega)]
    go_enter Try.func60, Try.ntmps60
    go_wp2
    go_ret
    exact ⟨by rw [E.out]; rfl, rfl⟩
  · by_cases h1 : i < n
    · obtain ⟨k, rfl⟩ := Int.eq_ofNat_of_zero_le (show 0 ≤ i by omega)
      obtain ⟨b, off, rfl, hb, hc⟩ := h.at_ k (by omega)
      have E : Hid (atC zs k = nth zs k) := by unfold Hid atC; rw [if_pos (by rw [HL.out]; omega)]; simp
      go_enter Try.func60, Try.ntmps60
      go_wp2
      go_ret
      exact ⟨by rw [E.out]; rfl, rfl⟩
    · have E : Hid (atC zs i = 0) := by unfold Hid atC; rw [if_neg (by rw [HL.out]; omega)]
      go_enter Try.func60, Try.ntmps60
      go_wp2
      go_ret
      exact ⟨by rw [E.out]; rfl, rfl⟩
set_option maxHeartbeats 400000 in
theorem refAt_any (ao : Option Addr) (n cap : Nat) (zs : List Int) (i : Int) (w : World) (h : RdI w ao n cap zs) :
    Calls Try.prog 48 #[.slice ao n cap, .int .i64 i] w fun e w' => e = .returned (.int .i64 (atC zs i)) ∧ w = w' := by
  have hn := h.small
  have HL := Lib.hid h.len
  by_cases h0 : i < 0
  · have E : Hid (atC zs i = 0) := by unfold Hid atC; rw [if_neg (by omega)]
    go_enter Try.func48, Try.ntmps48
    go_wp2
    go_ret
    exact ⟨by rw [E.out]; rfl, rfl⟩
  · by_cases h1 : i < n
    · obtain ⟨k, rfl⟩ := Int.eq_ofNat_of_zero_le (show 0 ≤ i by omega)
      obtain ⟨b, off, rfl, hb, hc⟩ := h.at_ k (by omega)
      have E : Hid (atC zs k = nth zs k) := by unfold Hid atC; rw [if_pos (by rw [HL.out]; omega)]; simp
      go_enter Try.func48, Try.ntmps48
      go_wp2
      go_ret
      exact ⟨by rw [E.out]; rfl, rfl⟩
    · have E : Hid (atC zs i = 0) := by unfold Hid atC; rw [if_neg (by rw [HL.out]; omega)]
      go_enter Try.func48, Try.ntmps48
      go_wp2
      go_ret
      exact ⟨by rw [E.out]; rfl, rfl⟩

/-- Two clocks' numbers, held together, for each worker. -/
def more (a b : List Int) (i : Int) : Int := max (atC a i) (atC b i)
def above (a b : List Int) (i : Int) : Int := if atC b i < atC a i then 1 else 0

theorem more_cases (x y : List Int) (i : Int) : (atC x i < atC y i ∧ more x y i = atC y i) ∨ (atC y i ≤ atC x i ∧ more x y i = atC x i) := by unfold more; omega
theorem above_cases (x y : List Int) (i : Int) : (atC y i < atC x i ∧ above x y i = 1) ∨ (atC x i ≤ atC y i ∧ above x y i = 0) := by unfold above; split <;> omega

set_option maxHeartbeats 400000 in
theorem more_any (a0 a1 : Option Addr) (n0 c0 n1 c1 : Nat) (x y : List Int) (i : Int) (w : World) (h0 : RdI w a0 n0 c0 x) (h1 : RdI w a1 n1 c1 y) :
    Calls Try.prog 56 #[.agg #[.slice a0 n0 c0, .slice a1 n1 c1], .int .i64 i] w fun e w' => e = .returned (.int .i64 (more x y i)) ∧ Below w.heap.size w w' := by
  rcases more_cases x y i with ⟨hlt, he⟩ | ⟨hlt, he⟩
  all_goals
    have E := Lib.hid he
    clear he
    go_enter Try.func56, Try.ntmps56
    go_wp2_with fail
    obtain ⟨W, hW⟩ : ∃ W, W = w.alloc (.cells #[.slice a0 n0 c0, .slice a1 n1 c1] 69) := ⟨_, rfl⟩
    have hB : Below w.heap.size w W := by subst hW; exact (Below.refl _ _).alloc (Nat.le_refl _) _
    have f0 : W.cell? ⟨w.heap.size, 0, none⟩ = some (.slice a0 n0 c0) := by subst hW; simp [go_sem]
    have f1 : W.cell? ⟨w.heap.size, 1, none⟩ = some (.slice a1 n1 c1) := by subst hW; simp [go_sem]
    have hsz : w.heap.size < W.heap.size := by subst hW; simp
    have g0 := RdI.below (B := 0) h0 hB
    have g1 := RdI.below (B := 0) h1 hB
    rw [← hW]
    clear hW
    go_region_held3 (fun w' => Below W.heap.size W w' ∧ (∀ b o, b < W.heap.size → w'.cell? ⟨b, o, none⟩ = W.cell? ⟨b, o, none⟩)) (first | exact hs_refl ((Below.refl _ _).drew) | exact hs_step (by assumption) (by assumption))
      (first
        | (go_at_call 60; (with_reducible refine (at_any a0 n0 c0 x _ _ (g0.held (by assumption))).mono ?_); rintro e w' ⟨rfl, rfl⟩)
        | (go_at_call 60; (with_reducible refine (at_any a1 n1 c1 y _ _ (g1.held (by assumption))).mono ?_); rintro e w' ⟨rfl, rfl⟩))
    go_wp2
    go_ret
    exact ⟨by rw [E.out]; rfl, below_step hB (Below.refl _ _).drew⟩
set_option maxHeartbeats 400000 in
theorem above_any (a0 a1 : Option Addr) (n0 c0 n1 c1 : Nat) (x y : List Int) (i : Int) (w : World) (h0 : RdI w a0 n0 c0 x) (h1 : RdI w a1 n1 c1 y) :
    Calls Try.prog 54 #[.agg #[.slice a0 n0 c0, .slice a1 n1 c1], .int .i64 i] w fun e w' => e = .returned (.int .i64 (above x y i)) ∧ Below w.heap.size w w' := by
  rcases above_cases x y i with ⟨hlt, he⟩ | ⟨hlt, he⟩
  all_goals
    have E := Lib.hid he
    clear he
    go_enter Try.func54, Try.ntmps54
    go_wp2_with fail
    obtain ⟨W, hW⟩ : ∃ W, W = w.alloc (.cells #[.slice a0 n0 c0, .slice a1 n1 c1] 69) := ⟨_, rfl⟩
    have hB : Below w.heap.size w W := by subst hW; exact (Below.refl _ _).alloc (Nat.le_refl _) _
    have f0 : W.cell? ⟨w.heap.size, 0, none⟩ = some (.slice a0 n0 c0) := by subst hW; simp [go_sem]
    have f1 : W.cell? ⟨w.heap.size, 1, none⟩ = some (.slice a1 n1 c1) := by subst hW; simp [go_sem]
    have hsz : w.heap.size < W.heap.size := by subst hW; simp
    have g0 := RdI.below (B := 0) h0 hB
    have g1 := RdI.below (B := 0) h1 hB
    rw [← hW]
    clear hW
    go_region_held3 (fun w' => Below W.heap.size W w' ∧ (∀ b o, b < W.heap.size → w'.cell? ⟨b, o, none⟩ = W.cell? ⟨b, o, none⟩)) (first | exact hs_refl ((Below.refl _ _).drew) | exact hs_step (by assumption) (by assumption))
      (first
        | (go_at_call 60; (with_reducible refine (at_any a0 n0 c0 x _ _ (g0.held (by assumption))).mono ?_); rintro e w' ⟨rfl, rfl⟩)
        | (go_at_call 60; (with_reducible refine (at_any a1 n1 c1 y _ _ (g1.held (by assumption))).mono ?_); rintro e w' ⟨rfl, rfl⟩))
    go_wp2
    go_ret
    exact ⟨by rw [E.out]; rfl, below_step hB (Below.refl _ _).drew⟩

theorem EI : ElT Try.prog 23 3 (.int .i64 0) 1 := ⟨Try.underlying23, ⟨8, by kernel_rfl, by omega⟩, rfl, by omega⟩

/-- Of each worker one number. -/
def row (f : Int → Int) (k : Nat) : List Int := (List.range k).map fun j : Nat => f (j : Int)
theorem row_snoc (f : Int → Int) (k : Nat) : row f (k + 1) = row f k ++ [f k] := by simp [row, List.range_succ]
theorem row_length (f : Int → Int) (k : Nat) : (row f k).length = k := by simp [row]
def maxN (a b : Nat) : Nat := max a b

set_option maxHeartbeats 400000 in
theorem walk_more_n1 (a0 a1 : Option Addr) (n0 c0 n1 c1 : Nat) (x y : List Int) (w : World) (h0 : RdI w a0 n0 c0 x) (h1 : RdI w a1 n1 c1 y) (b0 : n0 ≤ 549755813888) (b1 : n1 ≤ 549755813888) (hlt : n0 < n1) :
    Calls Try.prog 53 #[.agg #[.slice a0 n0 c0, .slice a1 n1 c1], .func (.func 56) #[.agg #[.slice a0 n0 c0, .slice a1 n1 c1]] #[]] w (RetRow w 3 1 n1 (ints (row (more x y) n1))) := by
  go_enter Try.func53, Try.ntmps53
  go_wp2
  go_loopw [5, 14] (fun v i wr => ∃ k : Nat, k ≤ n1 ∧ i = .int .i64 k ∧ wr.ownsRow w.heap.size 3 1 v k (ints (row (more x y) k)) ∧ Below w.heap.size w wr) (fun _ i _ => n1 - (intOf i).toNat)
  case atStart => exact ⟨0, Nat.zero_le _, rfl, World.ownsRow_nil _ _ _ _, (Below.refl _ _).alloc (Nat.le_refl _) _⟩
  case round =>
    obtain ⟨k, hk, rfl, hown, hbr⟩ := hrel
    by_cases hl : k < n1
    · go_wp2_with fail
      refine (more_any a0 a1 n0 c0 n1 c1 x y _ _ (h0.below (B := 0) hbr) (h1.below (B := 0) hbr)).mono ?_
      rintro e w2 ⟨rfl, hb2⟩
      have hown2 := owns_below (B := 0) hown hb2
      have hbase : w.heap.size ≤ w2.heap.size := Nat.le_trans hbr.size hb2.size
      have hn : k + 1 ≤ 1099511627776 := by omega
      go_wp2_with ((at_builtin; refine ap_new w2 _ EI rfl _ _ rfl w.heap.size _ k _ rfl hown2 hbase 1 rfl rfl (one1 rfl) hn ?_; intro v' w3 hown3 hg3 hb3 hfr3))
      go_roundw
      case rel => exact ⟨k + 1, by omega, by go_num, by rw [row_snoc, ints_append]; exact hown3, (hbr.trans (hb2.mono hbr.size)).trans hb3⟩
      case measure => simp [intOf]; omega
    · have hkn : n1 = k := by omega
      subst hkn
      go_wp2_with fail
      go_ret
      exact ⟨_, rfl, hown, hbr⟩
set_option maxHeartbeats 400000 in
theorem walk_above_n1 (a0 a1 : Option Addr) (n0 c0 n1 c1 : Nat) (x y : List Int) (w : World) (h0 : RdI w a0 n0 c0 x) (h1 : RdI w a1 n1 c1 y) (b0 : n0 ≤ 549755813888) (b1 : n1 ≤ 549755813888) (hlt : n0 < n1) :
    Calls Try.prog 53 #[.agg #[.slice a0 n0 c0, .slice a1 n1 c1], .func (.func 54) #[.agg #[.slice a0 n0 c0, .slice a1 n1 c1]] #[]] w (RetRow w 3 1 n1 (ints (row (above x y) n1))) := by
  go_enter Try.func53, Try.ntmps53
  go_wp2
  go_loopw [5, 14] (fun v i wr => ∃ k : Nat, k ≤ n1 ∧ i = .int .i64 k ∧ wr.ownsRow w.heap.size 3 1 v k (ints (row (above x y) k)) ∧ Below w.heap.size w wr) (fun _ i _ => n1 - (intOf i).toNat)
  case atStart => exact ⟨0, Nat.zero_le _, rfl, World.ownsRow_nil _ _ _ _, (Below.refl _ _).alloc (Nat.le_refl _) _⟩
  case round =>
    obtain ⟨k, hk, rfl, hown, hbr⟩ := hrel
    by_cases hl : k < n1
    · go_wp2_with fail
      refine (above_any a0 a1 n0 c0 n1 c1 x y _ _ (h0.below (B := 0) hbr) (h1.below (B := 0) hbr)).mono ?_
      rintro e w2 ⟨rfl, hb2⟩
      have hown2 := owns_below (B := 0) hown hb2
      have hbase : w.heap.size ≤ w2.heap.size := Nat.le_trans hbr.size hb2.size
      have hn : k + 1 ≤ 1099511627776 := by omega
      go_wp2_with ((at_builtin; refine ap_new w2 _ EI rfl _ _ rfl w.heap.size _ k _ rfl hown2 hbase 1 rfl rfl (one1 rfl) hn ?_; intro v' w3 hown3 hg3 hb3 hfr3))
      go_roundw
      case rel => exact ⟨k + 1, by omega, by go_num, by rw [row_snoc, ints_append]; exact hown3, (hbr.trans (hb2.mono hbr.size)).trans hb3⟩
      case measure => simp [intOf]; omega
    · have hkn : n1 = k := by omega
      subst hkn
      go_wp2_with fail
      go_ret
      exact ⟨_, rfl, hown, hbr⟩
set_option maxHeartbeats 400000 in
theorem walk_more_n0 (a0 a1 : Option Addr) (n0 c0 n1 c1 : Nat) (x y : List Int) (w : World) (h0 : RdI w a0 n0 c0 x) (h1 : RdI w a1 n1 c1 y) (b0 : n0 ≤ 549755813888) (b1 : n1 ≤ 549755813888) (hlt : n1 ≤ n0) :
    Calls Try.prog 53 #[.agg #[.slice a0 n0 c0, .slice a1 n1 c1], .func (.func 56) #[.agg #[.slice a0 n0 c0, .slice a1 n1 c1]] #[]] w (RetRow w 3 1 n0 (ints (row (more x y) n0))) := by
  go_enter Try.func53, Try.ntmps53
  go_wp2
  go_loopw [5, 14] (fun v i wr => ∃ k : Nat, k ≤ n0 ∧ i = .int .i64 k ∧ wr.ownsRow w.heap.size 3 1 v k (ints (row (more x y) k)) ∧ Below w.heap.size w wr) (fun _ i _ => n0 - (intOf i).toNat)
  case atStart => exact ⟨0, Nat.zero_le _, rfl, World.ownsRow_nil _ _ _ _, (Below.refl _ _).alloc (Nat.le_refl _) _⟩
  case round =>
    obtain ⟨k, hk, rfl, hown, hbr⟩ := hrel
    by_cases hl : k < n0
    · go_wp2_with fail
      refine (more_any a0 a1 n0 c0 n1 c1 x y _ _ (h0.below (B := 0) hbr) (h1.below (B := 0) hbr)).mono ?_
      rintro e w2 ⟨rfl, hb2⟩
      have hown2 := owns_below (B := 0) hown hb2
      have hbase : w.heap.size ≤ w2.heap.size := Nat.le_trans hbr.size hb2.size
      have hn : k + 1 ≤ 1099511627776 := by omega
      go_wp2_with ((at_builtin; refine ap_new w2 _ EI rfl _ _ rfl w.heap.size _ k _ rfl hown2 hbase 1 rfl rfl (one1 rfl) hn ?_; intro v' w3 hown3 hg3 hb3 hfr3))
      go_roundw
      case rel => exact ⟨k + 1, by omega, by go_num, by rw [row_snoc, ints_append]; exact hown3, (hbr.trans (hb2.mono hbr.size)).trans hb3⟩
      case measure => simp [intOf]; omega
    · have hkn : n0 = k := by omega
      subst hkn
      go_wp2_with fail
      go_ret
      exact ⟨_, rfl, hown, hbr⟩
set_option maxHeartbeats 400000 in
theorem walk_above_n0 (a0 a1 : Option Addr) (n0 c0 n1 c1 : Nat) (x y : List Int) (w : World) (h0 : RdI w a0 n0 c0 x) (h1 : RdI w a1 n1 c1 y) (b0 : n0 ≤ 549755813888) (b1 : n1 ≤ 549755813888) (hlt : n1 ≤ n0) :
    Calls Try.prog 53 #[.agg #[.slice a0 n0 c0, .slice a1 n1 c1], .func (.func 54) #[.agg #[.slice a0 n0 c0, .slice a1 n1 c1]] #[]] w (RetRow w 3 1 n0 (ints (row (above x y) n0))) := by
  go_enter Try.func53, Try.ntmps53
  go_wp2
  go_loopw [5, 14] (fun v i wr => ∃ k : Nat, k ≤ n0 ∧ i = .int .i64 k ∧ wr.ownsRow w.heap.size 3 1 v k (ints (row (above x y) k)) ∧ Below w.heap.size w wr) (fun _ i _ => n0 - (intOf i).toNat)
  case atStart => exact ⟨0, Nat.zero_le _, rfl, World.ownsRow_nil _ _ _ _, (Below.refl _ _).alloc (Nat.le_refl _) _⟩
  case round =>
    obtain ⟨k, hk, rfl, hown, hbr⟩ := hrel
    by_cases hl : k < n0
    · go_wp2_with fail
      refine (above_any a0 a1 n0 c0 n1 c1 x y _ _ (h0.below (B := 0) hbr) (h1.below (B := 0) hbr)).mono ?_
      rintro e w2 ⟨rfl, hb2⟩
      have hown2 := owns_below (B := 0) hown hb2
      have hbase : w.heap.size ≤ w2.heap.size := Nat.le_trans hbr.size hb2.size
      have hn : k + 1 ≤ 1099511627776 := by omega
      go_wp2_with ((at_builtin; refine ap_new w2 _ EI rfl _ _ rfl w.heap.size _ k _ rfl hown2 hbase 1 rfl rfl (one1 rfl) hn ?_; intro v' w3 hown3 hg3 hb3 hfr3))
      go_roundw
      case rel => exact ⟨k + 1, by omega, by go_num, by rw [row_snoc, ints_append]; exact hown3, (hbr.trans (hb2.mono hbr.size)).trans hb3⟩
      case measure => simp [intOf]; omega
    · have hkn : n0 = k := by omega
      subst hkn
      go_wp2_with fail
      go_ret
      exact ⟨_, rfl, hown, hbr⟩

theorem walk_more (a0 a1 : Option Addr) (n0 c0 n1 c1 : Nat) (x y : List Int) (w : World) (h0 : RdI w a0 n0 c0 x) (h1 : RdI w a1 n1 c1 y) (b0 : n0 ≤ 549755813888) (b1 : n1 ≤ 549755813888) :
    Calls Try.prog 53 #[.agg #[.slice a0 n0 c0, .slice a1 n1 c1], .func (.func 56) #[.agg #[.slice a0 n0 c0, .slice a1 n1 c1]] #[]] w (RetRow w 3 1 (maxN n0 n1) (ints (row (more x y) (maxN n0 n1)))) := by
  by_cases h : n0 < n1
  · have e : maxN n0 n1 = n1 := by unfold maxN; omega
    rw [e]; exact walk_more_n1 a0 a1 n0 c0 n1 c1 x y w h0 h1 b0 b1 h
  · have e : maxN n0 n1 = n0 := by unfold maxN; omega
    rw [e]; exact walk_more_n0 a0 a1 n0 c0 n1 c1 x y w h0 h1 b0 b1 (by omega)
theorem walk_above (a0 a1 : Option Addr) (n0 c0 n1 c1 : Nat) (x y : List Int) (w : World) (h0 : RdI w a0 n0 c0 x) (h1 : RdI w a1 n1 c1 y) (b0 : n0 ≤ 549755813888) (b1 : n1 ≤ 549755813888) :
    Calls Try.prog 53 #[.agg #[.slice a0 n0 c0, .slice a1 n1 c1], .func (.func 54) #[.agg #[.slice a0 n0 c0, .slice a1 n1 c1]] #[]] w (RetRow w 3 1 (maxN n0 n1) (ints (row (above x y) (maxN n0 n1)))) := by
  by_cases h : n0 < n1
  · have e : maxN n0 n1 = n1 := by unfold maxN; omega
    rw [e]; exact walk_above_n1 a0 a1 n0 c0 n1 c1 x y w h0 h1 b0 b1 h
  · have e : maxN n0 n1 = n0 := by unfold maxN; omega
    rw [e]; exact walk_above_n0 a0 a1 n0 c0 n1 c1 x y w h0 h1 b0 b1 (by omega)

end Go.Proofs.Ytkhhjjjpbfnlmaa
