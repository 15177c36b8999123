/- weighbridgehelp at slices of numbers: two held against each other; a copy with spare room; what is written over. -/
import Derived.Test.YtkhhjjjpbfnlmaaRows
import Derived.Test.YtkhhjjjpbfnlmaaMem
import Derived.WalkLawsBesides
namespace Go.Proofs.Ytkhhjjjpbfnlmaa
set_option linter.unusedVariables false
set_option linter.unusedSimpArgs false
open Go.RowKit Go.Proofs.YtkhhjjjpbfnlmaaMem

def eqI (x y : List Int) : Bool := decide (x = y)
theorem eqI_same (x : List Int) : eqI x x = true := by simp [eqI]
theorem ext_nth {x y : List Int} (h : x.length = y.length) (hn : ∀ j, j < x.length → nth x j = nth y j) : x = y := by
  apply List.ext_getElem h
  intro i h1 h2
  have := hn i h1
  rw [nth_eq h1, nth_eq h2] at this
  exact this

set_option maxHeartbeats 400000 in
theorem plain1_any (a b : Int) (w : World) :
    Calls Try.prog 50 #[.int .i64 a, .int .i64 b] w fun e w' => e = .returned (.bool (a == b)) ∧ w = w' := by
  go_enter Try.func50, Try.ntmps50
  go_wp2
  go_ret
  exact ⟨rfl, rfl⟩

set_option maxHeartbeats 400000 in
theorem sameI_any (a0 a1 : Option Addr) (n0 c0 n1 c1 : Nat) (x y : List Int) (w : World) (h0 : RdI w a0 n0 c0 x) (h1 : RdI w a1 n1 c1 y) :
    Calls Try.prog 49 #[.slice a0 n0 c0, .slice a1 n1 c1, .func (.func 50) #[] #[]] w fun e w' => e = .returned (.bool (eqI x y)) ∧ Below w.heap.size w w' := by
  have L0 := Lib.hid h0.len
  have L1 := Lib.hid h1.len
  have s0 := h0.small
  by_cases hn : n0 = n1
  · have N := Lib.hid hn
    have hb : ((n0 : Int) != (n1 : Int)) = false := by simp [hn]
    have hln : n0 ≤ n1 := by omega
    clear hn
    go_enter Try.func49, Try.ntmps49
    go_wp2
    go_loopw [7] (fun i wr => ∃ k : Nat, k ≤ n0 ∧ i = .int .i64 k ∧ (∀ j : Nat, j < k → nth x j = nth y j) ∧ Below w.heap.size w wr) (fun i _ => n0 - (intOf i).toNat)
    case atStart => exact ⟨0, Nat.zero_le _, rfl, fun j hj => absurd hj (Nat.not_lt_zero _), Below.refl _ _⟩
    case round =>
      obtain ⟨k, hk, rfl, heq, hbr⟩ := hrel
      have HQ := Lib.hid heq
      clear heq
      by_cases hl : k < n0
      · obtain ⟨b0, o0, rfl, hlt0, hc0⟩ := h0.at_ k hl
        obtain ⟨b1, o1, rfl, hlt1, hc1⟩ := h1.at_ k (by omega)
        have i0 : (0 : Int) ≤ (k : Int) := by omega
        have i1 : (k : Int) < (n0 : Int) := by omega
        have i2 : (k : Int) < (n1 : Int) := by omega
        by_cases hv : nth x k = nth y k
        · have V := Lib.hid hv
          have e1 : (nth x k == nth y k) = true := by simp [hv]
          clear hv
          go_wp2_with fail
          go_region_held3 (fun w' => Below w.heap.size w w' ∧ (∀ b o, b < w.heap.size → w'.cell? ⟨b, o, none⟩ = w.cell? ⟨b, o, none⟩)) (first | exact hs_refl hbr.drew | assumption)
            (first | (go_at_call 50; refine (plain1_any _ _ _).mono ?_; rintro e w' ⟨rfl, rfl⟩))
          go_wp2
          go_roundw
          case rel => exact ⟨k + 1, by omega, by go_num, fun j hj => by
            by_cases hjk : j = k
            · subst hjk; exact V.out
            · exact HQ.out j (by omega), hbr.drew⟩
          case measure => simp [intOf]; omega
        · have E : Hid (eqI x y = false) := by
            unfold Hid eqI
            simp only [decide_eq_false_iff_not]
            intro he
            rw [he] at hv; exact hv rfl
          have e1 : (nth x k == nth y k) = false := by simpa using hv
          clear hv
          go_wp2_with fail
          go_region_held3 (fun w' => Below w.heap.size w w' ∧ (∀ b o, b < w.heap.size → w'.cell? ⟨b, o, none⟩ = w.cell? ⟨b, o, none⟩)) (first | exact hs_refl hbr.drew | assumption)
            (first | (go_at_call 50; refine (plain1_any _ _ _).mono ?_; rintro e w' ⟨rfl, rfl⟩))
          go_wp2
          go_ret
          exact ⟨by rw [E.out]; rfl, hbr.drew⟩
      · have E : Hid (eqI x y = true) := by
          unfold Hid eqI
          simp only [decide_eq_true_eq]
          refine ext_nth (by rw [L0.out, L1.out]; exact N.out) fun j hj => HQ.out j ?_
          rw [L0.out] at hj; omega
        go_wp2
        go_ret
        exact ⟨by rw [E.out]; rfl, hbr⟩
  · have hb : ((n0 : Int) != (n1 : Int)) = true := by simp; omega
    have E : Hid (eqI x y = false) := by
      unfold Hid eqI
      simp only [decide_eq_false_iff_not]
      intro he
      exact hn (by rw [← L0.out, ← L1.out, he])
    clear hn
    go_enter Try.func49, Try.ntmps49
    go_wp2
    go_ret
    exact ⟨by rw [E.out]; rfl, Below.refl _ _⟩

set_option maxHeartbeats 400000 in
theorem plainI_any (a0 a1 : Option Addr) (n0 c0 n1 c1 : Nat) (x y : List Int) (w : World) (h0 : RdI w a0 n0 c0 x) (h1 : RdI w a1 n1 c1 y) :
    Calls Try.prog 28 #[.slice a0 n0 c0, .slice a1 n1 c1] w fun e w' => e = .returned (.bool (eqI x y)) ∧ Below w.heap.size w w' := by
  go_enter Try.func28, Try.ntmps28
  go_wp2_with (go_at_call 49; refine (sameI_any a0 a1 n0 c0 n1 c1 x y _ h0 h1).mono ?_; rintro e w' ⟨rfl, hb⟩)
  go_ret
  exact ⟨rfl, hb⟩

def modZ (v n : Int) : Int := IntKind.u64.wrap v % n
theorem modZ_bd (v : Int) {n : Int} (h : 1 ≤ n) : 0 ≤ modZ v n ∧ modZ v n < n := by
  unfold modZ; exact ⟨Int.emod_nonneg _ (by omega), Int.emod_lt_of_pos _ (by omega)⟩

set_option maxHeartbeats 400000 in
theorem mod_any (v n : Int) (h1 : 1 ≤ n) (h2 : n ≤ 9223372036854775807) (w : World) :
    Calls Try.prog 21 #[.int .i64 v, .int .i64 n] w fun e w' => e = .returned (.int .i64 (modZ v n)) ∧ w = w' := by
  have wb : 0 ≤ IntKind.u64.wrap v ∧ IntKind.u64.wrap v < 18446744073709551616 := by rw [IntKind.wrap_u64]; omega
  obtain ⟨wb1, wb2⟩ := wb
  have hnn : IntKind.u64.wrap n = n := by rw [IntKind.wrap_u64]; omega
  have hm := modZ_bd v h1
  have E : Hid (modZ v n = IntKind.u64.wrap v % n) := rfl
  have q1 : 0 ≤ IntKind.u64.wrap v % n := hm.1
  have q2 : IntKind.u64.wrap v % n < n := hm.2
  go_enter Try.func21, Try.ntmps21
  go_wp2
  go_ret
  exact ⟨by rw [E.out]; rfl, rfl⟩
end Go.Proofs.Ytkhhjjjpbfnlmaa
