/- Calls of a history: any two of them held together; whether calls may be, by the program and the reference. -/
import Derived.Test.YtonldjkmbapjeaaHist2
namespace Go.Proofs.Ytonldjkmbapjeaa
set_option linter.unusedVariables false
set_option linter.unusedSimpArgs false
open Go.RowKit Go.Proofs.YtonldjkmbapjeaaMem Go.Proofs.YtonldjkmbapjeaaFlat

theorem RdD.held {W w' : World} {ao : Option Addr} {n cap : Nat} {l : List DoneS} (h : RdD W ao n cap l) (hs : Below W.heap.size W w' ∧ (∀ b o, b < W.heap.size → w'.cell? ⟨b, o, none⟩ = W.cell? ⟨b, o, none⟩)) : RdD w' ao n cap l := h.below hs.1
theorem hs_refl' {W w1 : World} (hb : Below W.heap.size W w1) : Below W.heap.size W w1 ∧ (∀ b o, b < W.heap.size → w1.cell? ⟨b, o, none⟩ = W.cell? ⟨b, o, none⟩) := hs_refl hb
def pairsB (l : List DoneS) : Bool := (List.range l.length).all fun i => (List.range i).all fun k => apartB (nthD l i) (nthD l k)
theorem pairs_true {l : List DoneS} (h : ∀ i, i < l.length → ∀ k, k < i → apartB (nthD l i) (nthD l k) = true) : pairsB l = true := by
  unfold pairsB
  rw [List.all_eq_true]
  intro i hi
  rw [List.all_eq_true]
  intro k hk
  exact h i (List.mem_range.1 hi) k (List.mem_range.1 hk)
theorem pairs_at {l : List DoneS} (h : pairsB l = true) {i k : Nat} (hi : i < l.length) (hk : k < i) : apartB (nthD l i) (nthD l k) = true := by
  unfold pairsB at h
  exact List.all_eq_true.1 (List.all_eq_true.1 h i (List.mem_range.2 hi)) k (List.mem_range.2 hk)
theorem pairs_false {l : List DoneS} {i k : Nat} (hi : i < l.length) (hk : k < i) (h : apartB (nthD l i) (nthD l k) = false) : pairsB l = false := by
  rw [← Bool.not_eq_true]
  intro hp
  rw [pairs_at hp hi hk] at h; cases h
def rightH (l : List DoneS) : Bool := l.all rightD && pairsB l

set_option maxHeartbeats 1000000 in
theorem pairs_any (ao : Option Addr) (n cap : Nat) (l : List DoneS) (w : World) (h : RdD w ao n cap l) :
    Calls Try.prog 34 #[.slice ao n cap, .func (.func 35) #[] #[]] w fun e w' => e = .returned (.bool (pairsB l)) ∧ Below w.heap.size w w' := by
  have L0 := Lib.hid h.len
  have s0 := h.rd.small
  have hle := h.rd.le
  go_enter Try.func34, Try.ntmps34
  go_wp2
  go_loopw [5, 7, 10] (fun v5 v7 v10 wr => ∃ i : Nat, i ≤ n ∧ v10 = .int .i64 i ∧ (∀ i', i' < i → ∀ k, k < i' → apartB (nthD l i') (nthD l k) = true) ∧ Below w.heap.size w wr) (fun _ _ v10 _ => n - (intOf v10).toNat)
  case atStart => exact ⟨0, Nat.zero_le _, rfl, fun j hj => absurd hj (Nat.not_lt_zero _), Below.refl _ _⟩
  case round =>
    obtain ⟨i, hi, rfl, heq, hbr⟩ := hrel
    have HQ := Lib.hid heq
    clear heq
    by_cases hl : i < n
    · obtain ⟨b, o, rfl, hlt, hc⟩ := h.cells hl
      have HCI := Lib.hid hc
      clear hc
      have ic : (i : Int) ≤ (cap : Int) := by omega
      generalize wr = w1 at *
      go_wp2_with fail
      go_loopw [7, 17] (fun v7 v17 wr => ∃ k : Nat, k ≤ i ∧ v17 = .int .i64 k ∧ (∀ k', k' < k → apartB (nthD l i) (nthD l k') = true) ∧ Below w.heap.size w wr) (fun _ v17 _ => i - (intOf v17).toNat)
      case atStart => exact ⟨0, Nat.zero_le _, rfl, fun j hj => absurd hj (Nat.not_lt_zero _), hbr⟩
      case round =>
        obtain ⟨k, hk, rfl, heq, hbr⟩ := hrel
        have HK := Lib.hid heq
        clear heq
        by_cases hl2 : k < i
        · have ki : (k : Int) < (i : Int) := by omega
          have iN : (i : Int) < (n : Int) := by omega
          obtain ⟨b', o', e', _, hck⟩ := h.cells (show k < n by omega)
          simp only [Option.some.injEq, Addr.mk.injEq, and_true] at e'
          obtain ⟨rfl, rfl⟩ := e'
          obtain ⟨c0, c1, c2, c3, c4, c5, c6, c7, c8, c9, c10, c11⟩ := RdD.at12 (ao := none) (n := 0) (cap := 0) hck hbr
          have bl : b < wr.heap.size := Nat.lt_of_lt_of_le hlt hbr.size
          go_upto_region 7 with fail
          have hB := one_boxD wr (nthD l k) 31
          have hbW := below1 wr (.cells #[.int .i64 (nthD l k).who, .int .i64 (nthD l k).place, .int .i64 (nthD l k).op, .int .i64 (nthD l k).fl, .int .i64 (nthD l k).a, .int .i64 (nthD l k).b, .int .i64 (nthD l k).e, .slice (nthD l k).ao (nthD l k).len (nthD l k).cap, .int .i64 (nthD l k).n, .int .u64 (nthD l k).v, .int .i64 (nthD l k).fr, .int .i64 (nthD l k).to] 31)
          have hb1 := hbr.trans (hbW.mono hbr.size)
          generalize wr.alloc (.cells #[.int .i64 (nthD l k).who, .int .i64 (nthD l k).place, .int .i64 (nthD l k).op, .int .i64 (nthD l k).fl, .int .i64 (nthD l k).a, .int .i64 (nthD l k).b, .int .i64 (nthD l k).e, .slice (nthD l k).ao (nthD l k).len (nthD l k).cap, .int .i64 (nthD l k).n, .int .u64 (nthD l k).v, .int .i64 (nthD l k).fr, .int .i64 (nthD l k).to] 31) = W at *
          generalize hn : wr.heap.size = A at *
          obtain ⟨a0, a1, a2, a3, a4, a5, a6, a7, a8, a9, a10, a11⟩ := RdD.at12 (ao := none) (n := 0) (cap := 0) HCI.out hb1
          obtain ⟨b0, b1, b2, b3, b4, b5, b6, b7, b8, b9, b10, b11⟩ := hB.cells
          have bA := hB.lt
          have bW : b < W.heap.size := by have := hbW.size; omega
          clear c0 c1 c2 c3 c4 c5 c6 c7 c8 c9 c10 c11 hck hB
          cases hap : apartB (nthD l i) (nthD l k)
          · have E : Hid (pairsB l = false) := pairs_false (by rw [L0.out]; exact hl) hl2 hap
            go_region_held3 (fun w' => Below W.heap.size W w' ∧ (∀ b o, b < W.heap.size → w'.cell? ⟨b, o, none⟩ = W.cell? ⟨b, o, none⟩)) (first | exact hs_refl ((Below.refl _ _).drew) | assumption | exact hs_step (by assumption) (by assumption))
              (first | (go_at_call 35; (with_reducible refine (apart_any (nthD l i) (nthD l k) _).mono ?_); rw [hap]; rintro e w' ⟨rfl, hb'⟩))
            go_wp2
            go_ret
            exact ⟨by rw [E.out]; rfl, hb1.trans ((‹Below W.heap.size W _ ∧ _›).1.mono hb1.size)⟩
          · have HAP := Lib.hid hap
            go_region_held3 (fun w' => Below W.heap.size W w' ∧ (∀ b o, b < W.heap.size → w'.cell? ⟨b, o, none⟩ = W.cell? ⟨b, o, none⟩)) (first | exact hs_refl ((Below.refl _ _).drew) | assumption | exact hs_step (by assumption) (by assumption))
              (first | (go_at_call 35; (with_reducible refine (apart_any (nthD l i) (nthD l k) _).mono ?_); rw [hap]; rintro e w' ⟨rfl, hb'⟩))
            clear hap
            go_wp2
            go_roundw
            case rel => exact ⟨k + 1, by omega, by go_num, fun k' hk' => by
              by_cases hkk : k' = k
              · subst hkk; exact HAP.out
              · exact HK.out k' (by omega), hb1.trans ((‹Below W.heap.size W _ ∧ _›).1.mono hb1.size)⟩
            case measure => simp [intOf]; omega
        · obtain rfl : k = i := by omega
          go_wp2
          go_roundw
          case rel => exact ⟨k + 1, by omega, by go_num, fun i' hi' => by
            by_cases hii : i' = k
            · subst hii; exact HK.out
            · exact HQ.out i' (by omega), hbr⟩
          case measure => simp [intOf]; omega
    · obtain rfl : i = n := by omega
      have E : Hid (pairsB l = true) := pairs_true fun i' hi' => HQ.out i' (by rw [L0.out] at hi'; exact hi')
      go_wp2
      go_ret
      exact ⟨by rw [E.out]; rfl, hbr⟩

set_option maxHeartbeats 400000 in
theorem histRight_any (ao : Option Addr) (n cap : Nat) (l : List DoneS) (w : World) (h : RdD w ao n cap l) :
    Calls Try.prog 12 #[.slice ao n cap] w fun e w' => e = .returned (.bool (rightH l)) ∧ Below w.heap.size w w' := by
  have hq : Hid (rightH l = (l.all rightD && pairsB l)) := rfl
  go_enter Try.func12, Try.ntmps12
  go_wp2_with fail
  refine (each_right ao n cap l _ h).mono ?_
  cases hr : l.all rightD
  · rintro e w1 ⟨rfl, hb1⟩
    go_wp2
    go_ret
    exact ⟨by rw [hq.out, hr]; rfl, hb1⟩
  · rintro e w1 ⟨rfl, hb1⟩
    go_wp2_with fail
    refine (pairs_any ao n cap l _ (h.below hb1)).mono ?_
    rintro e w2 ⟨rfl, hb2⟩
    go_wp2
    go_ret
    exact ⟨by rw [hq.out, hr]; rfl, below_step hb1 hb2⟩

set_option maxHeartbeats 1000000 in
theorem refEnded_any (ao : Option Addr) (n cap : Nat) (l : List DoneS) (w : World) (h : RdD w ao n cap l) :
    Calls Try.prog 15 #[.slice ao n cap] w fun e w' => e = .returned (.bool (l.all endedB)) ∧ Below w.heap.size w w' := by
  have L0 := Lib.hid h.len
  have s0 := h.rd.small
  go_enter Try.func15, Try.ntmps15
  go_wp2
  go_loopw [3] (fun i wr => ∃ k : Nat, k ≤ n ∧ i = .int .i64 k ∧ (∀ j : Nat, j < k → endedB (nthD l j) = true) ∧ Below w.heap.size w wr) (fun i _ => n - (intOf i).toNat)
  case atStart => exact ⟨0, Nat.zero_le _, rfl, fun j hj => absurd hj (Nat.not_lt_zero _), Below.refl _ _⟩
  case round =>
    obtain ⟨k, hk, rfl, heq, hbr⟩ := hrel
    have HQ := Lib.hid heq
    clear heq
    by_cases hl : k < n
    · obtain ⟨b, o, rfl, hlt, hc⟩ := h.cells hl
      obtain ⟨c0, c1, c2, c3, c4, c5, c6, c7, c8, c9, c10, c11⟩ := RdD.at12 (ao := none) (n := 0) (cap := 0) hc hbr
      by_cases ht : (nthD l k).to = -1
      · have E : Hid (l.all endedB = false) := all_failD (k := k) (by rw [L0.out]; exact hl) (by unfold endedB; simp [ht])
        have e1 : ((nthD l k).to == -1) = true := by simp [ht]
        clear ht
        go_wp2
        go_ret
        exact ⟨by rw [E.out]; rfl, hbr⟩
      · have E : Hid (endedB (nthD l k) = true) := by unfold Hid endedB; simp [ht]
        have e1 : ((nthD l k).to == -1) = false := by simpa using ht
        clear ht
        go_wp2
        go_roundw
        case rel => exact ⟨k + 1, by omega, by go_num, fun j hj => by
          by_cases hjk : j = k
          · subst hjk; exact E.out
          · exact HQ.out j (by omega), hbr⟩
        case measure => simp [intOf]; omega
    · have E : Hid (l.all endedB = true) := all_frontD l fun j hj => HQ.out j (by rw [L0.out] at hj; omega)
      go_wp2
      go_ret
      exact ⟨by rw [E.out]; rfl, hbr⟩
end Go.Proofs.Ytonldjkmbapjeaa
