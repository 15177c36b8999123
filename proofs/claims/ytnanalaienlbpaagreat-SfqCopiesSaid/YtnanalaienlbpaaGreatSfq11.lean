/- What a program that does nothing does not answer: flows served fairly. -/
import Derived.Test.YtnanalaienlbpaaGreatSfq10
namespace Go.Proofs.YtnanalaienlbpaaGreat
set_option linter.unusedVariables false
set_option linter.unusedSimpArgs false
set_option maxRecDepth 20000
open Go.RowKit Go.Proofs.YtnanalaienlbpaaGreatMem Go.Proofs.YtnanalaienlbpaaGreatMapK

def awB : SfS := (SfS.new.add 1 10 8).add 2 5 8
def awP (k : Nat) : Pk := ⟨1 + (k : Int).tdiv 2, 4, k⟩
def awS : Nat → SfS
  | 0 => awB
  | k + 1 => (awS k).arrive (awP k)
theorem aw_a : (getF SfS.new.fs 1).isSome = false := by decide
theorem aw_b : (getF (SfS.new.add 1 10 8).fs 2).isSome = false := by decide
theorem aw_c : (getF awB.fs 2).isSome = true := by decide
theorem aw_d : awB.removeE 3 = 5 := by decide
theorem aw_e : awB.remove 3 = awB := by rfl
theorem aw_f : awB.add 2 5 8 = awB := by rfl
theorem aw_g : ∀ k, k < 4 → (awS k).arriveE (awP k) = 0 := by decide
theorem aw_pk (k : Nat) (hk : k < 4) : (awP k).Ok := by
  unfold awP Pk.Ok I64
  rcases (show k = 0 ∨ k = 1 ∨ k = 2 ∨ k = 3 by omega) with rfl | rfl | rfl | rfl <;> decide
theorem awB_ok : awB.Ok := SfS.add_ok (SfS.add_ok SfS.new_ok (by unfold I64; omega) (by unfold W64; omega)) (by unfold I64; omega) (by unfold W64; omega)
theorem awS_ok : ∀ k, k ≤ 4 → (awS k).Ok
  | 0, _ => awB_ok
  | k + 1, h => SfS.arrive_ok (awS_ok k (by omega)) (aw_pk k (by omega))
theorem aw_h : (awS 4).has = true ∧ (awS 4).head.flow = 1 ∧ (awS 4).serve.has = true ∧ (awS 4).serve.head.flow = 2 := by decide
theorem aw_i : (awS 4).serve.serve.most = 40 ∧ (awS 4).serve.serve.v = 0 ∧ (awS 4).serve.serve.removeE 1 = 8 := by decide
theorem aw_n : (awS 4).fs.length ≤ 1000000 ∧ (awS 4).serve.fs.length ≤ 1000000 := by decide

set_option maxHeartbeats 2000000 in
theorem awake10_any (w : World) : Calls Tryz.prog 5 #[] w fun e w' => e = .returned (.bool true) ∧ Below w.heap.size w w' := by
  go_enter Tryz.func5, Tryz.ntmps5
  go_wp2_with fail
  refine (newO w w (Below.refl _ _)).mono ?_
  rintro e w1 ⟨b, rfl, H⟩
  go_wp2_with fail
  refine (addO H 1 10 8 (by unfold W64; omega)).mono ?_
  rw [aw_a]
  rintro e w1 ⟨rfl, H⟩
  go_wp2_with fail
  refine (addO H 2 5 8 (by unfold W64; omega)).mono ?_
  rw [aw_b]
  rintro e w1 ⟨rfl, H⟩
  replace H : OwnS w w1 b awB := H
  go_wp2_with fail
  refine (addO H 2 5 8 (by unfold W64; omega)).mono ?_
  rw [aw_c, aw_f]
  rintro e w1 ⟨rfl, H⟩
  go_wp2_with fail
  refine (removeO H 3).mono ?_
  rw [aw_d, aw_e]
  rintro e w1 ⟨rfl, H⟩
  go_wp2_with fail
  go_loopw [2] (fun i wr => ∃ k : Nat, k ≤ 4 ∧ i = .int .i64 k ∧ OwnS w wr b (awS k)) (fun i _ => 4 - (intOf i).toNat)
  case atStart => exact ⟨0, by omega, rfl, H⟩
  case round =>
    obtain ⟨k, hk, rfl, hO⟩ := hrel
    by_cases hl : k < 4
    · have hok := awS_ok k hk
      have hpk := aw_pk k hl
      have hg := aw_g k hl
      have hi : (k : Int) < 4 := by omega
      have hq : (k : Int).tdiv 2 = 0 ∨ (k : Int).tdiv 2 = 1 := by
        rcases (show k = 0 ∨ k = 1 ∨ k = 2 ∨ k = 3 by omega) with rfl | rfl | rfl | rfl <;> decide
      have hC := arriveO hO hok (awP k) hpk
      rw [hg] at hC
      unfold awP at hC
      have hi2 : Value.int .i64 (IntKind.i64.wrap (1 + (k : Int).tdiv 2)) = .int .i64 (1 + (k : Int).tdiv 2) := by
        rcases hq with h | h <;> rw [h] <;> rfl
      go_wp2_with fail
      refine hC.mono ?_
      rintro e w2 ⟨rfl, H2⟩
      go_wp2
      go_roundw
      case rel => exact ⟨k + 1, by omega, by go_num, H2⟩
      case measure => simp [intOf]; omega
    · obtain rfl : k = 4 := by omega
      obtain ⟨a1, a2, a3, a4⟩ := aw_h
      obtain ⟨a5, a6, a7⟩ := aw_i
      obtain ⟨a8, a9⟩ := aw_n
      have hok := awS_ok 4 hk
      have hok2 := SfS.serve_ok hok
      have hF := hO
      go_wp2_with fail
      refine (serveO hO hok a8).mono ?_
      rw [a1]
      unfold Pk.val
      rw [a2]
      rintro e w2 ⟨rfl, H2⟩
      obtain ⟨F, f1, f2, f3⟩ := H2
      have hbx := below1 w2 (.cells #[.int .i64 1, .int .i64 (awS 4).head.len, .int .i64 (awS 4).head.mark] 34)
      have Bx := Blk.new w2 [.int .i64 1, .int .i64 (awS 4).head.len, .int .i64 (awS 4).head.mark] 34
      have hnF : ¬ F w2.heap.size := fun hk => by have := f1.lt _ hk; omega
      go_wp2_with fail
      refine (serveS_any b _ F _ (f1.below hbx) hok2 a9).mono ?_
      rw [a3]
      unfold Pk.val
      rw [a4]
      rintro e w3 ⟨rfl, hp3⟩
      have H3 := OwnS.post f2 (f3.trans (hbx.mono f3.size)) hp3
      have Bx3 := (Bx.fr hp3.2 hnF).below (below1 w3 (.cells #[.int .i64 2, .int .i64 (awS 4).serve.head.len, .int .i64 (awS 4).serve.head.mark] 34))
      have By3 := Blk.new w3 [.int .i64 2, .int .i64 (awS 4).serve.head.len, .int .i64 (awS 4).serve.head.mark] 34
      have c0 := Bx3.cell 0
      have d0 := By3.cell 0
      simp only [List.getElem?_cons_zero] at c0 d0
      have H4 := H3.below (below1 w3 (.cells #[.int .i64 2, .int .i64 (awS 4).serve.head.len, .int .i64 (awS 4).serve.head.mark] 34))
      go_wp2_with fail
      refine (mostO H4).mono ?_
      rw [a5]
      rintro e w4 ⟨rfl, rfl⟩
      go_wp2_with fail
      refine (vO H4).mono ?_
      rw [a6]
      rintro e w4 ⟨rfl, rfl⟩
      go_wp2_with fail
      refine (removeO H4 1).mono ?_
      rw [a7]
      rintro e w4 ⟨rfl, H5⟩
      go_wp2
      go_ret
      exact ⟨rfl, H5.bel⟩
end Go.Proofs.YtnanalaienlbpaaGreat
