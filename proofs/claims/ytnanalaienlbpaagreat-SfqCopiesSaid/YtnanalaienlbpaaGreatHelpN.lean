/- weighbridgehelp at slices of items and of numbers: two that hold the same are held to be the same. -/
import Derived.Test.YtnanalaienlbpaaGreatSfq12
import Derived.WalkLawsBesides
namespace Go.Proofs.YtnanalaienlbpaaGreat
set_option linter.unusedVariables false
set_option linter.unusedSimpArgs false
set_option maxRecDepth 20000
open Go.RowKit Go.Proofs.YtnanalaienlbpaaGreatMem

set_option maxHeartbeats 400000 in
theorem plainE1_any (p : Int × Int) (w : World) :
    Calls Tryz.prog 56 #[.agg #[.int .u64 p.1, .int .i64 p.2], .agg #[.int .u64 p.1, .int .i64 p.2]] w fun e w' => e = .returned (.bool true) ∧ Below w.heap.size w w' := by
  go_enter Tryz.func56, Tryz.ntmps56
  go_wp2
  go_ret
  exact ⟨by simp [Act.eval], ((Below.refl _ _).alloc (Nat.le_refl _) _).alloc (by simp) _⟩

set_option maxHeartbeats 1000000 in
theorem sameE_any (a0 a1 : Option Addr) (n c0 c1 : Nat) (l : List (Int × Int)) (w : World) (h0 : RdS w a0 n c0 2 (entC l)) (h1 : RdS w a1 n c1 2 (entC l)) (hl : l.length = n) :
    Calls Tryz.prog 55 #[.slice a0 n c0, .slice a1 n c1, .func (.func 56) #[] #[]] w fun e w' => e = .returned (.bool true) ∧ Below w.heap.size w w' := by
  have s0 := h0.small
  have hb : ((n : Int) != (n : Int)) = false := by simp
  have HL := Lib.hid hl
  clear hl
  go_enter Tryz.func55, Tryz.ntmps55
  go_wp2
  go_loopw [7] (fun i wr => ∃ k : Nat, k ≤ n ∧ i = .int .i64 k ∧ Below w.heap.size w wr) (fun i _ => n - (intOf i).toNat)
  case atStart => exact ⟨0, Nat.zero_le _, rfl, Below.refl _ _⟩
  case round =>
    obtain ⟨k, hk, rfl, hbr⟩ := hrel
    by_cases hl : k < n
    · obtain ⟨b0, o0, rfl, hlt0, hc0⟩ := rds_ent h0 HL.out hl
      obtain ⟨b1, o1, rfl, hlt1, hc1⟩ := rds_ent h1 HL.out hl
      have i1 : (k : Int) < (n : Int) := by omega
      have HC0 := Lib.hid hc0
      have HC1 := Lib.hid hc1
      clear hc0 hc1
      have Td := hbr.drew
      go_wp2_with fail
      go_region_held3 (fun w' => (w'.cell? ⟨b0, o0 + k * 2, none⟩ = some (.int .u64 (nthE l k).1) ∧ w'.cell? ⟨b0, o0 + k * 2 + 1, none⟩ = some (.int .i64 (nthE l k).2)) ∧ (w'.cell? ⟨b1, o1 + k * 2, none⟩ = some (.int .u64 (nthE l k).1) ∧ w'.cell? ⟨b1, o1 + k * 2 + 1, none⟩ = some (.int .i64 (nthE l k).2)))
        (exact ⟨HC0.out _ Td, HC1.out _ Td⟩)
        (first | (go_at_call 56; refine (plainE1_any (nthE l k) _).mono ?_; rintro e w3 ⟨rfl, hb3⟩; replace Td := Td.trans (hb3.mono Td.size)))
      go_wp2
      go_roundw
      case rel => exact ⟨k + 1, by omega, by go_num, Td⟩
      case measure => simp [intOf]; omega
    · have i1 : (n : Int) ≤ (k : Int) := by omega
      go_wp2
      go_ret
      exact ⟨rfl, hbr⟩

set_option maxHeartbeats 400000 in
theorem plainE_any (a0 a1 : Option Addr) (n c0 c1 : Nat) (l : List (Int × Int)) (w : World) (h0 : RdS w a0 n c0 2 (entC l)) (h1 : RdS w a1 n c1 2 (entC l)) (hl : l.length = n) :
    Calls Tryz.prog 34 #[.slice a0 n c0, .slice a1 n c1] w fun e w' => e = .returned (.bool true) ∧ Below w.heap.size w w' := by
  have hs := sameE_any a0 a1 n c0 c1 l
  go_enter Tryz.func34, Tryz.ntmps34
  go_wp2_with fail
  refine (hs _ h0 h1 hl).mono ?_
  rintro e w1 ⟨rfl, hb⟩
  go_wp2
  go_ret
  exact ⟨rfl, hb⟩

set_option maxHeartbeats 400000 in
theorem plainZ1_any (p : Int) (w : World) :
    Calls Tryz.prog 59 #[.int .i64 p, .int .i64 p] w fun e w' => e = .returned (.bool true) ∧ Below w.heap.size w w' := by
  go_enter Tryz.func59, Tryz.ntmps59
  go_wp2
  go_ret
  exact ⟨by simp [Act.eval], Below.refl _ _⟩
def nthZ (l : List Int) (k : Nat) : Int := l.getD k 0
theorem rds_int {w : World} {ao : Option Addr} {n cap : Nat} {l : List Int} (h : RdS w ao n cap 1 (l.map (Value.int .i64))) (hl : l.length = n) {k : Nat} (hk : k < n) :
    ∃ b off, ao = some ⟨b, off, none⟩ ∧ b < w.heap.size ∧ ∀ w', Below w.heap.size w w' → w'.cell? ⟨b, off + k, none⟩ = some (.int .i64 (nthZ l k)) := by
  have hk2 : k < l.length := by omega
  obtain ⟨b, off, e, hb, h0⟩ := h.at_ k (.int .i64 (nthZ l k)) (by rw [List.getElem?_map, List.getElem?_eq_getElem hk2]; simp [nthZ, hk2])
  exact ⟨b, off, e, hb, fun w' hbl => (hbl.cell (p := ⟨b, off + k, none⟩) hb).trans h0⟩

set_option maxHeartbeats 1000000 in
theorem sameZ_any (a0 a1 : Option Addr) (n c0 c1 : Nat) (l : List Int) (w : World) (h0 : RdS w a0 n c0 1 (l.map (Value.int .i64))) (h1 : RdS w a1 n c1 1 (l.map (Value.int .i64))) (hl : l.length = n) :
    Calls Tryz.prog 58 #[.slice a0 n c0, .slice a1 n c1, .func (.func 59) #[] #[]] w fun e w' => e = .returned (.bool true) ∧ Below w.heap.size w w' := by
  have s0 := h0.small
  have hb : ((n : Int) != (n : Int)) = false := by simp
  have HL := Lib.hid hl
  clear hl
  go_enter Tryz.func58, Tryz.ntmps58
  go_wp2
  go_loopw [7] (fun i wr => ∃ k : Nat, k ≤ n ∧ i = .int .i64 k ∧ Below w.heap.size w wr) (fun i _ => n - (intOf i).toNat)
  case atStart => exact ⟨0, Nat.zero_le _, rfl, Below.refl _ _⟩
  case round =>
    obtain ⟨k, hk, rfl, hbr⟩ := hrel
    by_cases hl : k < n
    · obtain ⟨b0, o0, rfl, hlt0, hc0⟩ := rds_int h0 HL.out hl
      obtain ⟨b1, o1, rfl, hlt1, hc1⟩ := rds_int h1 HL.out hl
      have i1 : (k : Int) < (n : Int) := by omega
      have HC0 := Lib.hid hc0
      have HC1 := Lib.hid hc1
      clear hc0 hc1
      have Td := hbr.drew
      go_wp2_with fail
      go_region_held3 (fun w' => w'.cell? ⟨b0, o0 + k, none⟩ = some (.int .i64 (nthZ l k)) ∧ w'.cell? ⟨b1, o1 + k, none⟩ = some (.int .i64 (nthZ l k)))
        (exact ⟨HC0.out _ Td, HC1.out _ Td⟩)
        (first | (go_at_call 59; refine (plainZ1_any (nthZ l k) _).mono ?_; rintro e w3 ⟨rfl, hb3⟩; replace Td := Td.trans (hb3.mono Td.size)))
      go_wp2
      go_roundw
      case rel => exact ⟨k + 1, by omega, by go_num, Td⟩
      case measure => simp [intOf]; omega
    · have i1 : (n : Int) ≤ (k : Int) := by omega
      go_wp2
      go_ret
      exact ⟨rfl, hbr⟩

set_option maxHeartbeats 400000 in
theorem plainZ_any (a0 a1 : Option Addr) (n c0 c1 : Nat) (l : List Int) (w : World) (h0 : RdS w a0 n c0 1 (l.map (Value.int .i64))) (h1 : RdS w a1 n c1 1 (l.map (Value.int .i64))) (hl : l.length = n) :
    Calls Tryz.prog 36 #[.slice a0 n c0, .slice a1 n c1] w fun e w' => e = .returned (.bool true) ∧ Below w.heap.size w w' := by
  have hs := sameZ_any a0 a1 n c0 c1 l
  go_enter Tryz.func36, Tryz.ntmps36
  go_wp2_with fail
  refine (hs _ h0 h1 hl).mono ?_
  rintro e w1 ⟨rfl, hb⟩
  go_wp2
  go_ret
  exact ⟨rfl, hb⟩
end Go.Proofs.YtnanalaienlbpaaGreat
