/- weighbridgehelp at slices of packets: two that hold the same packets are held to be the same. -/
import Derived.Test.YtnanalaienlbpaaFlow5
import Derived.WalkLawsBesides
namespace Go.Proofs.Ytnanalaienlbpaa
set_option linter.unusedVariables false
set_option linter.unusedSimpArgs false
open Go.RowKit Go.Proofs.YtnanalaienlbpaaMem

def nthP (l : List Pk) (k : Nat) : Pk := l.getD k Pk.zero
theorem nthP_eq {l : List Pk} {k : Nat} (h : k < l.length) : nthP l k = l[k] := by simp [nthP, h]
theorem pks_at (l : List Pk) : ∀ (k : Nat), k < l.length → ∀ i u, (nthP l k).cells[i]? = some u → (pks l)[k * 3 + i]? = some u := by
  induction l with
  | nil => intro k hk; cases hk
  | cons p l ih =>
    intro k hk i u hu
    rw [pks_cons]
    cases k with
    | zero =>
      have e : nthP (p :: l) 0 = p := rfl
      rw [e] at hu
      have hi : i < p.cells.length := (List.getElem?_eq_some_iff.1 hu).1
      rw [Nat.zero_mul, Nat.zero_add, List.getElem?_append_left hi]; exact hu
    | succ k =>
      have e : nthP (p :: l) (k + 1) = nthP l k := by simp [nthP]
      rw [e] at hu
      have h3 : p.cells.length = 3 := rfl
      rw [List.getElem?_append_right (by omega), h3, show (k + 1) * 3 + i - 3 = k * 3 + i by omega]
      exact ih k (by simpa using hk) i u hu

set_option maxHeartbeats 400000 in
theorem plainP1_any (p : Pk) (w : World) :
    Calls Try.prog 39 #[.agg #[.int .i64 p.flow, .int .i64 p.len, .int .i64 p.mark], .agg #[.int .i64 p.flow, .int .i64 p.len, .int .i64 p.mark]] w fun e w' => e = .returned (.bool true) ∧ Below w.heap.size w w' := by
  go_enter Try.func39, Try.ntmps39
  go_wp2
  go_ret
  exact ⟨by simp [Act.eval], ((Below.refl _ _).alloc (Nat.le_refl _) _).alloc (by simp) _⟩

/-- The cells of the k-th packet. -/
theorem rds_pk {w : World} {ao : Option Addr} {n cap : Nat} {l : List Pk} (h : RdS w ao n cap 3 (pks l)) (hl : l.length = n) {k : Nat} (hk : k < n) :
    ∃ b off, ao = some ⟨b, off, none⟩ ∧ b < w.heap.size ∧ ∀ w', Below w.heap.size w w' → w'.cell? ⟨b, off + k * 3, none⟩ = some (.int .i64 (nthP l k).flow) ∧ w'.cell? ⟨b, off + k * 3 + 1, none⟩ = some (.int .i64 (nthP l k).len) ∧ w'.cell? ⟨b, off + k * 3 + 2, none⟩ = some (.int .i64 (nthP l k).mark) := by
  have c0 := pks_at l k (by omega) 0 _ rfl
  have c1 := pks_at l k (by omega) 1 _ rfl
  have c2 := pks_at l k (by omega) 2 _ rfl
  obtain ⟨b, off, e, hb, h0⟩ := h.at_ _ _ c0
  obtain ⟨b1, off1, e1, hb1, h1⟩ := h.at_ _ _ c1
  obtain ⟨b2, off2, e2, hb2, h2⟩ := h.at_ _ _ c2
  subst e
  simp only [Option.some.injEq, Addr.mk.injEq, and_true] at e1 e2
  obtain ⟨rfl, rfl⟩ := e1
  obtain ⟨rfl, rfl⟩ := e2
  exact ⟨b, off, rfl, hb, fun w' hbl => ⟨(hbl.cell (p := ⟨b, off + k * 3, none⟩) hb).trans h0, (hbl.cell (p := ⟨b, off + k * 3 + 1, none⟩) hb).trans (by rw [← Nat.add_assoc] at h1; exact h1), (hbl.cell (p := ⟨b, off + k * 3 + 2, none⟩) hb).trans (by rw [← Nat.add_assoc] at h2; exact h2)⟩⟩

set_option maxHeartbeats 1000000 in
theorem sameP_any (a0 a1 : Option Addr) (n c0 c1 : Nat) (l : List Pk) (w : World) (h0 : RdS w a0 n c0 3 (pks l)) (h1 : RdS w a1 n c1 3 (pks l)) (hl : l.length = n) :
    Calls Try.prog 38 #[.slice a0 n c0, .slice a1 n c1, .func (.func 39) #[] #[]] w fun e w' => e = .returned (.bool true) ∧ Below w.heap.size w w' := by
  have s0 := h0.small
  have hb : ((n : Int) != (n : Int)) = false := by simp
  have HL := Lib.hid hl
  clear hl
  go_enter Try.func38, Try.ntmps38
  go_wp2
  go_loopw [7] (fun i wr => ∃ k : Nat, k ≤ n ∧ i = .int .i64 k ∧ Below w.heap.size w wr) (fun i _ => n - (intOf i).toNat)
  case atStart => exact ⟨0, Nat.zero_le _, rfl, Below.refl _ _⟩
  case round =>
    obtain ⟨k, hk, rfl, hbr⟩ := hrel
    by_cases hl : k < n
    · obtain ⟨b0, o0, rfl, hlt0, hc0⟩ := rds_pk h0 HL.out hl
      obtain ⟨b1, o1, rfl, hlt1, hc1⟩ := rds_pk h1 HL.out hl
      have i1 : (k : Int) < (n : Int) := by omega
      have HC0 := Lib.hid hc0
      have HC1 := Lib.hid hc1
      clear hc0 hc1
      have Td := hbr.drew
      go_wp2_with fail
      go_region_held3 (fun w' => (w'.cell? ⟨b0, o0 + k * 3, none⟩ = some (.int .i64 (nthP l k).flow) ∧ w'.cell? ⟨b0, o0 + k * 3 + 1, none⟩ = some (.int .i64 (nthP l k).len) ∧ w'.cell? ⟨b0, o0 + k * 3 + 2, none⟩ = some (.int .i64 (nthP l k).mark)) ∧ (w'.cell? ⟨b1, o1 + k * 3, none⟩ = some (.int .i64 (nthP l k).flow) ∧ w'.cell? ⟨b1, o1 + k * 3 + 1, none⟩ = some (.int .i64 (nthP l k).len) ∧ w'.cell? ⟨b1, o1 + k * 3 + 2, none⟩ = some (.int .i64 (nthP l k).mark)))
        (exact ⟨HC0.out _ Td, HC1.out _ Td⟩)
        (first | (go_at_call 39; refine (plainP1_any (nthP l k) _).mono ?_; rintro e w3 ⟨rfl, hb3⟩; replace Td := Td.trans (hb3.mono Td.size)))
      go_wp2
      go_roundw
      case rel => exact ⟨k + 1, by omega, by go_num, Td⟩
      case measure => simp [intOf]; omega
    · have i1 : (n : Int) ≤ (k : Int) := by omega
      go_wp2
      go_ret
      exact ⟨rfl, hbr⟩

set_option maxHeartbeats 400000 in
theorem plainP_any (a0 a1 : Option Addr) (n c0 c1 : Nat) (l : List Pk) (w : World) (h0 : RdS w a0 n c0 3 (pks l)) (h1 : RdS w a1 n c1 3 (pks l)) (hl : l.length = n) :
    Calls Try.prog 23 #[.slice a0 n c0, .slice a1 n c1] w fun e w' => e = .returned (.bool true) ∧ Below w.heap.size w w' := by
  have hs := sameP_any a0 a1 n c0 c1 l
  go_enter Try.func23, Try.ntmps23
  go_wp2_with fail
  refine (hs _ h0 h1 hl).mono ?_
  rintro e w1 ⟨rfl, hb⟩
  go_wp2
  go_ret
  exact ⟨rfl, hb⟩
end Go.Proofs.Ytnanalaienlbpaa
