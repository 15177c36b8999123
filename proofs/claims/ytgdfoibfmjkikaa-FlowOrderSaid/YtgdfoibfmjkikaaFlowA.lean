/- What the laws on flows take, ls plain data; FlowRoom. -/
import Derived.Test.YtgdfoibfmjkikaaFlowM
import Derived.Test.YtgdfoibfmjkikaaFlat
import Derived.OpenShut
namespace Go.Proofs.Ytgdfoibfmjkikaa
set_option linter.unusedVariables false
set_option linter.unusedSimpArgs false
open Go.RowKit Go.Proofs.YtgdfoibfmjkikaaMem Go.Proofs.YtgdfoibfmjkikaaFlat

theorem wf_u64 {n : Int} (h : (Lit.int .u64 n).wf = true) : W64 n := by
  have h' : IntKind.u64.min ≤ n ∧ n ≤ IntKind.u64.max := by simpa [Lit.wf] using h
  have e1 : IntKind.u64.min = 0 := by decide
  have e2 : IntKind.u64.max = 18446744073709551615 := by decide
  rw [e1, e2] at h'
  unfold W64; omega
theorem wf_i64 {n : Int} (h : (Lit.int .i64 n).wf = true) : I64 n := i64_of_wf h
theorem pk_of {cs : List Value} (h : FlatOk [.int .i64, .int .i64, .int .i64] cs) : ∃ p : Pk, cs = p.cells ∧ p.Ok := by
  obtain ⟨c, r, rfl, ⟨a, rfl, ha⟩, c2, r2, rfl, ⟨b, rfl, hb⟩, c3, r3, rfl, ⟨d, rfl, hd⟩, rfl⟩ := h
  exact ⟨⟨a, b, d⟩, rfl, wf_i64 ha, wf_i64 hb, wf_i64 hd⟩
theorem act_of {cs : List Value} (h : FlatOk [.int .i64, .int .u64, .int .i64, .int .i64, .int .i64] cs) : ∃ a : ActS, cs = a.cells ∧ a.Ok := by
  obtain ⟨c, r, rfl, ⟨k, rfl, hk⟩, c1, r1, rfl, ⟨v, rfl, hv⟩, h2⟩ := h
  obtain ⟨p, rfl, hp⟩ := pk_of h2
  exact ⟨⟨k, v, p⟩, rfl, wf_i64 hk, wf_u64 hv, hp⟩
theorem rows_acts {L : List (List Value)} (h : ∀ l ∈ L, FlatOk [.int .i64, .int .u64, .int .i64, .int .i64, .int .i64] l) : ∃ ls : List ActS, L = ls.map ActS.cells ∧ ∀ a ∈ ls, a.Ok := by
  induction L with
  | nil => exact ⟨[], rfl, fun a ha => by cases ha⟩
  | cons l L ih =>
    obtain ⟨ls, rfl, ho⟩ := ih fun l hl => h l (List.mem_cons_of_mem _ hl)
    obtain ⟨a, rfl, ha⟩ := act_of (h l (List.mem_cons_self ..))
    refine ⟨a :: ls, rfl, fun a' h' => ?_⟩
    rcases List.mem_cons.1 h' with rfl | h'
    · exact ha
    · exact ho a' h'

def nthA (ls : List ActS) (k : Nat) : ActS := ls.getD k ⟨0, 0, 0, 0, 0⟩
theorem nthA_eq {ls : List ActS} {k : Nat} (h : k < ls.length) : nthA ls k = ls[k] := by simp [nthA, h]
/-- What a slice of acts reads ls. -/
structure RdA (w : World) (ao : Option Addr) (n cap : Nat) (ls : List ActS) : Prop where
  len : ls.length = n
  small : n ≤ 9223372036854775807
  ok : ∀ a ∈ ls, a.Ok
  at_ : ∀ k, k < n → ∃ b off, ao = some ⟨b, off, none⟩ ∧ b < w.heap.size ∧ ∀ i u, (nthA ls k).cells[i]? = some u → w.cell? ⟨b, off + k * 5 + i, none⟩ = some u
theorem RdA.below {w w' : World} {ao : Option Addr} {n cap : Nat} {ls : List ActS} (h : RdA w ao n cap ls) (hb : Below w.heap.size w w') : RdA w' ao n cap ls :=
  ⟨h.len, h.small, h.ok, fun k hk => let ⟨b, off, e, hlt, hc⟩ := h.at_ k hk; ⟨b, off, e, Nat.lt_of_lt_of_le hlt hb.size, fun i u hu => (hb.cell (p := ⟨b, off + k * 5 + i, none⟩) hlt).trans (hc i u hu)⟩⟩
theorem RdA.nth_ok {w : World} {ao : Option Addr} {n cap : Nat} {ls : List ActS} (h : RdA w ao n cap ls) (k : Nat) : (nthA ls k).Ok := by
  by_cases hk : k < ls.length
  · rw [nthA_eq hk]; exact h.ok _ (List.getElem_mem hk)
  · have : nthA ls k = ⟨0, 0, 0, 0, 0⟩ := by simp [nthA, List.getD_eq_getElem?_getD, List.getElem?_eq_none (show ls.length ≤ k by omega)]
    rw [this]; exact ⟨by decide, by decide, by decide⟩
theorem isRows_rdA {w : World} {ao : Option Addr} {len cap : Nat} {L : List (List Value)} (h : IsRows w [.int .i64, .int .u64, .int .i64, .int .i64, .int .i64] ao len cap L) : ∃ ls, RdA w ao len cap ls := by
  obtain ⟨hl, hc, hm, hn, hf, hat⟩ := h
  obtain ⟨ls, rfl, ho⟩ := rows_acts hf
  simp only [List.length_map] at hl
  refine ⟨ls, hl, by unfold maxLen at hm; omega, ho, fun k hk => ?_⟩
  obtain ⟨b, off, he, hb, hcell⟩ := hat (by omega)
  refine ⟨b, off, he, hb, fun i u hu => ?_⟩
  have hk' : k < ls.length := by omega
  have h2 := hcell k (nthA ls k).cells (by simp [hk', nthA_eq hk']) i u hu
  simpa [Nat.add_assoc] using h2

/-- A flow into which the one packet came k times. -/
def FlS.filled (r n : Int) (p : Pk) (k : Nat) : FlS := ⟨r, n, 0, 0, List.replicate k p⟩
theorem FlS.filled_step {r n : Int} {p : Pk} {k : Nat} (h : (k : Int) < n) : (FlS.filled r n p k).full = false ∧ (FlS.filled r n p k).arrive 0 p = FlS.filled r n p (k + 1) := by
  have hf : (FlS.filled r n p k).full = false := by simp [FlS.full, FlS.filled]; omega
  refine ⟨hf, ?_⟩
  unfold FlS.arrive
  rw [hf]
  simp [FlS.put, FlS.filled, List.replicate_succ']
theorem FlS.filled_full {r : Int} {n : Nat} {p : Pk} : (FlS.filled r n p n).full = true := by simp [FlS.full, FlS.filled]
theorem FlS.filled_ok {r n : Int} {p : Pk} {k : Nat} (hr : W64 r) (hp : p.Ok) (h1 : 1 ≤ n) (h8 : n ≤ 8) (hk : (k : Int) ≤ n) : (FlS.filled r n p k).Ok :=
  ⟨hr, (by decide : W64 0), (by decide : W64 0), h1, h8, by simpa [FlS.filled] using hk, fun q hq => by simp [FlS.filled] at hq; rw [hq.2]; exact hp⟩
end Go.Proofs.Ytgdfoibfmjkikaa
