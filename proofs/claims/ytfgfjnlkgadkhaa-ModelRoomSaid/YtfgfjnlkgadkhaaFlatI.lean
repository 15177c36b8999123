/- A slice of numbers that came in. -/
import Derived.Test.YtfgfjnlkgadkhaaFlat
import Derived.Test.YtfgfjnlkgadkhaaMem
import Derived.OpenShut
namespace Go.Proofs.YtfgfjnlkgadkhaaMem
set_option linter.unusedVariables false
set_option linter.unusedSimpArgs false
open Go Go.RowKit Go.Proofs.YtfgfjnlkgadkhaaFlat

theorem wf_I64 {n : Int} (h : (Lit.int .i64 n).wf = true) : I64 n := i64_of_wf h

theorem rows_ints {L : List (List Value)} (h : ∀ l ∈ L, FlatOk [.int .i64] l) : ∃ zs : List Int, L = zs.map (fun z => [Value.int .i64 z]) ∧ ∀ z ∈ zs, I64 z := by
  induction L with
  | nil => exact ⟨[], rfl, fun z hz => by cases hz⟩
  | cons l L ih =>
    obtain ⟨zs, rfl, hz⟩ := ih fun l hl => h l (List.mem_cons_of_mem _ hl)
    obtain ⟨c, r, rfl, ⟨n, rfl, hw⟩, rfl⟩ := h l (List.mem_cons_self ..)
    refine ⟨n :: zs, rfl, fun z hz' => ?_⟩
    rcases List.mem_cons.1 hz' with rfl | hz'
    · exact wf_I64 hw
    · exact hz z hz'

theorem isRows_rdI {w : World} {ao : Option Addr} {len cap : Nat} {L : List (List Value)} (h : IsRows w [.int .i64] ao len cap L) : ∃ zs, RdI w ao len cap zs := by
  obtain ⟨hl, hc, hm, hn, hf, hat⟩ := h
  obtain ⟨zs, rfl, hz⟩ := rows_ints hf
  simp only [List.length_map] at hl
  refine ⟨zs, hl, hc, hn, by unfold maxLen at hm; omega, hz, fun k hk => ?_⟩
  obtain ⟨b, off, he, hb, hcell⟩ := hat (by omega)
  refine ⟨b, off, he, hb, ?_⟩
  have hk' : k < zs.length := by omega
  have h2 := hcell k [Value.int .i64 (nth zs k)] (by simp [hk', nth_eq hk']) 0 _ rfl
  simpa using h2
end Go.Proofs.YtfgfjnlkgadkhaaMem
