/- HistParts: of any calls the program tells the parts that the reference tells. -/
import Derived.Test.YtonldjkmbapjeaaHist12
import Derived.Test.YtonldjkmbapjeaaHelpD
import Derived.Test.YtonldjkmbapjeaaBulk
namespace Go.Proofs.Ytonldjkmbapjeaa
set_option linter.unusedVariables false
set_option linter.unusedSimpArgs false
open Go.RowKit Go.Proofs.YtonldjkmbapjeaaMem Go.Proofs.YtonldjkmbapjeaaFlat

theorem someD_short {l : List DoneS} (h : ∀ d ∈ l, d.len ≤ 1048576) : ∀ d ∈ someD l, d.len ≤ 1048576 := by
  intro d hd
  simp only [someD, List.mem_map] at hd
  obtain ⟨x, hx, rfl⟩ := hd
  rw [(nearD_packets x).2.1]
  exact h x (List.mem_of_mem_take hx)
/-- What the bound says of the packets. -/
theorem short_dones {w : World} {ao : Option Addr} {len cap : Nat} {L : List (List Value)} {l : List DoneS} (h : IsNest w doneK ao len cap L) (hl : RdD w ao len cap l) (hs : ∀ x ∈ L, bulks.Short 1048576 x) : ∀ d ∈ l, d.len ≤ 1048576 := by
  intro d hd
  obtain ⟨k, hk, rfl⟩ := List.mem_iff_getElem.1 hd
  have hkl : k < len := by rw [← hl.len]; exact hk
  obtain ⟨h1, h2, h3, h4, hN, hat⟩ := h
  obtain ⟨b, off, rfl, hb, hcell⟩ := hat (by omega)
  obtain ⟨b', off', e', _, hc⟩ := hl.cells hkl
  simp only [Option.some.injEq, Addr.mk.injEq, and_true] at e'
  obtain ⟨rfl, rfl⟩ := e'
  have hkL : k < L.length := by omega
  obtain ⟨d', hd', _, _⟩ := done_of (hN L[k] (List.getElem_mem hkL))
  have a1 := hcell k L[k] (List.getElem?_eq_getElem hkL) 7 (.slice d'.ao d'.len d'.cap) (by rw [hd']; rfl)
  have a2 := hc w (Below.refl _ _) 7 _ rfl
  have a3 : w.cell? ⟨b, off + k * 12 + 7, none⟩ = some (.slice d'.ao d'.len d'.cap) := by rw [← a1]; congr 2
  rw [a2] at a3
  simp only [Option.some.injEq, Value.slice.injEq] at a3
  have := hs L[k] (List.getElem_mem hkL) d'.ao d'.len d'.cap (by rw [hd']; simp [DoneS.cells])
  rw [nthD_eq hk] at a3
  omega

set_option maxRecDepth 20000 in
set_option maxHeartbeats 1000000 in
theorem HistParts_1 (ao : Option Addr) (n0 cap : Nat) (l : List DoneS) (w : World) (h : RdD w ao n0 cap l) (hs : ∀ d ∈ l, d.len ≤ 1048576) :
    Calls Try.prog 5 #[.slice ao n0 cap] w fun e w' => e = .returned (.bool true) ∧ Below w.heap.size w w' := by
  have hl40 : (someD l).length ≤ 40 := by rw [someD_length]; omega
  have hg := h.good.some
  have HS := Lib.hid (someD_short hs)
  go_enter Try.func5, Try.ntmps5
  go_wp2_with fail
  refine (some_any ao n0 cap l _ h).mono ?_
  rintro e w1 ⟨v, rfl, hown, hb1⟩
  obtain ⟨pa, pc, rfl⟩ := owns_slice hown
  have r1 := owns_rdD hown rfl (hg.below hb1)
  generalize someD l = L at *
  clear hown hg h hs
  go_wp2_with fail
  refine (awake_any _).mono ?_
  rintro e w2 ⟨rfl, hb2⟩
  have r2 := r1.below hb2
  have B2 := below_step hb1 hb2
  go_wp2_with fail
  refine (histParts_any pa L.length pc L _ r2 (by omega) HS.out).mono ?_
  rintro e w3 ⟨v3, l3, rfl, hm3, hown3, hb3⟩
  obtain ⟨a3, c3, rfl⟩ := hown3.slice
  have r3 := r2.below hb3
  have B3 := below_step B2 hb3
  go_wp2_with fail
  refine (refParts_any pa L.length pc L _ r3 (by omega) HS.out).mono ?_
  rintro e w4 ⟨v4, l4, rfl, hm4, hown4, hb4⟩
  obtain ⟨a4, c4, rfl⟩ := hown4.slice
  have B4 := below_step B3 hb4
  have hmm : l3.map DoneS.bare = l4.map DoneS.bare := hm3.trans hm4.symm
  have hlen : l4.length = l3.length := by have := congrArg List.length hmm; simpa using this.symm
  have x3 := (hown3.below hb4).rd
  have x4 := hown4.rd
  rw [hlen] at x4 ⊢
  have HMM := Lib.hid hmm
  have X3 := Lib.hid x3
  have X4 := Lib.hid x4
  clear hm3 hm4 hmm hlen x3 x4 hown3 hown4 r1 r2 r3
  go_wp2_with fail
  refine (sameD_any a3 a4 l3.length c3 c4 l3 l4 _ X3.out X4.out HMM.out).mono ?_
  rintro e w5 ⟨rfl, hb5⟩
  go_wp2
  go_ret
  exact ⟨rfl, below_step B4 hb5⟩

theorem HistParts_any (w : World) (ao : Option Addr) (len cap : Nat) (L : List (List Value)) (h : IsNest w doneK ao len cap L) (hs : ∀ l ∈ L, bulks.Short 1048576 l) :
    Calls Try.prog 5 #[.slice ao len cap] w fun e w' => e = .returned (.bool true) ∧ Below w.heap.size w w' := by
  obtain ⟨l, hl⟩ := isNest_rdD h
  exact HistParts_1 ao len cap l w hl (short_dones h hl hs)
end Go.Proofs.Ytonldjkmbapjeaa
