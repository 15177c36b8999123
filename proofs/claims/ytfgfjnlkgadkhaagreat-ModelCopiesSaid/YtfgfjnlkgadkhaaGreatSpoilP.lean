/- help.Spoil at packets: nothing but the row's own block turns. -/
import Derived.Test.YtfgfjnlkgadkhaaGreatGm
import Derived.Test.YtfgfjnlkgadkhaaGreatGa
namespace Go.Proofs.YtfgfjnlkgadkhaaGreat
set_option linter.unusedVariables false
set_option linter.unusedSimpArgs false
set_option maxRecDepth 20000
open Go.RowKit Go.Proofs.YtfgfjnlkgadkhaaGreatMem

set_option maxHeartbeats 1000000 in
theorem spoilP_any (v : Value) (n base : Nat) (w : World) (xs : List Value) (h0 : w.ownsRow base 60 3 v n xs) :
    Calls Tryz.prog 26 #[v] w fun e w' => e = .returned (.tuple #[]) ∧ Fr (fun k => v.ownBlock = some k) w w' := by
  obtain ⟨ao, cap, rfl⟩ := owns_slice h0
  have hcap := owns_cap h0
  have hn : n ≤ 9223372036854775807 := by have h1 := hcap.2.1; have h2 := hcap.2.2.1; unfold maxLen at h2; omega
  have HLT := Lib.hid (fun k hk => (h0.lt k hk).2)
  have H0 : AnyRow (w.alloc (.cells #[.int .i64 0, .int .i64 0, .int .i64 0] 60)) base 60 3 (.slice ao n cap) n := ⟨xs, h0.alloc _⟩
  have hb1 : Fr (fun k => (Value.slice ao n cap).ownBlock = some k) w (w.alloc (.cells #[.int .i64 0, .int .i64 0, .int .i64 0] 60)) := Fr.of_below (below1 w _)
  have Z0 := Blk.new w [.int .i64 0, .int .i64 0, .int .i64 0] 60
  clear hcap h0
  go_enter Tryz.func26, Tryz.ntmps26
  go_upto_region 1 with fail
  generalize w.alloc (.cells #[.int .i64 0, .int .i64 0, .int .i64 0] 60) = W at *
  generalize hz : w.heap.size = Z at *
  clear hz
  go_wp2_with fail
  go_loopw [3] (fun i wr => ∃ k : Nat, k ≤ n ∧ i = .int .i64 k ∧ AnyRow wr base 60 3 (.slice ao n cap) n ∧ Fr (fun k => (Value.slice ao n cap).ownBlock = some k) w wr ∧ Blk wr Z [.int .i64 0, .int .i64 0, .int .i64 0] 60) (fun i _ => n - (intOf i).toNat)
  case atStart => exact ⟨0, Nat.zero_le _, rfl, H0, hb1, Z0⟩
  case round =>
    obtain ⟨k, hk, rfl, hany, hbr, hzb⟩ := hrel
    clear H0 hb1 Z0
    by_cases hl : k < n
    · have i1 : (k : Int) < (n : Int) := by omega
      have hany' := hany
      obtain ⟨ys, hownr⟩ := hany'
      obtain ⟨g, cap', hv, hg, hglt⟩ := hownr.form (by omega)
      simp only [Value.slice.injEq] at hv
      obtain ⟨rfl, _, rfl⟩ := hv
      obtain ⟨u0, hu0⟩ := any_cell hownr (j := k * 3) (by omega)
      obtain ⟨u1, hu1⟩ := any_cell hownr (j := k * 3 + 1) (by omega)
      obtain ⟨u2, hu2⟩ := any_cell hownr (j := k * 3 + 2) (by omega)
      have z0 := hownr.frozenAt (k * 3)
      have z1 := hownr.frozenAt (k * 3 + 1)
      have z2 := hownr.frozenAt (k * 3 + 2)
      have x0 := hzb.cell 0
      have x1 := hzb.cell 1
      have x2 := hzb.cell 2
      simp only [List.getElem?_cons_succ, List.getElem?_cons_zero] at x0 x1 x2
      have hgZ : Z ≠ g := by have := HLT.out g rfl; omega
      have A1 := Lib.hid (((hany.set (j := k * 3) (.int .i64 0)).set (j := k * 3 + 1) (.int .i64 0)).set (j := k * 3 + 2) (.int .i64 0))
      have G1 := Lib.hid (((hbr.setCell (a := ⟨g, k * 3, none⟩) (.inl rfl) (.int .i64 0)).setCell (a := ⟨g, k * 3 + 1, none⟩) (.inl rfl) (.int .i64 0)).setCell (a := ⟨g, k * 3 + 2, none⟩) (.inl rfl) (.int .i64 0))
      have Z1 := Lib.hid (((hzb.set_far (a := ⟨g, k * 3, none⟩) hgZ (.int .i64 0)).set_far (a := ⟨g, k * 3 + 1, none⟩) hgZ (.int .i64 0)).set_far (a := ⟨g, k * 3 + 2, none⟩) hgZ (.int .i64 0))
      clear hbr hany hownr hzb
      go_wp2
      go_roundw
      case rel => exact ⟨k + 1, by omega, by go_num, A1.out, G1.out, Z1.out⟩
      case measure => simp [intOf]; omega
    · have i1 : (n : Int) ≤ (k : Int) := by omega
      have G1 := Lib.hid hbr
      clear hany hbr hzb
      go_wp2
      go_end0
      exact ⟨rfl, G1.out⟩
end Go.Proofs.YtfgfjnlkgadkhaaGreat
