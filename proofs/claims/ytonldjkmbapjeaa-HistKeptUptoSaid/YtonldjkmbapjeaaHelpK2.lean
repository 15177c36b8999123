/- weighbridgehelp at calls: all of a row of calls is written over. -/
import Derived.Test.YtonldjkmbapjeaaHelpK
namespace Go.Proofs.Ytonldjkmbapjeaa
set_option linter.unusedVariables false
set_option linter.unusedSimpArgs false
open Go.RowKit Go.Proofs.YtonldjkmbapjeaaMem Go.Proofs.YtonldjkmbapjeaaFlat

set_option maxRecDepth 20000 in
set_option maxHeartbeats 4000000 in
theorem spoilD_any (v : Value) (n base : Nat) (w : World) (h : AnyRow w base 31 12 v n) :
    Calls Try.prog 30 #[v] w (SpoilPost w base 31 12 n v) := by
  obtain ⟨xs, h0⟩ := h
  obtain ⟨ao, cap, rfl⟩ := owns_slice h0
  have hcap := owns_cap h0
  have hn : n ≤ 9223372036854775807 := by have h1 := hcap.2.1; have h2 := hcap.2.2.1; unfold maxLen at h2; omega
  have HZ := Lib.hid (heap_alloc_new w (.cells #[.int .i64 0, .int .i64 0, .int .i64 0, .int .i64 0, .int .i64 0, .int .i64 0, .int .i64 0, .slice none 0 0, .int .i64 0, .int .u64 0, .int .i64 0, .int .i64 0] 31))
  have hlt0 := fun k hk => (h0.lt k hk).2
  have H0 := Lib.hid (show AnyRow (w.alloc (.cells #[.int .i64 0, .int .i64 0, .int .i64 0, .int .i64 0, .int .i64 0, .int .i64 0, .int .i64 0, .slice none 0 0, .int .i64 0, .int .u64 0, .int .i64 0, .int .i64 0] 31)) base 31 12 (.slice ao n cap) n from ⟨xs, h0.alloc _⟩)
  have HG := Lib.hid (World.grownBy_alloc w (.cells #[.int .i64 0, .int .i64 0, .int .i64 0, .int .i64 0, .int .i64 0, .int .i64 0, .int .i64 0, .slice none 0 0, .int .i64 0, .int .u64 0, .int .i64 0, .int .i64 0] 31) (Value.slice ao n cap).ownBlock)
  have HLT := Lib.hid hlt0
  clear hcap h0 hlt0
  go_enter Try.func30, Try.ntmps30
  go_upto_region 1 with fail
  generalize w.alloc (.cells #[.int .i64 0, .int .i64 0, .int .i64 0, .int .i64 0, .int .i64 0, .int .i64 0, .int .i64 0, .slice none 0 0, .int .i64 0, .int .u64 0, .int .i64 0, .int .i64 0] 31) = W at *
  obtain ⟨Z, hZ⟩ : ∃ Z, Z = w.heap.size := ⟨_, rfl⟩
  rw [← hZ] at HZ HLT ⊢
  clear hZ
  go_wp2_with fail
  go_loopw [3] (fun i wr => ∃ k : Nat, k ≤ n ∧ i = .int .i64 k ∧ AnyRow wr base 31 12 (.slice ao n cap) n ∧ w.grownBy wr (Value.slice ao n cap).ownBlock ∧ wr.heap[Z]? = some (.cells #[.int .i64 0, .int .i64 0, .int .i64 0, .int .i64 0, .int .i64 0, .int .i64 0, .int .i64 0, .slice none 0 0, .int .i64 0, .int .u64 0, .int .i64 0, .int .i64 0] 31 (0, 0))) (fun i _ => n - (intOf i).toNat)
  case atStart => exact ⟨0, Nat.zero_le _, rfl, H0.out, HG.out, HZ.out⟩
  case round =>
    obtain ⟨k, hk, rfl, hany, hgr, hzb⟩ := hrel
    by_cases hl : k < n
    · have hany' := hany
      obtain ⟨ys, hownr⟩ := hany'
      obtain ⟨g, cap', hv, hg, hglt⟩ := hownr.form (by omega)
      simp only [Value.slice.injEq] at hv
      obtain ⟨rfl, _, rfl⟩ := hv
      have hle : k * 12 + 12 ≤ cap * 12 := by have := (owns_cap hownr).2.1; omega
      obtain ⟨u0, hu0⟩ := owns_spare hownr (j := k * 12) (by omega)
      have z0 := hownr.frozenAt (k * 12)
      obtain ⟨u1, hu1⟩ := owns_spare hownr (j := k * 12 + 1) (by omega)
      have z1 := hownr.frozenAt (k * 12 + 1)
      obtain ⟨u2, hu2⟩ := owns_spare hownr (j := k * 12 + 2) (by omega)
      have z2 := hownr.frozenAt (k * 12 + 2)
      obtain ⟨u3, hu3⟩ := owns_spare hownr (j := k * 12 + 3) (by omega)
      have z3 := hownr.frozenAt (k * 12 + 3)
      obtain ⟨u4, hu4⟩ := owns_spare hownr (j := k * 12 + 4) (by omega)
      have z4 := hownr.frozenAt (k * 12 + 4)
      obtain ⟨u5, hu5⟩ := owns_spare hownr (j := k * 12 + 5) (by omega)
      have z5 := hownr.frozenAt (k * 12 + 5)
      obtain ⟨u6, hu6⟩ := owns_spare hownr (j := k * 12 + 6) (by omega)
      have z6 := hownr.frozenAt (k * 12 + 6)
      obtain ⟨u7, hu7⟩ := owns_spare hownr (j := k * 12 + 7) (by omega)
      have z7 := hownr.frozenAt (k * 12 + 7)
      obtain ⟨u8, hu8⟩ := owns_spare hownr (j := k * 12 + 8) (by omega)
      have z8 := hownr.frozenAt (k * 12 + 8)
      obtain ⟨u9, hu9⟩ := owns_spare hownr (j := k * 12 + 9) (by omega)
      have z9 := hownr.frozenAt (k * 12 + 9)
      obtain ⟨u10, hu10⟩ := owns_spare hownr (j := k * 12 + 10) (by omega)
      have z10 := hownr.frozenAt (k * 12 + 10)
      obtain ⟨u11, hu11⟩ := owns_spare hownr (j := k * 12 + 11) (by omega)
      have z11 := hownr.frozenAt (k * 12 + 11)
      have hzb' : BoxD wr Z DoneS.zero 31 := hzb
      obtain ⟨x0, x1, x2, x3, x4, x5, x6, x7, x8, x9, x10, x11⟩ := hzb'.cells
      simp only [DoneS.zero] at x0 x1 x2 x3 x4 x5 x6 x7 x8 x9 x10 x11
      have hgZ : Z ≠ g := by have := HLT.out g rfl; omega
      have A1 := Lib.hid ((((((((((((hany.set (j := k * 12) (.int .i64 0)).set (j := k * 12 + 1) (.int .i64 0)).set (j := k * 12 + 2) (.int .i64 0)).set (j := k * 12 + 3) (.int .i64 0)).set (j := k * 12 + 4) (.int .i64 0)).set (j := k * 12 + 5) (.int .i64 0)).set (j := k * 12 + 6) (.int .i64 0)).set (j := k * 12 + 7) (.slice none 0 0)).set (j := k * 12 + 8) (.int .i64 0)).set (j := k * 12 + 9) (.int .u64 0)).set (j := k * 12 + 10) (.int .i64 0)).set (j := k * 12 + 11) (.int .i64 0))
      have G1 := Lib.hid (grown_both hgr (putCells_grown [.int .i64 0, .int .i64 0, .int .i64 0, .int .i64 0, .int .i64 0, .int .i64 0, .int .i64 0, .slice none 0 0, .int .i64 0, .int .u64 0, .int .i64 0, .int .i64 0] wr g (k * 12)))
      have Z1 := Lib.hid ((((((((((((Blk.set_far (cs := [.int .i64 0, .int .i64 0, .int .i64 0, .int .i64 0, .int .i64 0, .int .i64 0, .int .i64 0, .slice none 0 0, .int .i64 0, .int .u64 0, .int .i64 0, .int .i64 0]) (t := 31) hzb (a := ⟨g, k * 12, none⟩) hgZ (.int .i64 0)).set_far (a := ⟨g, k * 12 + 1, none⟩) hgZ (.int .i64 0)).set_far (a := ⟨g, k * 12 + 2, none⟩) hgZ (.int .i64 0)).set_far (a := ⟨g, k * 12 + 3, none⟩) hgZ (.int .i64 0)).set_far (a := ⟨g, k * 12 + 4, none⟩) hgZ (.int .i64 0)).set_far (a := ⟨g, k * 12 + 5, none⟩) hgZ (.int .i64 0)).set_far (a := ⟨g, k * 12 + 6, none⟩) hgZ (.int .i64 0)).set_far (a := ⟨g, k * 12 + 7, none⟩) hgZ (.slice none 0 0)).set_far (a := ⟨g, k * 12 + 8, none⟩) hgZ (.int .i64 0)).set_far (a := ⟨g, k * 12 + 9, none⟩) hgZ (.int .u64 0)).set_far (a := ⟨g, k * 12 + 10, none⟩) hgZ (.int .i64 0)).set_far (a := ⟨g, k * 12 + 11, none⟩) hgZ (.int .i64 0))
      clear hgr hany hownr hzb hzb'
      go_wp2
      go_roundw
      case rel => exact ⟨k + 1, by omega, by go_num, A1.out, G1.out, Z1.out⟩
      case measure => simp [intOf]; omega
    · have A1 := Lib.hid hany
      have G1 := Lib.hid hgr
      clear hany hgr hzb
      go_wp2
      go_end0
      exact ⟨rfl, G1.out, A1.out⟩
end Go.Proofs.Ytonldjkmbapjeaa
