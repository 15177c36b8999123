/- A clock that is one more, by the program and by the reference; the reference's join and order. -/
import Derived.Test.YtkhhjjjpbfnlmaaClk2
namespace Go.Proofs.Ytkhhjjjpbfnlmaa
set_option linter.unusedVariables false
set_option linter.unusedSimpArgs false
open Go.RowKit Go.Proofs.YtkhhjjjpbfnlmaaMem

def padC (zs : List Int) (k : Nat) : List Int := zs ++ List.replicate (k + 1 - zs.length) 0
def tickC (zs : List Int) (i : Int) : List Int := if 0 ≤ i ∧ i < 64 then (padC zs i.toNat).set i.toNat (wrap64 (nth (padC zs i.toNat) i.toNat + 1)) else zs
def tickN (n : Nat) (i : Int) : Nat := if 0 ≤ i ∧ i < 64 then max n (i.toNat + 1) else n
theorem tickC_length (zs : List Int) (i : Int) : (tickC zs i).length = tickN zs.length i := by
  unfold tickC tickN padC; split <;> simp; omega

/-- A slice's length. -/
def lenV : Value → Nat | .slice _ n _ => n | _ => 0

theorem ints_set (zs : List Int) (k : Nat) (x : Int) : (ints zs).set k (.int .i64 x) = ints (zs.set k x) := by simp [ints, List.map_set]



set_option maxHeartbeats 400000 in
theorem tick_out (ao : Option Addr) (n cap : Nat) (zs : List Int) (i : Int) (w : World) (h : RdI w ao n cap zs) (hn : n ≤ 549755813888) (hi : i < 0 ∨ 63 < i) :
    Calls Try.prog 39 #[.slice ao n cap, .int .i64 i] w (RetRow w 3 1 n (ints zs)) := by
  rcases hi with hi | hi
  all_goals
    go_enter Try.func39, Try.ntmps39
    go_wp2_with (go_at_call 41; refine (clone_any ao n cap zs _ h hn).mono ?_; rintro e w1 ⟨v, rfl, hown, hb⟩)
    go_wp2
    go_ret
    exact ⟨_, rfl, hown, hb⟩

set_option maxHeartbeats 400000 in
theorem tick_in (ao : Option Addr) (n cap : Nat) (zs : List Int) (k : Nat) (w : World) (h : RdI w ao n cap zs) (hn : n ≤ 549755813888) (hk : k < 64) :
    Calls Try.prog 39 #[.slice ao n cap, .int .i64 k] w (RetRow w 3 1 (tickN n k) (ints (tickC zs k))) := by
  have hm : tickN n k = max n (k + 1) := by unfold tickN; rw [if_pos (by omega)]; simp
  have E1 := Lib.hid hm
  have E2 : Hid (tickC zs k = (padC zs k).set k (wrap64 (nth (padC zs k) k + 1))) := by unfold Hid tickC; rw [if_pos (by omega)]; simp
  have HZ := Lib.hid h.len
  clear hm
  go_enter Try.func39, Try.ntmps39
  go_wp2_with (go_at_call 41; refine (clone_any ao n cap zs _ h hn).mono ?_; rintro e w1 ⟨v, rfl, hown, hb⟩)
  go_wp2
  go_loopw [5] (fun v wr => ∃ j : Nat, (j = 0 ∨ n + j ≤ k + 1) ∧ (∃ a c, v = .slice a (n + j) c ∧ wr.ownsRow w.heap.size 3 1 (.slice a (n + j) c) (n + j) (ints (zs ++ List.replicate j 0))) ∧ Below w.heap.size w wr) (fun v _ => k + 1 - lenV v)
  case atStart => exact ⟨0, .inl rfl, by obtain ⟨a, c, rfl⟩ := owns_slice hown; exact ⟨a, c, rfl, by simpa using hown⟩, hb⟩
  case round =>
    obtain ⟨j, hj, ⟨a, c, rfl, hownr⟩, hbr⟩ := hrel
    have HO := Lib.hid hown
    clear hown
    by_cases hl : n + j ≤ k
    · have hbase : w.heap.size ≤ wr.heap.size := hbr.size
      have hn2 : n + j + 1 ≤ 1099511627776 := by omega
      go_wp2_with ((at_builtin; refine ap_new wr _ EI rfl _ _ rfl w.heap.size _ (n + j) _ rfl hownr hbase 1 rfl rfl (one1 rfl) hn2 ?_; intro v' w3 hown3 hg3 hb3 hfr3))
      obtain ⟨a', c', rfl⟩ := owns_slice hown3
      go_roundw
      case rel => exact ⟨j + 1, by omega, ⟨a', c', rfl, by rw [List.replicate_succ', ← List.append_assoc, ints_append]; exact hown3⟩, hbr.trans hb3⟩
      case measure => simp [lenV]; omega
    · have hpad : zs ++ List.replicate j 0 = padC zs k := by
        unfold padC
        have : j = k + 1 - zs.length := by rw [HZ.out]; omega
        rw [this]
      rw [hpad] at hownr
      have hpl : (padC zs k).length = n + j := by rw [← hpad]; simp [HZ.out]
      have hkl : k < (padC zs k).length := by omega
      obtain ⟨g, cap', hv, hg, hglt⟩ := hownr.form (by omega)
      simp only [Value.slice.injEq] at hv
      obtain ⟨rfl, _, rfl⟩ := hv
      have hcell : wr.cell? ⟨g, k, none⟩ = some (.int .i64 (nth (padC zs k) k)) := by
        rw [hownr.cellAt k (by omega)]
        simp [ints, nth_eq hkl, hkl]
      have hfz := hownr.frozenAt k
      have HP := Lib.hid hpad
      have HPL := Lib.hid hpl
      have HO2 := Lib.hid hownr
      clear hpad hpl
      go_wp2
      go_ret
      refine ⟨_, rfl, ?_, hbr.setCell hg _⟩
      have e1 : n + j = tickN n k := by rw [E1.out]; omega
      rw [E2.out, ← ints_set, ← e1]
      exact (HO2.out.stored k _).1

theorem tick_any (ao : Option Addr) (n cap : Nat) (zs : List Int) (i : Int) (w : World) (h : RdI w ao n cap zs) (hn : n ≤ 549755813888) :
    Calls Try.prog 39 #[.slice ao n cap, .int .i64 i] w (RetRow w 3 1 (tickN n i) (ints (tickC zs i))) := by
  by_cases hi : 0 ≤ i ∧ i < 64
  · obtain ⟨k, rfl⟩ := Int.eq_ofNat_of_zero_le hi.1
    exact tick_in ao n cap zs k w h hn (by omega)
  · have e1 : tickN n i = n := by unfold tickN; rw [if_neg hi]
    have e2 : tickC zs i = zs := by unfold tickC; rw [if_neg hi]
    rw [e1, e2]
    exact tick_out ao n cap zs i w h hn (by omega)

set_option maxHeartbeats 400000 in
theorem refTick_out (ao : Option Addr) (n cap : Nat) (zs : List Int) (i : Int) (w : World) (h : RdI w ao n cap zs) (hn : n ≤ 549755813888) (hi : i < 0 ∨ 63 < i) :
    Calls Try.prog 45 #[.slice ao n cap, .int .i64 i] w (RetRow w 3 1 n (ints zs)) := by
  have hnone := h.nil
  have hl : (ints zs).length = n * 1 := by rw [ints_length, h.len]; omega
  have hc : ∀ j u, (ints zs)[j]? = some u → ∃ b off, ao = some ⟨b, off, none⟩ ∧ w.cell? ⟨b, off + j, none⟩ = some u := by
    intro j u hu
    have hj : j < zs.length := by rw [← ints_length]; exact (List.getElem?_eq_some_iff.1 hu).1
    obtain ⟨b, off, e, hlt, hc⟩ := h.at_ j (by rw [← h.len]; exact hj)
    refine ⟨b, off, e, hc.trans ?_⟩
    rw [← hu, nth_eq hj]; simp [ints, hj]
  have h1 : ∀ u ∈ ints zs, u.oneCell' = true := by
    intro u hu
    simp only [ints, List.mem_map] at hu
    obtain ⟨z, _, rfl⟩ := hu
    rfl
  have hn3 : 0 + n ≤ 1099511627776 := by omega
  have HN := Lib.hid hnone
  have HC := Lib.hid hc
  have H1 := Lib.hid h1
  have HL := Lib.hid hl
  clear hc h1 hl hnone
  rcases hi with hi | hi
  all_goals
    go_enter Try.func45, Try.ntmps45
    go_wp2_with ((at_builtin; refine ap_src w EI rfl _ _ rfl w.heap.size _ 0 _ rfl (World.ownsRow_nil _ _ _ _) (Nat.le_refl _) ao n cap (ints zs) rfl HN.out HL.out HC.out H1.out hn3 ?_; intro v w1 hown hg hb hfr))
    have hown : w1.ownsRow w.heap.size 3 1 v n (ints zs) := by simpa using hown
    go_wp2
    go_ret
    exact ⟨_, rfl, hown, hb⟩

set_option maxHeartbeats 400000 in
theorem refTick_in (ao : Option Addr) (n cap : Nat) (zs : List Int) (k : Nat) (w : World) (h : RdI w ao n cap zs) (hn : n ≤ 549755813888) (hk : k < 64) :
    Calls Try.prog 45 #[.slice ao n cap, .int .i64 k] w (RetRow w 3 1 (tickN n k) (ints (tickC zs k))) := by
  have hnone := h.nil
  have hl : (ints zs).length = n * 1 := by rw [ints_length, h.len]; omega
  have hc : ∀ j u, (ints zs)[j]? = some u → ∃ b off, ao = some ⟨b, off, none⟩ ∧ w.cell? ⟨b, off + j, none⟩ = some u := by
    intro j u hu
    have hj : j < zs.length := by rw [← ints_length]; exact (List.getElem?_eq_some_iff.1 hu).1
    obtain ⟨b, off, e, hlt, hc⟩ := h.at_ j (by rw [← h.len]; exact hj)
    refine ⟨b, off, e, hc.trans ?_⟩
    rw [← hu, nth_eq hj]; simp [ints, hj]
  have h1 : ∀ u ∈ ints zs, u.oneCell' = true := by
    intro u hu
    simp only [ints, List.mem_map] at hu
    obtain ⟨z, _, rfl⟩ := hu
    rfl
  have hn3 : 0 + n ≤ 1099511627776 := by omega
  have HN := Lib.hid hnone
  have HC := Lib.hid hc
  have H1 := Lib.hid h1
  have HL := Lib.hid hl
  clear hc h1 hl hnone
  have hm : tickN n k = max n (k + 1) := by unfold tickN; rw [if_pos (by omega)]; simp
  have E1 := Lib.hid hm
  have E2 : Hid (tickC zs k = (padC zs k).set k (wrap64 (nth (padC zs k) k + 1))) := by unfold Hid tickC; rw [if_pos (by omega)]; simp
  have HZ := Lib.hid h.len
  clear hm
  go_enter Try.func45, Try.ntmps45
  go_wp2_with ((at_builtin; refine ap_src w EI rfl _ _ rfl w.heap.size _ 0 _ rfl (World.ownsRow_nil _ _ _ _) (Nat.le_refl _) ao n cap (ints zs) rfl HN.out HL.out HC.out H1.out hn3 ?_; intro v w1 hown hg hb hfr))
  have hown : w1.ownsRow w.heap.size 3 1 v n (ints zs) := by simpa using hown
  go_wp2
  go_loopw [5] (fun v wr => ∃ j : Nat, (j = 0 ∨ n + j ≤ k + 1) ∧ (∃ a c, v = .slice a (n + j) c ∧ wr.ownsRow w.heap.size 3 1 (.slice a (n + j) c) (n + j) (ints (zs ++ List.replicate j 0))) ∧ Below w.heap.size w wr) (fun v _ => k + 1 - lenV v)
  case atStart => exact ⟨0, .inl rfl, by obtain ⟨a, c, rfl⟩ := owns_slice hown; exact ⟨a, c, rfl, by simpa using hown⟩, hb⟩
  case round =>
    obtain ⟨j, hj, ⟨a, c, rfl, hownr⟩, hbr⟩ := hrel
    have HO := Lib.hid hown
    clear hown
    by_cases hl : n + j ≤ k
    · have hbase : w.heap.size ≤ wr.heap.size := hbr.size
      have hn2 : n + j + 1 ≤ 1099511627776 := by omega
      go_wp2_with ((at_builtin; refine ap_new wr _ EI rfl _ _ rfl w.heap.size _ (n + j) _ rfl hownr hbase 1 rfl rfl (one1 rfl) hn2 ?_; intro v' w3 hown3 hg3 hb3 hfr3))
      obtain ⟨a', c', rfl⟩ := owns_slice hown3
      go_roundw
      case rel => exact ⟨j + 1, by omega, ⟨a', c', rfl, by rw [List.replicate_succ', ← List.append_assoc, ints_append]; exact hown3⟩, hbr.trans hb3⟩
      case measure => simp [lenV]; omega
    · have hpad : zs ++ List.replicate j 0 = padC zs k := by
        unfold padC
        have : j = k + 1 - zs.length := by rw [HZ.out]; omega
        rw [this]
      rw [hpad] at hownr
      have hpl : (padC zs k).length = n + j := by rw [← hpad]; simp [HZ.out]
      have hkl : k < (padC zs k).length := by omega
      obtain ⟨g, cap', hv, hg, hglt⟩ := hownr.form (by omega)
      simp only [Value.slice.injEq] at hv
      obtain ⟨rfl, _, rfl⟩ := hv
      have hcell : wr.cell? ⟨g, k, none⟩ = some (.int .i64 (nth (padC zs k) k)) := by
        rw [hownr.cellAt k (by omega)]
        simp [ints, nth_eq hkl, hkl]
      have hfz := hownr.frozenAt k
      have HP := Lib.hid hpad
      have HPL := Lib.hid hpl
      have HO2 := Lib.hid hownr
      clear hpad hpl
      go_wp2
      go_ret
      refine ⟨_, rfl, ?_, hbr.setCell hg _⟩
      have e1 : n + j = tickN n k := by rw [E1.out]; omega
      rw [E2.out, ← ints_set, ← e1]
      exact (HO2.out.stored k _).1

theorem refTick_any (ao : Option Addr) (n cap : Nat) (zs : List Int) (i : Int) (w : World) (h : RdI w ao n cap zs) (hn : n ≤ 549755813888) :
    Calls Try.prog 45 #[.slice ao n cap, .int .i64 i] w (RetRow w 3 1 (tickN n i) (ints (tickC zs i))) := by
  by_cases hi : 0 ≤ i ∧ i < 64
  · obtain ⟨k, rfl⟩ := Int.eq_ofNat_of_zero_le hi.1
    exact refTick_in ao n cap zs k w h hn (by omega)
  · have e1 : tickN n i = n := by unfold tickN; rw [if_neg hi]
    have e2 : tickC zs i = zs := by unfold tickC; rw [if_neg hi]
    rw [e1, e2]
    exact refTick_out ao n cap zs i w h hn (by omega)
end Go.Proofs.Ytkhhjjjpbfnlmaa
