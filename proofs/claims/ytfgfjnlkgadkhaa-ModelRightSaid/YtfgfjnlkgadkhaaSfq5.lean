/- A set of flows: entries in order; the least one. -/
import Derived.Test.YtfgfjnlkgadkhaaSfq4
import Derived.Test.YtfgfjnlkgadkhaaTag
import Derived.Deep.CutRange
import Derived.Deep.RegionHeld3
namespace Go.Proofs.Ytfgfjnlkgadkhaa
set_option linter.unusedVariables false
set_option linter.unusedSimpArgs false
set_option maxRecDepth 20000
open Go.RowKit Go.Proofs.YtfgfjnlkgadkhaaMem Go.Proofs.YtfgfjnlkgadkhaaMapK

def nthE (l : List (Int × Int)) (k : Nat) : Int × Int := l.getD k (0, 0)
theorem entC_at (l : List (Int × Int)) : ∀ k, k < l.length → (entC l)[k * 2]? = some (.int .u64 (nthE l k).1) ∧ (entC l)[k * 2 + 1]? = some (.int .i64 (nthE l k).2) := by
  induction l with
  | nil => intro k hk; simp at hk
  | cons e l ih =>
    intro k hk
    cases k with
    | zero => exact ⟨rfl, rfl⟩
    | succ k =>
      have := ih k (by simpa using hk)
      have h1 : (k + 1) * 2 = k * 2 + 1 + 1 := by omega
      rw [h1]
      simpa [entC, nthE] using this
theorem rds_ent {w : World} {ao : Option Addr} {n cap : Nat} {l : List (Int × Int)} (h : RdS w ao n cap 2 (entC l)) (hl : l.length = n) {k : Nat} (hk : k < n) :
    ∃ b off, ao = some ⟨b, off, none⟩ ∧ b < w.heap.size ∧ ∀ w', Below w.heap.size w w' → w'.cell? ⟨b, off + k * 2, none⟩ = some (.int .u64 (nthE l k).1) ∧ w'.cell? ⟨b, off + k * 2 + 1, none⟩ = some (.int .i64 (nthE l k).2) := by
  obtain ⟨c0, c1⟩ := entC_at l k (by omega)
  obtain ⟨b, off, e, hb, h0⟩ := h.at_ _ _ c0
  obtain ⟨b1, off1, e1, hb1, h1⟩ := h.at_ _ _ c1
  subst e
  simp only [Option.some.injEq, Addr.mk.injEq, and_true] at e1
  obtain ⟨rfl, rfl⟩ := e1
  exact ⟨b, off, rfl, hb, fun w' hbl => ⟨(hbl.cell (p := ⟨b, off + k * 2, none⟩) hb).trans h0, (hbl.cell (p := ⟨b, off + k * 2 + 1, none⟩) hb).trans (by rw [← Nat.add_assoc] at h1; exact h1)⟩⟩

def aheadE (a c : Int × Int) : Bool := aheadB a.1 a.2 c.1 c.2
def orderI (a c : Int × Int) : Int := if aheadE a c = true then -1 else if a = c then 0 else 1
set_option maxHeartbeats 1000000 in
theorem order_any (a c : Int × Int) (w : World) :
    Calls Try.prog 49 #[.agg #[.int .u64 a.1, .int .i64 a.2], .agg #[.int .u64 c.1, .int .i64 c.2]] w fun e w' => e = .returned (.int .i64 (orderI a c)) ∧ Below w.heap.size w w' := by
  obtain ⟨k, i⟩ := a
  obtain ⟨l, j⟩ := c
  have hbox : Below w.heap.size w ((w.alloc (.cells #[.int .u64 k, .int .i64 i] 95)).alloc (.cells #[.int .u64 l, .int .i64 j] 95)) := (below1 _ _).alloc (by simp) _
  generalize hR : orderI (k, i) (l, j) = R
  go_enter Try.func49, Try.ntmps49
  go_wp2_with fail
  refine (ahead_any k i l j _).mono ?_
  rintro e w' ⟨rfl, hb⟩
  have B1 := ((Blk.new w [.int .u64 k, .int .i64 i] 95).alloc (.cells #[.int .u64 l, .int .i64 j] 95)).below hb
  have B2 := (Blk.new (w.alloc (.cells #[.int .u64 k, .int .i64 i] 95)) [.int .u64 l, .int .i64 j] 95).below hb
  rw [show (w.alloc (.cells #[.int .u64 k, .int .i64 i] 95)).heap.size = w.heap.size + 1 by simp] at B2
  have c0 := B1.cell 0
  have c1 := B1.cell 1
  have c2 := B2.cell 0
  have c3 := B2.cell 1
  simp only [List.getElem?_cons_succ, List.getElem?_cons_zero] at c0 c1 c2 c3
  have HB := Lib.hid (hbox.trans (hb.mono hbox.size))
  clear B1 B2 hbox hb
  cases ha : aheadB k i l j with
  | true =>
    have hR1 : R = -1 := by rw [← hR]; unfold orderI aheadE; rw [if_pos ha]
    subst hR1
    clear hR
    go_wp2
    go_ret
    exact ⟨rfl, HB.out⟩
  | false =>
    by_cases he : k = l ∧ i = j
    · obtain ⟨rfl, rfl⟩ := he
      have hR1 : R = 0 := by rw [← hR]; unfold orderI aheadE; rw [if_neg (by rw [ha]; simp), if_pos rfl]
      subst hR1
      clear hR
      go_wp2
      go_ret
      exact ⟨rfl, HB.out⟩
    · have hR1 : R = 1 := by rw [← hR]; unfold orderI aheadE; rw [if_neg (by rw [ha]; simp), if_neg (by simpa using he)]
      subst hR1
      clear hR
      by_cases h1 : k = l
      · have h2 : (i == j) = false := by simp; exact fun h2 => he ⟨h1, h2⟩
        subst h1
        clear he
        go_wp2
        go_ret
        exact ⟨rfl, HB.out⟩
      · have h2 : (k == l) = false := by simpa using h1
        clear he
        go_wp2
        go_ret
        exact ⟨rfl, HB.out⟩

/-- The least of the first k entries. -/
def minK (l : List (Int × Int)) : Nat → Int × Int
  | 0 => nthE l 0
  | k + 1 => if aheadE (nthE l k) (minK l k) = true then nthE l k else minK l k
def MinPost (w : World) (x : Int × Int) (e : Ending) (w' : World) : Prop := e = .returned (.agg #[.int .u64 x.1, .int .i64 x.2]) ∧ Below w.heap.size w w'

theorem aheadE_irrefl (a : Int × Int) : aheadE a a = false := by
  unfold aheadE aheadB
  simp
theorem minK_one (l : List (Int × Int)) : minK l 1 = nthE l 0 := by
  show (if aheadE (nthE l 0) (nthE l 0) = true then nthE l 0 else nthE l 0) = _
  split <;> rfl
theorem orderI_neg {a c : Int × Int} : orderI a c < 0 ↔ aheadE a c = true := by
  unfold orderI
  split
  · rename_i h; simp [h]
  · rename_i h
    split <;> simp [h]

set_option maxHeartbeats 1000000 in
theorem minFunc_any (ao : Option Addr) (n cap : Nat) (l : List (Int × Int)) (w : World) (h : RdS w ao n cap 2 (entC l)) (hl : l.length = n) (hn : 0 < n) :
    Calls Try.prog 58 #[.slice ao n cap, .func (.func 49) #[] #[]] w (MinPost w (minK l n)) := by
  have s0 := h.small
  have HL := Lib.hid hl
  have hlt1 : ¬ (n : Int) < 1 := by omega
  have hd1 : decide ((n : Int) < 1) = false := decide_eq_false hlt1
  obtain ⟨b0, o0, rfl, hlt0, hc0⟩ := rds_ent h HL.out (k := 0) hn
  have HC := Lib.hid hc0
  have hk0 := (hc0 _ (below1 w (.cells #[.int .u64 0, .int .i64 0] 95)))
  clear hl hc0
  obtain ⟨k0, k1⟩ := hk0
  simp only [Nat.zero_mul, Nat.add_zero] at k0 k1
  go_enter Try.func58, Try.ntmps58
  go_wp2_with fail
  go_loopw [6] (fun i wr => ∃ k : Nat, 1 ≤ k ∧ k ≤ n ∧ i = .int .i64 k ∧ Blk wr (w.heap.size + 1) [.int .u64 (minK l k).1, .int .i64 (minK l k).2] 95 ∧ Blk wr w.heap.size [.int .u64 0, .int .i64 0] 95 ∧ Below w.heap.size w wr) (fun i _ => n - (intOf i).toNat)
  case atStart =>
    have B1 := (Blk.new w [.int .u64 0, .int .i64 0] 95).alloc (.cells #[.int .u64 (nthE l 0).1, .int .i64 (nthE l 0).2] 95)
    have B2 := Blk.new (w.alloc (.cells #[.int .u64 0, .int .i64 0] 95)) [.int .u64 (nthE l 0).1, .int .i64 (nthE l 0).2] 95
    rw [show (w.alloc (.cells #[.int .u64 0, .int .i64 0] 95)).heap.size = w.heap.size + 1 by simp] at B2
    exact ⟨1, by omega, by omega, rfl, by rw [minK_one]; exact B2, B1, (below1 _ _).alloc (by simp) _⟩
  case round =>
    obtain ⟨k, hk1, hk, rfl, hB2, hB1, hbr⟩ := hrel
    have c0 := hB2.cell 0
    have c1 := hB2.cell 1
    have z0 := hB2.frozen 0
    have z1 := hB2.frozen 1
    have hlt2 := hB2.lt
    simp only [List.getElem?_cons_succ, List.getElem?_cons_zero] at c0 c1
    by_cases hl : k < n
    · obtain ⟨b1, o1, e1, hlt1', hc1⟩ := rds_ent h HL.out hl
      simp only [Option.some.injEq, Addr.mk.injEq, and_true] at e1
      obtain ⟨rfl, rfl⟩ := e1
      have i1 : (k : Int) < (n : Int) := by omega
      obtain ⟨n0, n1⟩ := hc1 _ hbr
      have HC1 := Lib.hid hc1
      have hM : minK l (k + 1) = if aheadE (nthE l k) (minK l k) = true then nthE l k else minK l k := rfl
      generalize hR : orderI (nthE l k) (minK l k) = R
      have hRn : R < 0 ↔ aheadE (nthE l k) (minK l k) = true := hR ▸ orderI_neg
      have HRn := Lib.hid hRn
      clear hc1 hRn
      go_wp2_with fail
      refine wp_region_held_drew (S := (fun w' => (w'.cell? ⟨b0, o0 + k * 2, none⟩ = some (.int .u64 (nthE l k).1) ∧ w'.cell? ⟨b0, o0 + k * 2 + 1, none⟩ = some (.int .i64 (nthE l k).2)) ∧ w'.cell? ⟨w.heap.size + 1, 0, none⟩ = some (.int .u64 (minK l k).1) ∧ w'.cell? ⟨w.heap.size + 1, 1, none⟩ = some (.int .i64 (minK l k).2))) (by kernel_rfl) ?_ (fun hHeld => ?_)
      · exact ⟨⟨n0, n1⟩, c0, c1⟩
      refine wpAnyH_take (i := 0) (v := ?_) rfl (by kernel_rfl) (by kernel_rfl) (by kernel_rfl) (fun _ _ _ h => h) (Or.inl ⟨by rfl, ?_⟩) (by assumption) ?_
      rotate_left
      · intro w hSw
        (try dsimp only at hSw)
        first | (go_simp; done) | (go_simp; with_reducible rfl)
      try simp only [List.getElem_toArray, List.getElem_cons_succ, List.getElem_cons_zero, Act.put, List.setIfInBounds_toArray, List.set_cons_zero, List.set_cons_succ]
      refine wpAnyH_take (i := 1) (v := ?_) rfl (by kernel_rfl) (by kernel_rfl) (by kernel_rfl) (fun _ _ _ h => h) (Or.inl ⟨by rfl, ?_⟩) (by assumption) ?_
      rotate_left
      · intro w hSw
        (try dsimp only at hSw)
        first | (go_simp; done) | (go_simp; with_reducible rfl)
      try simp only [List.getElem_toArray, List.getElem_cons_succ, List.getElem_cons_zero, Act.put, List.setIfInBounds_toArray, List.set_cons_zero, List.set_cons_succ]
      refine wpAnyH_take (i := 2) (v := ?_) rfl (by kernel_rfl) (by kernel_rfl) (by kernel_rfl) (fun _ _ _ h => h) (Or.inl ⟨by rfl, ?_⟩) (by assumption) ?_
      rotate_left
      · intro w hSw
        (try dsimp only at hSw)
        first | (go_simp; done) | (go_simp; with_reducible rfl)
      try simp only [List.getElem_toArray, List.getElem_cons_succ, List.getElem_cons_zero, Act.put, List.setIfInBounds_toArray, List.set_cons_zero, List.set_cons_succ]
      refine wpAnyH_take (i := 3) (v := ?_) rfl (by kernel_rfl) (by kernel_rfl) (by kernel_rfl) (fun _ _ _ h => h) (Or.inl ⟨by rfl, ?_⟩) (by assumption) ?_
      rotate_left
      · intro w hSw
        (try dsimp only at hSw)
        first | (go_simp; done) | (go_simp; with_reducible rfl)
      try simp only [List.getElem_toArray, List.getElem_cons_succ, List.getElem_cons_zero, Act.put, List.setIfInBounds_toArray, List.set_cons_zero, List.set_cons_succ]
      refine wpAnyH_take (i := 4) (v := ?_) rfl (by kernel_rfl) (by kernel_rfl) (by kernel_rfl) (fun _ _ _ h => h) (Or.inl ⟨by rfl, ?_⟩) (by assumption) ?_
      rotate_left
      · intro w hSw
        (try dsimp only at hSw)
        first | (go_simp; done) | (go_simp; with_reducible rfl)
      try simp only [List.getElem_toArray, List.getElem_cons_succ, List.getElem_cons_zero, Act.put, List.setIfInBounds_toArray, List.set_cons_zero, List.set_cons_succ]
      refine wpAnyH_take (i := 5) (v := ?_) rfl (by kernel_rfl) (by kernel_rfl) (by kernel_rfl) (fun _ _ _ h => h) (Or.inl ⟨by rfl, ?_⟩) (by assumption) ?_
      rotate_left
      · intro w hSw
        (try dsimp only at hSw)
        first | (go_simp; done) | (go_simp; with_reducible rfl)
      try simp only [List.getElem_toArray, List.getElem_cons_succ, List.getElem_cons_zero, Act.put, List.setIfInBounds_toArray, List.set_cons_zero, List.set_cons_succ]
      refine wpAnyH_ready (rs := [6]) (by kernel_rfl) (by simp) ?_
      refine AllReadyH.cons rfl (fun K hK => ?_) AllReadyH.nil
      go_simp
      (go_at_call 49; refine (order_any (nthE l k) (minK l k) _).mono ?_; rw [hR]; rintro e w2 ⟨rfl, hb2⟩)
      refine hK.out _ _ ?_ (fun hHeld => ?_)
      · exact ⟨HC1.out _ (hbr.trans (((Below.refl wr.heap.size wr).drew.trans hb2).mono hbr.size)), ((hB2.drew).below hb2).cell 0, ((hB2.drew).below hb2).cell 1⟩
      clear hK K
      try simp only [List.getElem_toArray, List.getElem_cons_succ, List.getElem_cons_zero, Act.put, List.setIfInBounds_toArray, List.set_cons_zero, List.set_cons_succ]
      refine wpAnyH_take (i := 7) (v := ?_) rfl (by kernel_rfl) (by kernel_rfl) (by kernel_rfl) (fun _ _ _ h => h) (Or.inl ⟨by rfl, ?_⟩) (by assumption) ?_
      rotate_left
      · intro w hSw
        (try dsimp only at hSw)
        first | (go_simp; done) | (go_simp; with_reducible rfl)
      try simp only [List.getElem_toArray, List.getElem_cons_succ, List.getElem_cons_zero, Act.put, List.setIfInBounds_toArray, List.set_cons_zero, List.set_cons_succ]
      refine wpAnyH_done (by kernel_rfl) ?_ _
      obtain ⟨⟨m0, m1⟩, d0, d1⟩ := hHeld
      have hbw : Below wr.heap.size wr w2 := (Below.refl wr.heap.size wr).drew.trans hb2
      have hbr2 := hbr.trans (hbw.mono hbr.size)
      have B2' := hB2.below hbw
      have B1' := hB1.below hbw
      have z0 := B2'.frozen 0
      have z1 := B2'.frozen 1
      have HB := Lib.hid B2'
      have HBB := Lib.hid B1'
      have HM := Lib.hid hM
      clear hb2 hB2 hB1 c0 c1 hM B2' B1'
      by_cases ha : aheadE (nthE l k) (minK l k) = true
      · have hd : decide (R < 0) = true := decide_eq_true (HRn.out.2 ha)
        have hR0 := HRn.out.2 ha
        clear hR
        go_wp2
        go_roundw
        case rel =>
          refine ⟨k + 1, by omega, by omega, by go_num, ?_, ?_, (hbr2.setCell (Nat.le_succ _) _).setCell (Nat.le_succ _) _⟩
          · rw [HM.out, if_pos ha]; exact (HB.out.set 0 (.int .u64 (nthE l k).1)).set 1 (.int .i64 (nthE l k).2)
          · exact (HBB.out.set_far (by simp) _).set_far (by simp) _
        case measure => simp [intOf]; omega
      · have hd : decide (R < 0) = false := decide_eq_false (fun h => ha (HRn.out.1 h))
        have hR0 : ¬ R < 0 := fun h => ha (HRn.out.1 h)
        clear hR
        go_wp2
        go_roundw
        case rel => exact ⟨k + 1, by omega, by omega, by go_num, by rw [HM.out, if_neg ha]; exact HB.out, HBB.out, hbr2⟩
        case measure => simp [intOf]; omega
    · obtain rfl : k = n := by omega
      have y0 := hB1.frozen 0
      have y1 := hB1.frozen 1
      have x0 := hB1.cell 0
      have x1 := hB1.cell 1
      simp only [List.getElem?_cons_succ, List.getElem?_cons_zero] at x0 x1
      have hBel := Lib.hid hbr
      generalize hX : minK l k = X at *
      clear hB1 hB2 hbr
      go_wp2
      refine bodyPost_ret (v := .agg #[.int .u64 X.1, .int .i64 X.2]) (by simp [results, Try.results58, go_sem, x0, x1, y0, y1]) rfl ⟨by rfl, ?_⟩
      exact (hBel.out.setCell (Nat.le_refl _) _).setCell (Nat.le_refl _) _
end Go.Proofs.Ytfgfjnlkgadkhaa
