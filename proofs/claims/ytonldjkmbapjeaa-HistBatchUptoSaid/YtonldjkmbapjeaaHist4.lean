/- The reference: whether calls may be. -/
import Derived.Test.YtonldjkmbapjeaaHist3
namespace Go.Proofs.Ytonldjkmbapjeaa
set_option linter.unusedVariables false
set_option linter.unusedSimpArgs false
open Go.RowKit Go.Proofs.YtonldjkmbapjeaaMem Go.Proofs.YtonldjkmbapjeaaFlat

def badB (a b : DoneS) : Bool := decide (a.who = b.who) && (decide (a.place = b.place) || (decide (a.place < b.place) && !aheadB a b))
theorem bad_apart {a b : DoneS} (h : badB a b = true) : apartB a b = false ∧ apartB b a = false := by
  unfold badB at h
  simp only [Bool.and_eq_true, decide_eq_true_eq, Bool.or_eq_true, Bool.not_eq_true'] at h
  obtain ⟨hw, h⟩ := h
  unfold apartB
  rcases h with hp | ⟨hp, ha⟩
  · simp [hw, hp]
  · have h1 : ¬ b.place < a.place := by omega
    simp [hw, hp, ha, h1]
theorem good_apart {a b : DoneS} (h1 : badB a b = false) (h2 : badB b a = false) : apartB a b = true := by
  unfold apartB
  by_cases hw : a.who = b.who
  · simp only [hw, ne_eq, not_true_eq_false, if_false]
    unfold badB at h1 h2
    by_cases hlt : a.place < b.place
    · have hne : a.place ≠ b.place := by omega
      simp [hw, hlt, hne] at h1
      simp [hlt, h1]
    · by_cases hgt : b.place < a.place
      · have hne : b.place ≠ a.place := by omega
        simp [hw, hgt, hne] at h2
        simp [hlt, hgt, h2]
      · have : a.place = b.place := by omega
        simp [hw, this] at h1
  · simp [hw]
theorem rightH_true {l : List DoneS} (h1 : ∀ i, i < l.length → rightD (nthD l i) = true) (h2 : ∀ i, i < l.length → ∀ k, k < l.length → k ≠ i → badB (nthD l i) (nthD l k) = false) : rightH l = true := by
  unfold rightH
  rw [all_frontD l h1, pairs_true fun i hi k hk => good_apart (h2 i hi k (by omega) (by omega)) (h2 k (by omega) i hi (by omega))]; rfl
theorem rightH_false1 {l : List DoneS} {i : Nat} (hi : i < l.length) (h : rightD (nthD l i) = false) : rightH l = false := by
  unfold rightH; rw [all_failD hi h]; rfl
theorem rightH_false2 {l : List DoneS} {i k : Nat} (hi : i < l.length) (hk : k < l.length) (hne : k ≠ i) (h : badB (nthD l i) (nthD l k) = true) : rightH l = false := by
  obtain ⟨h1, h2⟩ := bad_apart h
  have : pairsB l = false := by
    rcases Nat.lt_or_ge k i with hlt | hge
    · exact pairs_false hi hlt h1
    · exact pairs_false hk (show i < k by omega) h2
  unfold rightH; rw [this]; simp

set_option maxRecDepth 20000 in
set_option maxHeartbeats 2000000 in
theorem refRight_any (ao : Option Addr) (n cap : Nat) (l : List DoneS) (w : World) (h : RdD w ao n cap l) :
    Calls Try.prog 13 #[.slice ao n cap] w fun e w' => e = .returned (.bool (rightH l)) ∧ Below w.heap.size w w' := by
  have L0 := Lib.hid h.len
  have s0 := h.rd.small
  go_enter Try.func13, Try.ntmps13
  go_wp2
  go_loopw [3, 4, 5, 6] (fun v3 _ _ _ wr => ∃ i : Nat, i ≤ n ∧ v3 = .int .i64 i ∧ (∀ i', i' < i → rightD (nthD l i') = true ∧ ∀ k, k < n → k ≠ i' → badB (nthD l i') (nthD l k) = false) ∧ Below w.heap.size w wr) (fun v3 _ _ _ _ => n - (intOf v3).toNat)
  case atStart => exact ⟨0, Nat.zero_le _, rfl, fun j hj => absurd hj (Nat.not_lt_zero _), Below.refl _ _⟩
  case round =>
    obtain ⟨i, hi, rfl, heq, hbr⟩ := hrel
    have HQ := Lib.hid heq
    clear heq
    by_cases hl : i < n
    · obtain ⟨b, o, rfl, hlt, hc⟩ := h.cells hl
      obtain ⟨c0, c1, c2, c3, c4, c5, c6, c7, c8, c9, c10, c11⟩ := RdD.at12 (ao := none) (n := 0) (cap := 0) hc hbr
      go_upto_region 5 with fail
      have hA := one_boxD wr (nthD l i) 31
      have hbW := below1 wr (.cells #[.int .i64 (nthD l i).who, .int .i64 (nthD l i).place, .int .i64 (nthD l i).op, .int .i64 (nthD l i).fl, .int .i64 (nthD l i).a, .int .i64 (nthD l i).b, .int .i64 (nthD l i).e, .slice (nthD l i).ao (nthD l i).len (nthD l i).cap, .int .i64 (nthD l i).n, .int .u64 (nthD l i).v, .int .i64 (nthD l i).fr, .int .i64 (nthD l i).to] 31)
      have hb1 := hbr.trans (hbW.mono hbr.size)
      generalize wr.alloc (.cells #[.int .i64 (nthD l i).who, .int .i64 (nthD l i).place, .int .i64 (nthD l i).op, .int .i64 (nthD l i).fl, .int .i64 (nthD l i).a, .int .i64 (nthD l i).b, .int .i64 (nthD l i).e, .slice (nthD l i).ao (nthD l i).len (nthD l i).cap, .int .i64 (nthD l i).n, .int .u64 (nthD l i).v, .int .i64 (nthD l i).fr, .int .i64 (nthD l i).to] 31) = W at *
      generalize hn : wr.heap.size = A at *
      have HA := Lib.hid hA
      clear c0 c1 c2 c3 c4 c5 c6 c7 c8 c9 c10 c11 hc hbW hbr
      go_cut [41] from 7 to 81 (fun s41 wx => wx = W ∧ s41 = .bool (!rightD (nthD l i)))
      case first =>
        obtain ⟨a0, a1, a2, a3, a4, a5, a6, a7, a8, a9, a10, a11⟩ := hA.cells
        have F : Hid (rightD (nthD l i) = decide (0 ≤ (nthD l i).who ∧ 0 ≤ (nthD l i).place ∧ 0 ≤ (nthD l i).fr ∧ ((nthD l i).to = -1 ∨ (nthD l i).fr ≤ (nthD l i).to))) := rfl
        rcases (show (nthD l i).who < 0 ∨ (¬ (nthD l i).who < 0 ∧ (nthD l i).place < 0) ∨ (¬ (nthD l i).who < 0 ∧ ¬ (nthD l i).place < 0 ∧ (nthD l i).fr < 0) ∨ (¬ (nthD l i).who < 0 ∧ ¬ (nthD l i).place < 0 ∧ ¬ (nthD l i).fr < 0 ∧ (nthD l i).to = -1) ∨ (¬ (nthD l i).who < 0 ∧ ¬ (nthD l i).place < 0 ∧ ¬ (nthD l i).fr < 0 ∧ (nthD l i).to ≠ -1 ∧ (nthD l i).to < (nthD l i).fr) ∨ (¬ (nthD l i).who < 0 ∧ ¬ (nthD l i).place < 0 ∧ ¬ (nthD l i).fr < 0 ∧ (nthD l i).to ≠ -1 ∧ ¬ (nthD l i).to < (nthD l i).fr) by omega) with t1 | ⟨t1, t2⟩ | ⟨t1, t2, t3⟩ | ⟨t1, t2, t3, t4⟩ | ⟨t1, t2, t3, t4, t5⟩ | ⟨t1, t2, t3, t4, t5⟩
        iterate 3
          · have E : Hid (rightD (nthD l i) = false) := by unfold Hid; rw [F.out]; simp; omega
            go_wp2
            go_meet
            exact ⟨rfl, by rw [E.out]; rfl⟩
        · have E : Hid (rightD (nthD l i) = true) := by unfold Hid; rw [F.out]; simp; omega
          have e1 : ((nthD l i).to != -1) = false := by simp [t4]
          clear t4
          go_wp2
          go_meet
          exact ⟨rfl, by rw [E.out]; rfl⟩
        · have E : Hid (rightD (nthD l i) = false) := by unfold Hid; rw [F.out]; simp; omega
          have e1 : ((nthD l i).to != -1) = true := by simpa using t4
          clear t4
          go_wp2
          go_meet
          exact ⟨rfl, by rw [E.out]; rfl⟩
        · have E : Hid (rightD (nthD l i) = true) := by unfold Hid; rw [F.out]; simp; omega
          have e1 : ((nthD l i).to != -1) = true := by simpa using t4
          clear t4
          go_wp2
          go_meet
          exact ⟨rfl, by rw [E.out]; rfl⟩
      case rest =>
        obtain ⟨rfl, rfl⟩ := hcut
        clear hA
        cases hr : rightD (nthD l i)
        · have E : Hid (rightH l = false) := rightH_false1 (by rw [L0.out]; exact hl) hr
          go_wp2
          go_ret
          exact ⟨by rw [E.out]; rfl, hb1⟩
        · have HR := Lib.hid hr
          clear hr
          generalize hW2 : wc = W2 at *
          clear hW2
          go_wp2_with fail
          go_loopw [5, 6] (fun v5 _ wr => ∃ k : Nat, k ≤ n ∧ v5 = .int .i64 k ∧ (∀ k', k' < k → k' ≠ i → badB (nthD l i) (nthD l k') = false) ∧ Below W2.heap.size W2 wr) (fun v5 _ _ => n - (intOf v5).toNat)
          case atStart => exact ⟨0, Nat.zero_le _, rfl, fun j hj => absurd hj (Nat.not_lt_zero _), Below.refl _ _⟩
          case round =>
            obtain ⟨k, hk, rfl, heq, hbr⟩ := hrel
            have HK := Lib.hid heq
            clear heq
            by_cases hl2 : k < n
            · obtain ⟨b', o', e', _, hck⟩ := h.cells hl2
              simp only [Option.some.injEq, Addr.mk.injEq, and_true] at e'
              obtain ⟨rfl, rfl⟩ := e'
              have hbw := hb1.trans (hbr.mono hb1.size)
              obtain ⟨c0, c1, c2, c3, c4, c5, c6, c7, c8, c9, c10, c11⟩ := RdD.at12 (ao := none) (n := 0) (cap := 0) hck hbw
              have hA2 := HA.out.below hbr
              go_upto_region 11 with fail
              have hB := one_boxD wr (nthD l k) 31
              have hbX := below1 wr (.cells #[.int .i64 (nthD l k).who, .int .i64 (nthD l k).place, .int .i64 (nthD l k).op, .int .i64 (nthD l k).fl, .int .i64 (nthD l k).a, .int .i64 (nthD l k).b, .int .i64 (nthD l k).e, .slice (nthD l k).ao (nthD l k).len (nthD l k).cap, .int .i64 (nthD l k).n, .int .u64 (nthD l k).v, .int .i64 (nthD l k).fr, .int .i64 (nthD l k).to] 31)
              have hA3 := hA2.below hbX
              have hb2 := hbr.trans (hbX.mono hbr.size)
              generalize wr.alloc (.cells #[.int .i64 (nthD l k).who, .int .i64 (nthD l k).place, .int .i64 (nthD l k).op, .int .i64 (nthD l k).fl, .int .i64 (nthD l k).a, .int .i64 (nthD l k).b, .int .i64 (nthD l k).e, .slice (nthD l k).ao (nthD l k).len (nthD l k).cap, .int .i64 (nthD l k).n, .int .u64 (nthD l k).v, .int .i64 (nthD l k).fr, .int .i64 (nthD l k).to] 31) = X at *
              generalize hnB : wr.heap.size = B at *
              clear c0 c1 c2 c3 c4 c5 c6 c7 c8 c9 c10 c11 hck hA2 hbX hbr hbw
              go_cut [81] from 42 to 81 (fun s81 wx => Below W2.heap.size W2 wx ∧ s81 = .bool (decide (k ≠ i) && badB (nthD l i) (nthD l k)))
              case first =>
                obtain ⟨a0, a1, a2, a3, a4, a5, a6, a7, a8, a9, a10, a11⟩ := hA3.cells
                obtain ⟨b0, b1, b2, b3, b4, b5, b6, b7, b8, b9, b10, b11⟩ := hB.cells
                have F : Hid (badB (nthD l i) (nthD l k) = (decide ((nthD l i).who = (nthD l k).who) && (decide ((nthD l i).place = (nthD l k).place) || (decide ((nthD l i).place < (nthD l k).place) && !aheadB (nthD l i) (nthD l k))))) := rfl
                clear hA3 hB
                by_cases hki : k = i
                · have e0 : ((k : Int) != (i : Int)) = false := by simp [hki]
                  have E : Hid (decide (k ≠ i) = false) := by unfold Hid; simp [hki]
                  clear hki
                  go_wp2
                  go_meet
                  exact ⟨hb2, by rw [E.out]; rfl⟩
                · have e0 : ((k : Int) != (i : Int)) = true := by simp; omega
                  have E : Hid (decide (k ≠ i) = true) := by unfold Hid; simp [hki]
                  clear hki
                  by_cases hw : (nthD l i).who = (nthD l k).who
                  · have e1 : ((nthD l i).who == (nthD l k).who) = true := by simpa using hw
                    by_cases hp : (nthD l i).place = (nthD l k).place
                    · have e2 : ((nthD l i).place == (nthD l k).place) = true := by simpa using hp
                      have G : Hid (badB (nthD l i) (nthD l k) = true) := by unfold Hid; rw [F.out]; simp [hw, hp]
                      clear hw hp
                      go_wp2
                      go_meet
                      exact ⟨hb2, by rw [E.out, G.out]; rfl⟩
                    · have e2 : ((nthD l i).place == (nthD l k).place) = false := by simpa using hp
                      by_cases hlt2 : (nthD l i).place < (nthD l k).place
                      · have G : Hid (badB (nthD l i) (nthD l k) = !aheadB (nthD l i) (nthD l k)) := by unfold Hid; rw [F.out]; simp [hw, hp, hlt2]
                        clear hw hp
                        go_wp2_with fail
                        refine (refAhead_any (nthD l i) (nthD l k) _).mono ?_
                        rintro e w' ⟨rfl, hb'⟩
                        go_wp2
                        go_meet
                        exact ⟨hb2.trans (hb'.mono hb2.size), by rw [E.out, G.out]; rfl⟩
                      · have G : Hid (badB (nthD l i) (nthD l k) = false) := by unfold Hid; rw [F.out]; simp [hp, hlt2]
                        clear hw hp
                        go_wp2
                        go_meet
                        exact ⟨hb2, by rw [E.out, G.out]; rfl⟩
                  · have e1 : ((nthD l i).who == (nthD l k).who) = false := by simpa using hw
                    have G : Hid (badB (nthD l i) (nthD l k) = false) := by unfold Hid; rw [F.out]; simp [hw]
                    clear hw
                    go_wp2
                    go_meet
                    exact ⟨hb2, by rw [E.out, G.out]; rfl⟩
              case rest =>
                obtain ⟨hb3, rfl⟩ := hcut
                clear hA3 hB hb2
                cases hx : (decide (k ≠ i) && badB (nthD l i) (nthD l k))
                · have HX := Lib.hid hx
                  clear hx
                  go_wp2
                  go_roundw
                  case rel => exact ⟨k + 1, by omega, by go_num, fun k' hk' hne => by
                    by_cases hkk : k' = k
                    · subst hkk
                      have := HX.out
                      simpa [hne] using this
                    · exact HK.out k' (by omega) hne, hb3⟩
                  case measure => simp [intOf]; omega
                · have E : Hid (rightH l = false) := by
                    simp only [Bool.and_eq_true, decide_eq_true_eq] at hx
                    exact rightH_false2 (by rw [L0.out]; exact hl) (by rw [L0.out]; exact hl2) hx.1 hx.2
                  clear hx
                  go_wp2
                  go_ret
                  exact ⟨by rw [E.out]; rfl, hb1.trans (hb3.mono hb1.size)⟩
            · obtain rfl : k = n := by omega
              go_wp2
              go_roundw
              case rel => exact ⟨i + 1, by omega, by go_num, fun i' hi' => by
                by_cases hii : i' = i
                · subst hii; exact ⟨HR.out, fun k hk hne => HK.out k hk hne⟩
                · exact HQ.out i' (by omega), hb1.trans (hbr.mono hb1.size)⟩
              case measure => simp [intOf]; omega
    · obtain rfl : i = n := by omega
      have E : Hid (rightH l = true) := rightH_true (fun i' hi' => (HQ.out i' (by rw [L0.out] at hi'; exact hi')).1) fun i' hi' k hk hne => (HQ.out i' (by rw [L0.out] at hi'; exact hi')).2 k (by rw [L0.out] at hk; exact hk) hne
      go_wp2
      go_ret
      exact ⟨by rw [E.out]; rfl, hbr⟩
end Go.Proofs.Ytonldjkmbapjeaa
