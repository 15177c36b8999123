/- SfqRises. -/
import Derived.Test.YtnanalaienlbpaaSome10
namespace Go.Proofs.Ytnanalaienlbpaa
set_option linter.unusedVariables false
set_option linter.unusedSimpArgs false
set_option maxRecDepth 20000
open Go.RowKit Go.Proofs.YtnanalaienlbpaaMem Go.Proofs.YtnanalaienlbpaaFlat Go.Proofs.YtnanalaienlbpaaMapK

/-- No flow's start is below v. -/
def SfS.Low (s : SfS) : Prop := ∀ e ∈ s.fs, e.2.has = true → s.v ≤ e.2.start
theorem has_l {x : FlS} : x.has = true ↔ x.l ≠ [] := by
  unfold FlS.has
  cases x.l <;> simp
theorem low_set {fs : List (Int × FlS)} {id v : Int} {x : FlS} (h : ∀ e ∈ fs, e.2.has = true → v ≤ e.2.start) (hx : x.has = true → v ≤ x.start) : ∀ e ∈ setF fs id x, e.2.has = true → v ≤ e.2.start := fun e he hh => by
  rcases setF_mem he with rfl | he
  · exact hx hh
  · exact h e he hh
theorem someS_low : (someS 4).Low := by
  have : ∀ k, ∀ e ∈ (someS k).fs, e.2.has = false := by
    intro k
    induction k with
    | zero => intro e he; cases he
    | succ k ih =>
      intro e he
      unfold someS SfS.add at he
      split at he
      · exact ih e he
      · rcases List.mem_append.1 he with he | he
        · exact ih e he
        · simp only [List.mem_singleton] at he; subst he; rfl
  intro e he hh
  rw [this 4 e he] at hh; cases hh
theorem serve_low {s : SfS} (ok : s.Ok) (h : s.Low) : s.serve.Low ∧ s.v ≤ s.serve.v ∧ s.most ≤ s.serve.most := by
  unfold SfS.serve
  by_cases hn : entL s.fs = []
  · rw [if_pos hn]
    refine ⟨fun e he hh => ?_, by show s.v ≤ max s.v s.most; omega, Int.le_refl _⟩
    have : (e.2.start, e.1) ∈ entL s.fs := List.mem_map.2 ⟨e, List.mem_filter.2 ⟨he, hh⟩, rfl⟩
    rw [hn] at this; cases this
  · rw [if_neg hn]
    obtain ⟨hm, hle⟩ := minK_isFirst hn
    obtain ⟨e1, he1, hh1, hf⟩ := entL_mem hm
    have hfirst : s.first = (e1.2.start, e1.1) := hf
    have hv := h e1 he1 hh1
    rw [hfirst]
    cases hg : getF s.fs e1.1 with
    | none => exact ⟨h, Int.le_refl _, Int.le_refl _⟩
    | some x =>
      have hx := getF_mem hg
      have hmin : ∀ e ∈ s.fs, e.2.has = true → e1.2.start ≤ e.2.start := fun e he hh => by
        have := hle _ (List.mem_map.2 ⟨e, List.mem_filter.2 ⟨he, hh⟩, rfl⟩)
        rw [hf] at this
        unfold aheadE aheadB at this
        simp only [decide_eq_false_iff_not] at this
        omega
      refine ⟨low_set hmin fun hh => ?_, hv, by show s.most ≤ max s.most x.out; omega⟩
      unfold FlS.serve at hh ⊢
      cases hl : x.l with
      | nil =>
        rw [hl] at hh
        exact absurd hl (has_l.1 hh)
      | cons p rest =>
        simp only
        have h1 := hmin _ hx (has_l.2 (by rw [hl]; simp))
        have h2 := (ok.fs _ hx).start
        have h3 : W64 (costOf p.len x.r) := costOf_w64 (ok.fs _ hx).r
        show e1.2.start ≤ satAdd x.start (costOf p.len x.r)
        unfold W64 at h2 h3
        simp only at h1 h2
        unfold satAdd
        split <;> omega
theorem stepS_low {s : SfS} (ok : s.Ok) (h : s.Low) (a : ActT) : (stepS s a).Low ∧ s.v ≤ (stepS s a).v ∧ s.most ≤ (stepS s a).most := by
  unfold stepS
  split
  · unfold SfS.add
    split
    · exact ⟨h, Int.le_refl _, Int.le_refl _⟩
    · refine ⟨fun e he hh => ?_, Int.le_refl _, Int.le_refl _⟩
      rcases List.mem_append.1 he with he | he
      · exact h e he hh
      · simp only [List.mem_singleton] at he; subst he; cases hh
  · split
    · unfold SfS.remove
      cases getF s.fs a.flow with
      | none => exact ⟨h, Int.le_refl _, Int.le_refl _⟩
      | some x =>
        simp only
        split
        · exact ⟨fun e he hh => h e (List.mem_filter.1 he).1 hh, Int.le_refl _, Int.le_refl _⟩
        · exact ⟨h, Int.le_refl _, Int.le_refl _⟩
    · split
      · unfold SfS.arrive
        cases hg : getF s.fs a.p.flow with
        | none => exact ⟨h, Int.le_refl _, Int.le_refl _⟩
        | some x =>
          refine ⟨low_set h fun hh => ?_, Int.le_refl _, Int.le_refl _⟩
          have hx := getF_mem hg
          unfold FlS.arrive at hh ⊢
          by_cases hf : x.full = true
          · rw [if_pos hf] at hh ⊢; exact h _ hx hh
          · rw [if_neg hf]
            show s.v ≤ if x.l = [] then max s.v x.finish else x.start
            by_cases hl : x.l = []
            · rw [if_pos hl]; omega
            · rw [if_neg hl]; exact h _ hx (has_l.2 hl)
      · exact serve_low ok h
theorem starts_low {s : SfS} (h : s.Low) {k : Nat} (hk : k < s.starts.length) : s.v ≤ (nthE s.starts k).1 := by
  have hm : nthE s.starts k ∈ entL s.fs := (sortE_perm _).mem_iff.1 (nthE_mem hk)
  obtain ⟨e, he, hh, h2⟩ := entL_mem hm
  rw [h2]
  exact h e he hh

set_option maxHeartbeats 2000000 in
theorem rises_in (ao : Option Addr) (n cap : Nat) (l : List ActT) (w : World) (h : RdT w ao n cap l) :
    Calls Try.prog 4 #[.slice ao n cap] w fun e w' => e = .returned (.bool true) ∧ Below w.heap.size w w' := by
  have hs := h.small
  go_enter Try.func4, Try.ntmps4
  go_wp2_with fail
  refine (newO w w (Below.refl _ _)).mono ?_
  rintro e w1 ⟨b, rfl, H⟩
  have O := twoBegin H
  clear H
  go_upto_region 2 with fail
  generalize hc : w1.heap.size = c at *
  clear hc
  generalize (w1.alloc (.cells #[.slice none 0 0, .int .u64 0, .int .u64 0] 43)) = W1 at *
  go_wp2_with fail
  refine (awake10_any _).mono ?_
  rintro e w2 ⟨rfl, hb2⟩
  replace O := O.below hb2
  obtain ⟨F, f1, f2, f3⟩ := O
  go_wp2_with fail
  refine (some_any b c F _ f1).mono ?_
  rintro e w3 ⟨rfl, hp⟩
  have O := OwnT.post f2 f3 hp
  clear f1 f2 f3 hp hb2
  obtain ⟨F, f1, f2, f3⟩ := O
  have f1' := f1
  go_wp2_with fail
  refine (twoV f1).mono ?_
  rintro e w' ⟨rfl, rfl⟩
  go_wp2_with fail
  refine (twoMost f1').mono ?_
  rintro e w' ⟨rfl, rfl⟩
  have O : OwnT w w3 b c (someS 4) (someR 4) := ⟨F, f1, f2, f3⟩
  have hsim := some_sim 4
  have hok := some_ok 4 (Nat.le_refl _)
  have hln : (someS 4).fs.length ≤ 4 := some_len 4
  have hlo := someS_low
  generalize someS 4 = s0 at *
  generalize someR 4 = t0 at *
  clear f1 f1' f2 f3
  go_wp2_with fail
  go_loopw [5, 6, 7, 8, 9] (fun u5 u6 u7 _ _ wr => ∃ (k : Nat) (s t : SfS), k ≤ n ∧ k ≤ 80 ∧ u7 = .int .i64 k ∧ u5 = .int .u64 s.v ∧ u6 = .int .u64 s.most ∧ OwnT w wr b c s t ∧ Sim s t ∧ s.Ok ∧ s.fs.length ≤ 4 + k ∧ s.Low) (fun _ _ u7 _ _ _ => (80 - intOf u7).toNat)
  case atStart => exact ⟨0, s0, t0, Nat.zero_le _, Nat.zero_le _, rfl, rfl, rfl, O, hsim, hok, hln, hlo⟩
  case round =>
    obtain ⟨k, s, t, hk, hk8, rfl, rfl, rfl, O, hsim, hok, hln, hlo⟩ := hrel
    by_cases hlx : k < n ∧ k < 80
    · obtain ⟨hl, h8⟩ := hlx
      have i1 : (k : Int) < (n : Int) := by omega
      have i2 : (k : Int) < 80 := by omega
      have ha := h.nth_ok k
      obtain ⟨bl, off, rfl, hc⟩ := h.cells hl
      obtain ⟨F, f1, f2, f3⟩ := O
      obtain ⟨q0, q1, q2, q3, q4, q5, q6⟩ := hc _ f3
      obtain ⟨g1, g2, g3⟩ := stepS_low hok hlo (nthT l k).near
      have hsim2 := hsim.step (nthT l k).near
      have hok2 := stepS_ok hok (ActT.near_ok ha)
      have hln2 := stepS_length s (nthT l k).near
      have HC := Lib.hid hc
      have G1 := Lib.hid g1
      have S2 := Lib.hid hsim2
      have K2 := Lib.hid hok2
      clear hc g1 hsim2 hok2 hlo
      go_wp2_with fail
      refine (step_any b c s t F (nthT l k) wr f1 hsim hok ha (by omega)).mono ?_
      rintro e w4 ⟨rfl, hp⟩
      have O := OwnT.post f2 f3 hp
      clear f1 f2 f3 hp q0 q1 q2 q3 q4 q5 q6 hsim hok
      generalize stepS s (nthT l k).near = s2 at *
      generalize stepR t (nthT l k).near = t2 at *
      obtain ⟨F2, f1, f2, f3⟩ := O
      have g4 : ¬ s2.v < s.v := by omega
      have g5 : ¬ s2.most < s.most := by omega
      go_wp2_with fail
      refine (twoV f1).mono ?_
      rintro e w' ⟨rfl, rfl⟩
      go_wp2_with fail
      refine (twoMost f1).mono ?_
      rintro e w' ⟨rfl, rfl⟩
      go_wp2_with fail
      refine (twoV f1).mono ?_
      rintro e w' ⟨rfl, rfl⟩
      go_wp2_with fail
      refine (twoMost f1).mono ?_
      rintro e w' ⟨rfl, rfl⟩
      go_wp2_with fail
      refine (twoStarts f1 (by omega)).mono ?_
      rintro e w5 ⟨x, rfl, hrow, hb5⟩
      have O : OwnT w w5 b c s2 t2 := OwnT.below ⟨F2, f1, f2, f3⟩ hb5
      obtain ⟨xa, xc, rfl⟩ := owns_slice hrow
      have hrd := owns_rdS hrow (entC_one _)
      have hsm := hrd.small
      have G6 := Lib.hid (fun (j : Nat) (hj : j < s2.starts.length) => starts_low G1.out hj)
      generalize hL : s2.starts = L at *
      obtain ⟨m, hm⟩ : ∃ m, L.length = m := ⟨_, rfl⟩
      rw [hm] at hrd hsm G6 ⊢
      have HM := Lib.hid hm
      clear hm hL hrow f1 f2 f3 hb5
      go_wp2_with fail
      go_loopw [9] (fun v9 wr2 => ∃ j : Nat, j ≤ m ∧ v9 = .int .i64 j ∧ w5 = wr2) (fun v9 _ => m - (intOf v9).toNat)
      case atStart => exact ⟨0, Nat.zero_le _, rfl, rfl⟩
      case round =>
        obtain ⟨j, hj, rfl, rfl⟩ := hrel
        by_cases hjm : j < m
        · obtain ⟨xb, xo, rfl, hxl, hx⟩ := rds_ent hrd HM.out hjm
          obtain ⟨x0, -⟩ := hx _ (Below.refl _ _)
          have j1 : (j : Int) < (m : Int) := by omega
          have j2 : ¬ (nthE L j).1 < s2.v := by have := G6.out j hjm; omega
          clear hx
          go_wp2
          go_roundw
          case rel => exact ⟨j + 1, by omega, by go_num, by first | rfl | trivial⟩
          case measure => simp [intOf]; omega
        · obtain rfl : j = m := by omega
          go_wp2
          go_roundw
          case rel => exact ⟨k + 1, s2, t2, hl, h8, by go_num, rfl, rfl, O, S2.out, K2.out, by omega, G1.out⟩
          case measure => simp [intOf]; omega
    · have i3 : (n : Int) ≤ (k : Int) ∨ (k : Int) < (n : Int) ∧ 80 ≤ (k : Int) := by omega
      rcases i3 with i1 | ⟨i1, i2⟩
      all_goals
        go_wp2
        go_ret
        exact ⟨rfl, O.bel⟩

theorem SfqRises_any (w : World) (ao : Option Addr) (n cap : Nat) (L : List (List Value)) (w2 : IsRows w [.int .i64, .int .i64, .int .i64, .int .u64, .int .i64, .int .i64, .int .i64] ao n cap L) :
    Calls Try.prog 4 #[.slice ao n cap] w fun e w' => e = .returned (.bool true) ∧ Below w.heap.size w w' := by
  obtain ⟨l, h⟩ := isRows_rdT w2
  exact rises_in ao n cap l w h
end Go.Proofs.Ytnanalaienlbpaa
