/- RaceConflict: who is in conflict. -/
import Derived.Test.YtkhhjjjpbfnlmaaRaceQ
import Derived.Deep.RegionWith
namespace Go.Proofs.Ytkhhjjjpbfnlmaa
set_option linter.unusedVariables false
set_option linter.unusedSimpArgs false
open Go.RowKit Go.Proofs.YtkhhjjjpbfnlmaaMem Go.Proofs.YtkhhjjjpbfnlmaaFlat Go.Proofs.YtkhhjjjpbfnlmaaMapK

def BoxE (w : World) (b : Nat) (x : EvS) : Prop := w.heap[b]? = some (.cells #[.int .i64 x.who, .int .i64 x.kind, .int .i64 x.loc.kind, .int .i64 x.loc.a, .int .i64 x.loc.b] 36 (0, 0))
theorem BoxE.cells {w : World} {b : Nat} {x : EvS} (h : BoxE w b x) : w.cell? ⟨b, 0, none⟩ = some (.int .i64 x.who) ∧ w.cell? ⟨b, 1, none⟩ = some (.int .i64 x.kind) ∧ w.cell? ⟨b, 2, none⟩ = some (.int .i64 x.loc.kind) ∧ w.cell? ⟨b, 3, none⟩ = some (.int .i64 x.loc.a) ∧ w.cell? ⟨b, 4, none⟩ = some (.int .i64 x.loc.b) := by
  have h := h
  unfold BoxE at h
  simp only [World.cell?, h]
  exact ⟨rfl, rfl, rfl, rfl, rfl⟩
theorem BoxE.frozen {w : World} {b : Nat} {x : EvS} (h : BoxE w b x) (o : Nat) : w.frozen? ⟨b, o, none⟩ = false := by
  unfold BoxE at h
  simp [World.frozen?, h]
theorem BoxE.lt {w : World} {b : Nat} {x : EvS} (h : BoxE w b x) : b < w.heap.size := (Array.getElem?_eq_some_iff.1 h).1
theorem BoxE.below {w w' : World} {b : Nat} {x : EvS} (h : BoxE w b x) (hb : Below w.heap.size w w') : BoxE w' b x := (hb.block b h.lt).trans h
theorem two_boxesE (w : World) (x y : EvS) : BoxE ((w.alloc (.cells #[.int .i64 x.who, .int .i64 x.kind, .int .i64 x.loc.kind, .int .i64 x.loc.a, .int .i64 x.loc.b] 36)).alloc (.cells #[.int .i64 y.who, .int .i64 y.kind, .int .i64 y.loc.kind, .int .i64 y.loc.a, .int .i64 y.loc.b] 36)) w.heap.size x ∧ BoxE ((w.alloc (.cells #[.int .i64 x.who, .int .i64 x.kind, .int .i64 x.loc.kind, .int .i64 x.loc.a, .int .i64 x.loc.b] 36)).alloc (.cells #[.int .i64 y.who, .int .i64 y.kind, .int .i64 y.loc.kind, .int .i64 y.loc.a, .int .i64 y.loc.b] 36)) (w.heap.size + 1) y := by
  refine ⟨(heap_alloc_old _ _ (by simp)).trans (heap_alloc_new w _), ?_⟩
  have e : (w.alloc (.cells #[.int .i64 x.who, .int .i64 x.kind, .int .i64 x.loc.kind, .int .i64 x.loc.a, .int .i64 x.loc.b] 36)).heap.size = w.heap.size + 1 := by simp
  have := heap_alloc_new (w.alloc (.cells #[.int .i64 x.who, .int .i64 x.kind, .int .i64 x.loc.kind, .int .i64 x.loc.a, .int .i64 x.loc.b] 36)) (.cells #[.int .i64 y.who, .int .i64 y.kind, .int .i64 y.loc.kind, .int .i64 y.loc.a, .int .i64 y.loc.b] 36)
  rw [e] at this
  exact this
theorem conflict_comm (a b : EvS) : conflictB b a = conflictB a b := by
  unfold conflictB
  rw [show decide (b.who ≠ a.who) = decide (a.who ≠ b.who) from by congr 1; simp only [eq_iff_iff]; exact ne_comm, show decide (b.loc = a.loc) = decide (a.loc = b.loc) from by congr 1; simp only [eq_iff_iff]; exact eq_comm, Bool.or_comm (plainB b.kind), Bool.or_comm (writesB b.kind)]
theorem conflict_self (a : EvS) : conflictB a a = false := by simp [conflictB]
theorem conflict_atomic {a b : EvS} (ha : a.kind < 5) (hb : b.kind < 5) : conflictB a b = false := by
  have h1 : plainB a.kind = false := by unfold plainB; simp; omega
  have h2 : plainB b.kind = false := by unfold plainB; simp; omega
  simp [conflictB, h1, h2]

set_option maxHeartbeats 1500000 in
theorem RaceConflict_1 (a b : EvS) (q : Int) (w : World) :
    Calls Try.prog 5 #[.agg #[.int .i64 a.who, .int .i64 a.kind, .int .i64 a.loc.kind, .int .i64 a.loc.a, .int .i64 a.loc.b], .agg #[.int .i64 b.who, .int .i64 b.kind, .int .i64 b.loc.kind, .int .i64 b.loc.a, .int .i64 b.loc.b], .int .i64 q] w fun e w' => e = .returned (.bool true) ∧ Below w.heap.size w w' := by
  go_enter Try.func5, Try.ntmps5
  go_upto_region 1 with fail
  have hh := two_boxesE w a b
  have hbW := below2 w (.cells #[.int .i64 a.who, .int .i64 a.kind, .int .i64 a.loc.kind, .int .i64 a.loc.a, .int .i64 a.loc.b] 36) (.cells #[.int .i64 b.who, .int .i64 b.kind, .int .i64 b.loc.kind, .int .i64 b.loc.a, .int .i64 b.loc.b] 36)
  generalize ((w.alloc (.cells #[.int .i64 a.who, .int .i64 a.kind, .int .i64 a.loc.kind, .int .i64 a.loc.a, .int .i64 a.loc.b] 36)).alloc (.cells #[.int .i64 b.who, .int .i64 b.kind, .int .i64 b.loc.kind, .int .i64 b.loc.a, .int .i64 b.loc.b] 36)) = W at *
  obtain ⟨hA, hB⟩ := hh
  generalize hn : w.heap.size = A at *
  have hle : A ≤ A + 1 := Nat.le_succ A
  go_upto_if 10 with fail
  go_cut [10] from 11 to 20 (fun s10 wx => ∃ x y : EvS, BoxE wx A x ∧ BoxE wx (A + 1) y ∧ Below A w wx)
  case first =>
    obtain ⟨a0, a1, a2, a3, a4⟩ := hA.cells
    obtain ⟨b0, b1, b2, b3, b4⟩ := hB.cells
    by_cases hq : 0 < q.tmod 3
    · have p1 := hA.frozen 1
      have p2 := hB.frozen 1
      have HA := Lib.hid hA
      have HB := Lib.hid hB
      clear hA hB
      go_wp2_with fail
      go_region_with (first
        | (go_at_call 21; (with_reducible refine (mod_any _ 6 (by omega) (by omega) _).mono ?_); rintro e w' ⟨rfl, rfl⟩))
      all_goals
        go_wp2
        go_meet
        have hA := HA.out
        have hB := HB.out
        unfold BoxE at hA hB
        refine ⟨⟨a.who, IntKind.i64.wrap (1 + modZ a.kind 6), a.loc⟩, ⟨b.who, IntKind.i64.wrap (1 + modZ b.kind 6), b.loc⟩, ?_, ?_, ?_⟩
        · unfold BoxE; simp [World.setCell, World.drew, Array.getElem?_modify, hA, RowKit.wrap64, IntKind.wrap_i64]
        · unfold BoxE; simp [World.setCell, World.drew, Array.getElem?_modify, hB, RowKit.wrap64, IntKind.wrap_i64]
        · first
            | exact ((hbW.setCell (p := ⟨A, 1, none⟩) (Nat.le_refl _) _).setCell (p := ⟨A + 1, 1, none⟩) hle _).drew
            | exact ((hbW.setCell (p := ⟨A + 1, 1, none⟩) hle _).setCell (p := ⟨A, 1, none⟩) (Nat.le_refl _) _).drew
            | exact ((hbW.drew.setCell (p := ⟨A, 1, none⟩) (Nat.le_refl _) _).setCell (p := ⟨A + 1, 1, none⟩) hle _)
            | exact ((hbW.drew.setCell (p := ⟨A + 1, 1, none⟩) hle _).setCell (p := ⟨A, 1, none⟩) (Nat.le_refl _) _)
    · have HA := Lib.hid hA
      have HB := Lib.hid hB
      clear hA hB
      go_wp2
      go_meet
      exact ⟨a, b, HA.out, HB.out, hbW⟩
  case rest =>
    obtain ⟨x, y, hX, hY, hb1⟩ := hcut
    clear hA hB hbW
    go_upto_if 23 with fail
    go_cut [23] from 24 to 26 (fun s23 wx => ∃ x y : EvS, BoxE wx A x ∧ BoxE wx (A + 1) y ∧ Below A w wx)
    case first =>
      obtain ⟨a0, a1, a2, a3, a4⟩ := hX.cells
      obtain ⟨b0, b1, b2, b3, b4⟩ := hY.cells
      have p2 := hY.frozen 2
      have p3 := hY.frozen 3
      have p4 := hY.frozen 4
      have HX := Lib.hid hX
      have HY := Lib.hid hY
      clear hX hY
      cases hq : q.tmod 2 == 0
      · go_wp2
        go_meet
        exact ⟨x, y, HX.out, HY.out, hb1⟩
      · go_wp2
        go_meet
        have hA := HX.out
        have hB := HY.out
        unfold BoxE at hA hB
        refine ⟨x, ⟨y.who, y.kind, x.loc⟩, ?_, ?_, ?_⟩
        · unfold BoxE; simp [World.setCell, Array.getElem?_modify, hA]
        · unfold BoxE; simp [World.setCell, Array.getElem?_modify, hB]
        · exact ((hb1.setCell (p := ⟨A + 1, 2, none⟩) hle _).setCell (p := ⟨A + 1, 3, none⟩) hle _).setCell (p := ⟨A + 1, 4, none⟩) hle _
    case rest =>
      clear hX hY hb1
      obtain ⟨x, y, hX, hY, hb1⟩ := hcut
      have hbb := hb1
      rw [← hn] at hbb
      have cells := fun (w' : World) (hb : Below wc.heap.size wc w') => And.intro (hX.below hb).cells (hY.below hb).cells
      have HC := Lib.hid cells
      clear cells
      obtain ⟨⟨a0, a1, a2, a3, a4⟩, ⟨b0, b1, b2, b3, b4⟩⟩ := HC.out wc (Below.refl _ _)
      clear hX hY
      rcases (show x.kind < 1 ∨ (¬ x.kind < 1 ∧ 6 < x.kind) ∨ (¬ x.kind < 1 ∧ ¬ 6 < x.kind ∧ y.kind < 1) ∨ (¬ x.kind < 1 ∧ ¬ 6 < x.kind ∧ ¬ y.kind < 1 ∧ 6 < y.kind) ∨ (¬ x.kind < 1 ∧ ¬ 6 < x.kind ∧ ¬ y.kind < 1 ∧ ¬ 6 < y.kind) by omega) with t | ⟨t, t2⟩ | ⟨t, t2, t3⟩ | ⟨t, t2, t3, t4⟩ | ⟨t, t2, t3, t4⟩
      iterate 4
        · go_wp2_with fail
          refine (awake_any _).mono ?_
          rintro e w' ⟨rfl, hb'⟩
          go_wp2
          go_ret
          exact ⟨rfl, below_step hbb hb'⟩
      · have hcf : conf2B x y = conflictB x y := conf2_eq (by omega) (by omega)
        have hcm := conflict_comm x y
        have hcs := conflict_self x
        obtain ⟨c, hc⟩ : ∃ c, conflictB x y = c := ⟨_, rfl⟩
        rw [hc] at hcf hcm
        have hat : c = true → ¬ (x.kind < 5 ∧ y.kind < 5) := fun h1 h2 => by rw [conflict_atomic h2.1 h2.2] at hc; rw [← hc] at h1; cases h1
        have HCF := Lib.hid hcf
        have HCM := Lib.hid hcm
        have HCS := Lib.hid hcs
        have HCC := Lib.hid hc
        clear hcf hcm hcs hc
        rcases (show (c = false ∧ x.kind < 5 ∧ y.kind < 5) ∨ (c = false ∧ x.kind < 5 ∧ ¬ y.kind < 5) ∨ (c = false ∧ ¬ x.kind < 5) ∨ (c = true ∧ x.kind < 5 ∧ ¬ y.kind < 5) ∨ (c = true ∧ ¬ x.kind < 5) by
          by_cases h1 : x.kind < 5 <;> by_cases h2 : y.kind < 5 <;> cases c <;> simp [h1, h2] at hat ⊢) with ⟨rfl, k1, k2⟩ | ⟨rfl, k1, k2⟩ | ⟨rfl, k1⟩ | ⟨rfl, k1, k2⟩ | ⟨rfl, k1⟩
        all_goals
          clear hat
          go_wp2_with fail
          refine (conflict_any x y _).mono ?_
          rw [HCC.out]
          rintro e w1 ⟨rfl, hB1⟩
          go_wp2_with fail
          refine (awake_any _).mono ?_
          rintro e w2 ⟨rfl, hB2⟩
          have C2 := below_step hB1 hB2
          obtain ⟨⟨d0, d1, d2, d3, d4⟩, ⟨f0, f1, f2, f3, f4⟩⟩ := HC.out w2 C2
          clear hB1 hB2
          go_wp2_with fail
          refine (refConflict_any x y _).mono ?_
          rw [HCF.out]
          rintro e w3 ⟨rfl, hB3⟩
          have C3 := below_step C2 hB3
          clear hB3 C2 d0 d1 d2 d3 d4 f0 f1 f2 f3 f4
          obtain ⟨⟨d0, d1, d2, d3, d4⟩, ⟨f0, f1, f2, f3, f4⟩⟩ := HC.out w3 C3
          go_wp2_with fail
          refine (conflict_any y x _).mono ?_
          rw [HCM.out]
          rintro e w4 ⟨rfl, hB4⟩
          have C4 := below_step C3 hB4
          clear hB4 C3 d0 d1 d2 d3 d4 f0 f1 f2 f3 f4
          obtain ⟨⟨d0, d1, d2, d3, d4⟩, ⟨f0, f1, f2, f3, f4⟩⟩ := HC.out w4 C4
          go_wp2_with fail
          refine (conflict_any x x _).mono ?_
          rw [HCS.out]
          rintro e w5 ⟨rfl, hB5⟩
          go_wp2
          go_ret
          first
            | exact ⟨rfl, below_step hbb (below_step C4 hB5)⟩
            | exact ⟨congrArg (fun b => Ending.returned (Value.bool b)) (show (!decide (y.kind < 5)) = true by simp; omega), below_step hbb (below_step C4 hB5)⟩

theorem RaceConflict_any (w : World) (cx : List Value) (hx : FlatOk [.int .i64, .int .i64, .int .i64, .int .i64, .int .i64] cx) (cy : List Value) (hy : FlatOk [.int .i64, .int .i64, .int .i64, .int .i64, .int .i64] cy) (q : Int) (hq : (Lit.int .i64 q).wf = true) :
    Calls Try.prog 5 #[.agg cx.toArray, .agg cy.toArray, .int .i64 q] w fun e w' => e = .returned (.bool true) ∧ Below w.heap.size w w' := by
  obtain ⟨x, rfl, ox⟩ := ev_of hx
  obtain ⟨y, rfl, oy⟩ := ev_of hy
  exact RaceConflict_1 x y q w
end Go.Proofs.Ytkhhjjjpbfnlmaa
