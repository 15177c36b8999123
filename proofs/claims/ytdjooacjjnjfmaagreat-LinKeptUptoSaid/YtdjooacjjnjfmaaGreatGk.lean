/- Several texts in one: CfgIn ConfP. -/
import Derived.Test.YtdjooacjjnjfmaaGreatGh
import Derived.Test.YtdjooacjjnjfmaaGreatGf
import Derived.Test.YtdjooacjjnjfmaaGreatGi
import Derived.Test.YtdjooacjjnjfmaaGreatGb
-- A config in a variable of the call's own.
section
namespace Go.Proofs.YtdjooacjjnjfmaaGreat
set_option linter.unusedVariables false
set_option linter.unusedSimpArgs false
set_option maxRecDepth 20000
open Go.RowKit Go.Proofs.YtdjooacjjnjfmaaGreatMem Go.Proofs.YtdjooacjjnjfmaaGreatFlat Go.Proofs.YtdjooacjjnjfmaaGreatMapK

/-- Behind the config that was made right: the box holds it. -/
structure CfgIn (w W : World) (c : Cfg) : Prop where
  bel : Below w.heap.size w W
  box : Blk W w.heap.size c.cells 24
theorem CfgIn.below {w W W' : World} {c : Cfg} (h : CfgIn w W c) (hb : Below W.heap.size W W') : CfgIn w W' c := ⟨h.bel.trans (hb.mono h.bel.size), h.box.below hb⟩
theorem CfgIn.set {w W : World} {c : Cfg} (h : CfgIn w W c) (c' : Cfg) : CfgIn w (((((W.setCell ⟨w.heap.size, 0, none⟩ (.int .i64 c'.shards)).setCell ⟨w.heap.size, 1, none⟩ (.int .i64 c'.slots)).setCell ⟨w.heap.size, 2, none⟩ (.int .i64 c'.workers)).setCell ⟨w.heap.size, 3, none⟩ (.int .i64 c'.width)).setCell ⟨w.heap.size, 4, none⟩ (.int .u64 c'.unit)) c' := by
  have hz : w.heap.size ≤ w.heap.size := Nat.le_refl _
  exact ⟨((((h.bel.setCell (p := ⟨w.heap.size, 0, none⟩) hz _).setCell (p := ⟨w.heap.size, 1, none⟩) hz _).setCell (p := ⟨w.heap.size, 2, none⟩) hz _).setCell (p := ⟨w.heap.size, 3, none⟩) hz _).setCell (p := ⟨w.heap.size, 4, none⟩) hz _,
    ((((h.box.set 0 (.int .i64 c'.shards)).set 1 (.int .i64 c'.slots)).set 2 (.int .i64 c'.workers)).set 3 (.int .i64 c'.width)).set 4 (.int .u64 c'.unit)⟩
theorem CfgIn.cells {w W : World} {c : Cfg} (h : CfgIn w W c) : W.cell? ⟨w.heap.size, 0, none⟩ = some (.int .i64 c.shards) ∧ W.cell? ⟨w.heap.size, 1, none⟩ = some (.int .i64 c.slots) ∧ W.cell? ⟨w.heap.size, 2, none⟩ = some (.int .i64 c.workers) ∧ W.cell? ⟨w.heap.size, 3, none⟩ = some (.int .i64 c.width) ∧ W.cell? ⟨w.heap.size, 4, none⟩ = some (.int .u64 c.unit) ∧ w.heap.size < W.heap.size :=
  ⟨h.box.cell 0, h.box.cell 1, h.box.cell 2, h.box.cell 3, h.box.cell 4, h.box.lt⟩
theorem CfgIn.frozen {w W : World} {c : Cfg} (h : CfgIn w W c) : W.frozen? ⟨w.heap.size, 0, none⟩ = false ∧ W.frozen? ⟨w.heap.size, 1, none⟩ = false ∧ W.frozen? ⟨w.heap.size, 2, none⟩ = false ∧ W.frozen? ⟨w.heap.size, 3, none⟩ = false ∧ W.frozen? ⟨w.heap.size, 4, none⟩ = false :=
  ⟨h.box.frozen 0, h.box.frozen 1, h.box.frozen 2, h.box.frozen 3, h.box.frozen 4⟩
theorem CfgIn.start (w : World) (c : Cfg) : CfgIn w (w.alloc (.cells #[.int .i64 c.shards, .int .i64 c.slots, .int .i64 c.workers, .int .i64 c.width, .int .u64 c.unit] 24)) c := ⟨below1 _ _, Blk.new w c.cells 24⟩
theorem cfg_of {cs : List Value} (h : FlatOk [.int .i64, .int .i64, .int .i64, .int .i64, .int .u64] cs) : ∃ c : Cfg, cs = c.cells ∧ W64 c.unit := by
  obtain ⟨_, _, rfl, ⟨a, rfl, ha⟩, _, _, rfl, ⟨b, rfl, hb⟩, _, _, rfl, ⟨c, rfl, hc⟩, _, _, rfl, ⟨d, rfl, hd⟩, _, _, rfl, ⟨e, rfl, he⟩, rfl⟩ := h
  refine ⟨⟨a, b, c, d, e⟩, rfl, ?_⟩
  simp only [Lit.wf, Bool.and_eq_true, decide_eq_true_eq, IntKind.min, IntKind.max] at he
  simp [IntKind.signed, IntKind.bits] at he
  show W64 e
  unfold W64
  omega
end Go.Proofs.YtdjooacjjnjfmaaGreat
end

-- weighbridgeplay.Config: a config that is right, of any one.
section
namespace Go.Proofs.YtdjooacjjnjfmaaGreat
set_option linter.unusedVariables false
set_option linter.unusedSimpArgs false
set_option maxRecDepth 20000
open Go.RowKit Go.Proofs.YtdjooacjjnjfmaaGreatMem Go.Proofs.YtdjooacjjnjfmaaGreatMapK

def confU (u : Int) : Int := if u % 4 = 3 then 1 + u % 4611686018427387904 else 1 + u % 5000
def confP (c : Cfg) : Cfg := ⟨1 + modZ c.shards 4, 1 + modZ c.slots 4, 1 + modZ c.workers 6, modZ c.width 12, confU c.unit⟩
theorem confU_bd {u : Int} (h : W64 u) : 1 ≤ confU u ∧ confU u ≤ 4611686018427387904 := by
  unfold confU W64 at *
  split <;> omega
theorem confP_right (c : Cfg) (h : W64 c.unit) : (confP c).right = true := by
  have h1 := modZ_bd c.shards (n := 4) (by omega)
  have h2 := modZ_bd c.slots (n := 4) (by omega)
  have h3 := modZ_bd c.workers (n := 6) (by omega)
  have h4 := modZ_bd c.width (n := 12) (by omega)
  have h5 := confU_bd h
  unfold Cfg.right inB confP
  simp only [Bool.and_eq_true, decide_eq_true_eq]
  omega
theorem confP_ok (c : Cfg) (h : W64 c.unit) : (confP c).Ok := by
  have h1 := modZ_bd c.shards (n := 4) (by omega)
  have h5 := confU_bd h
  exact ⟨by show W64 (confU c.unit); unfold W64; omega, by show 1 + modZ c.shards 4 ≠ 0; omega⟩
set_option maxHeartbeats 4000000 in
theorem config_any (c : Cfg) (hu : W64 c.unit) (w : World) :
    Calls Tryz.prog 10 #[.agg #[.int .i64 c.shards, .int .i64 c.slots, .int .i64 c.workers, .int .i64 c.width, .int .u64 c.unit]] w fun e w' => e = .returned (.agg #[.int .i64 (confP c).shards, .int .i64 (confP c).slots, .int .i64 (confP c).workers, .int .i64 (confP c).width, .int .u64 (confP c).unit]) ∧ Below w.heap.size w w' := by
  have C0 := mod_any c.shards 4 (by omega) (by omega)
  have C1 := mod_any c.slots 4 (by omega) (by omega)
  have C2 := mod_any c.workers 6 (by omega) (by omega)
  have C3 := mod_any c.width 12 (by omega) (by omega)
  have B0 : Blk (w.alloc (.cells #[.int .i64 c.shards, .int .i64 c.slots, .int .i64 c.workers, .int .i64 c.width, .int .u64 c.unit] 24)) w.heap.size c.cells 24 := Blk.new w c.cells 24
  have hb1 : Below w.heap.size w ((w.alloc (.cells #[.int .i64 c.shards, .int .i64 c.slots, .int .i64 c.workers, .int .i64 c.width, .int .u64 c.unit] 24)).alloc (.cells #[.int .i64 0, .int .i64 0, .int .i64 0, .int .i64 0, .int .u64 0] 24)) := ((Below.refl _ _).alloc (Nat.le_refl _) _).alloc (by simp) _
  have B1 := B0.alloc (.cells #[.int .i64 0, .int .i64 0, .int .i64 0, .int .i64 0, .int .u64 0] 24)
  have B2 := Blk.new (w.alloc (.cells #[.int .i64 c.shards, .int .i64 c.slots, .int .i64 c.workers, .int .i64 c.width, .int .u64 c.unit] 24)) [.int .i64 0, .int .i64 0, .int .i64 0, .int .i64 0, .int .u64 0] 24
  have e1 : (w.alloc (.cells #[.int .i64 c.shards, .int .i64 c.slots, .int .i64 c.workers, .int .i64 c.width, .int .u64 c.unit] 24)).heap.size = w.heap.size + 1 := by simp
  rw [e1] at B2
  clear B0 e1
  have hP : confP c = ⟨1 + modZ c.shards 4, 1 + modZ c.slots 4, 1 + modZ c.workers 6, modZ c.width 12, confU c.unit⟩ := rfl
  have h1 := modZ_bd c.shards (n := 4) (by omega)
  have h2 := modZ_bd c.slots (n := 4) (by omega)
  have h3 := modZ_bd c.workers (n := 6) (by omega)
  have m1 : Value.int .i64 (IntKind.i64.wrap (1 + modZ c.shards 4)) = .int .i64 (1 + modZ c.shards 4) := by rw [IntWalk.i64_left, IntWalk.wrap64_in _ (by omega)]
  have m2 : Value.int .i64 (IntKind.i64.wrap (1 + modZ c.slots 4)) = .int .i64 (1 + modZ c.slots 4) := by rw [IntWalk.i64_left, IntWalk.wrap64_in _ (by omega)]
  have m3 : Value.int .i64 (IntKind.i64.wrap (1 + modZ c.workers 6)) = .int .i64 (1 + modZ c.workers 6) := by rw [IntWalk.i64_left, IntWalk.wrap64_in _ (by omega)]
  obtain ⟨u1, u2⟩ := hu
  have p0 : 0 ≤ c.unit % 4 := Int.emod_nonneg _ (by omega)
  have p4 : c.unit % 4 < 4 := Int.emod_lt_of_pos _ (by omega)
  have p1 : Value.int .u64 (IntKind.u64.wrap (1 + c.unit % 5000)) = .int .u64 (1 + c.unit % 5000) := by rw [IntKind.wrap_u64]; congr 1; omega
  have p2 : Value.int .u64 (IntKind.u64.wrap (1 + c.unit % 4611686018427387904)) = .int .u64 (1 + c.unit % 4611686018427387904) := by rw [IntKind.wrap_u64]; congr 1; omega
  rw [hP]
  have hU : confU c.unit = if c.unit % 4 = 3 then 1 + c.unit % 4611686018427387904 else 1 + c.unit % 5000 := rfl
  have HU := Lib.hid hU
  clear hP hU h1 h2 h3
  generalize confU c.unit = U at *
  go_enter Tryz.func10, Tryz.ntmps10
  go_upto_region 1 with fail
  generalize ((w.alloc (.cells #[.int .i64 c.shards, .int .i64 c.slots, .int .i64 c.workers, .int .i64 c.width, .int .u64 c.unit] 24)).alloc (.cells #[.int .i64 0, .int .i64 0, .int .i64 0, .int .i64 0, .int .u64 0] 24)) = W at *
  have x0 : W.cell? ⟨w.heap.size, 0, none⟩ = some (.int .i64 c.shards) := B1.cell 0
  have x1 : W.cell? ⟨w.heap.size, 1, none⟩ = some (.int .i64 c.slots) := B1.cell 1
  have x2 : W.cell? ⟨w.heap.size, 2, none⟩ = some (.int .i64 c.workers) := B1.cell 2
  have x3 : W.cell? ⟨w.heap.size, 3, none⟩ = some (.int .i64 c.width) := B1.cell 3
  have x4 : W.cell? ⟨w.heap.size, 4, none⟩ = some (.int .u64 c.unit) := B1.cell 4
  have xl := B1.lt
  have HB1 := Lib.hid B1
  have HB := Lib.hid hb1
  have hne : w.heap.size ≠ w.heap.size + 1 := by omega
  have HK : Hid (∀ v0 v1 v2 v3 v4, (((((W.setCell ⟨w.heap.size + 1, 0, none⟩ v0).setCell ⟨w.heap.size + 1, 1, none⟩ v1).setCell ⟨w.heap.size + 1, 2, none⟩ v2).setCell ⟨w.heap.size + 1, 3, none⟩ v3).setCell ⟨w.heap.size + 1, 4, none⟩ v4).drew.cell? ⟨w.heap.size, 0, none⟩ = some (.int .i64 c.shards) ∧ (((((W.setCell ⟨w.heap.size + 1, 0, none⟩ v0).setCell ⟨w.heap.size + 1, 1, none⟩ v1).setCell ⟨w.heap.size + 1, 2, none⟩ v2).setCell ⟨w.heap.size + 1, 3, none⟩ v3).setCell ⟨w.heap.size + 1, 4, none⟩ v4).drew.cell? ⟨w.heap.size, 1, none⟩ = some (.int .i64 c.slots) ∧ (((((W.setCell ⟨w.heap.size + 1, 0, none⟩ v0).setCell ⟨w.heap.size + 1, 1, none⟩ v1).setCell ⟨w.heap.size + 1, 2, none⟩ v2).setCell ⟨w.heap.size + 1, 3, none⟩ v3).setCell ⟨w.heap.size + 1, 4, none⟩ v4).drew.cell? ⟨w.heap.size, 2, none⟩ = some (.int .i64 c.workers) ∧ (((((W.setCell ⟨w.heap.size + 1, 0, none⟩ v0).setCell ⟨w.heap.size + 1, 1, none⟩ v1).setCell ⟨w.heap.size + 1, 2, none⟩ v2).setCell ⟨w.heap.size + 1, 3, none⟩ v3).setCell ⟨w.heap.size + 1, 4, none⟩ v4).drew.cell? ⟨w.heap.size, 3, none⟩ = some (.int .i64 c.width)) := Lib.hid fun v0 v1 v2 v3 v4 => by
    have B := ((((B1.set_far (a := ⟨w.heap.size + 1, 0, none⟩) hne v0).set_far (a := ⟨w.heap.size + 1, 1, none⟩) hne v1).set_far (a := ⟨w.heap.size + 1, 2, none⟩) hne v2).set_far (a := ⟨w.heap.size + 1, 3, none⟩) hne v3).set_far (a := ⟨w.heap.size + 1, 4, none⟩) hne v4
    exact ⟨B.drew.cell 0, B.drew.cell 1, B.drew.cell 2, B.drew.cell 3⟩
  have r0 : W.cell? ⟨w.heap.size + 1, 0, none⟩ = some (.int .i64 0) := B2.cell 0
  have r1 : W.cell? ⟨w.heap.size + 1, 1, none⟩ = some (.int .i64 0) := B2.cell 1
  have r2 : W.cell? ⟨w.heap.size + 1, 2, none⟩ = some (.int .i64 0) := B2.cell 2
  have r3 : W.cell? ⟨w.heap.size + 1, 3, none⟩ = some (.int .i64 0) := B2.cell 3
  have r4 : W.cell? ⟨w.heap.size + 1, 4, none⟩ = some (.int .u64 0) := B2.cell 4
  have f0 := B2.frozen 0
  have f1 := B2.frozen 1
  have f2 := B2.frozen 2
  have f3 := B2.frozen 3
  have f4 := B2.frozen 4
  have rl := B2.lt
  have hS : W.drew.cell? ⟨w.heap.size, 0, none⟩ = some (.int .i64 c.shards) ∧ W.drew.cell? ⟨w.heap.size, 1, none⟩ = some (.int .i64 c.slots) ∧ W.drew.cell? ⟨w.heap.size, 2, none⟩ = some (.int .i64 c.workers) ∧ W.drew.cell? ⟨w.heap.size, 3, none⟩ = some (.int .i64 c.width) := ⟨x0, x1, x2, x3⟩
  clear B1 B2 hb1 hne x0 x1 x2 x3
  go_upto_if 11 with fail
  go_cut [3] from 12 to 15 (fun s3 wx => s3 = .int .u64 U ∧ wx = W)
  case first =>
    by_cases h3 : c.unit % 4 = 3
    · have h3b : (c.unit % 4 == 3) = true := by simpa using h3
      have hu2 := HU.out
      rw [if_pos h3] at hu2
      have HU2 := Lib.hid hu2
      clear h3 hu2
      go_wp2
      go_meet
      exact ⟨by rw [HU2.out], rfl⟩
    · have h3b : (c.unit % 4 == 3) = false := by simpa using h3
      have hu2 := HU.out
      rw [if_neg h3] at hu2
      have HU2 := Lib.hid hu2
      clear h3 hu2
      go_wp2
      go_meet
      exact ⟨by rw [HU2.out], rfl⟩
  case rest =>
    obtain ⟨rfl, rfl⟩ := hcut
    go_upto_region 4 with fail
    go_region_held3 (fun w' => w'.cell? ⟨w.heap.size, 0, none⟩ = some (.int .i64 c.shards) ∧ w'.cell? ⟨w.heap.size, 1, none⟩ = some (.int .i64 c.slots) ∧ w'.cell? ⟨w.heap.size, 2, none⟩ = some (.int .i64 c.workers) ∧ w'.cell? ⟨w.heap.size, 3, none⟩ = some (.int .i64 c.width)) (first | with_reducible exact hS | exact HK.out _ _ _ _ _)
      (first
        | (go_at_call 20; with_reducible refine (C0 _).mono ?_; rintro e w1 ⟨rfl, rfl⟩)
        | (go_at_call 20; with_reducible refine (C1 _).mono ?_; rintro e w1 ⟨rfl, rfl⟩)
        | (go_at_call 20; with_reducible refine (C2 _).mono ?_; rintro e w1 ⟨rfl, rfl⟩)
        | (go_at_call 20; with_reducible refine (C3 _).mono ?_; rintro e w1 ⟨rfl, rfl⟩))
    go_wp2
    refine bodyPost_ret (v := .agg #[.int .i64 (1 + modZ c.shards 4), .int .i64 (1 + modZ c.slots 4), .int .i64 (1 + modZ c.workers 6), .int .i64 (modZ c.width 12), .int .u64 U]) (by simp [results, Tryz.results10, go_sem, r0, r1, r2, r3, r4, rl]) rfl ⟨rfl, ?_⟩
    have hz : w.heap.size ≤ w.heap.size + 1 := Nat.le_succ _
    exact (((((HB.out.setCell (p := ⟨w.heap.size + 1, 0, none⟩) hz _).setCell (p := ⟨w.heap.size + 1, 1, none⟩) hz _).setCell (p := ⟨w.heap.size + 1, 2, none⟩) hz _).setCell (p := ⟨w.heap.size + 1, 3, none⟩) hz _).setCell (p := ⟨w.heap.size + 1, 4, none⟩) hz _).drew
end Go.Proofs.YtdjooacjjnjfmaaGreat
end
