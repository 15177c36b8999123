/- Merged: ConfP RoomL Made0 Mod19 ModelRoom. -/
import Derived.Test.YtfgfjnlkgadkhaaMod18
import Derived.Test.YtfgfjnlkgadkhaaPlayMod
import Derived.Test.YtfgfjnlkgadkhaaRmd1
import Derived.Test.YtfgfjnlkgadkhaaFlatI
import Derived.Deep.CutRange
import Derived.Deep.CutBlock
-- weighbridgeplay.Config: a config that is right, of any one.
section
namespace Go.Proofs.Ytfgfjnlkgadkhaa
set_option linter.unusedVariables false
set_option linter.unusedSimpArgs false
set_option maxRecDepth 20000
open Go.RowKit Go.Proofs.YtfgfjnlkgadkhaaMem Go.Proofs.YtfgfjnlkgadkhaaMapK

def confU (u : Int) : Int := if u % 4 = 3 then 1 + u % 4611686018427387904 else 1 + u % 5000
def confP (c : Cfg) : Cfg := ⟨1 + modZ c.shards 4, 1 + modZ c.slots 4, 1 + modZ c.workers 6, modZ c.width 12, confU c.unit⟩
theorem confU_bd {u : Int} (h : W64 u) : 1 ≤ confU u ∧ confU u ≤ 4611686018427387904 := by
  unfold confU W64 at *
  split <;> omega
theorem confP_right (c : Cfg) (h : W64 c.unit) : (confP c).right = true := by
  have h1 := modZ_bd c.shards (n := 4) (by omega)
  have h2 := modZ_bd c.slots (n := 4) (by omega)
  have h3 := modZ_bd c.workers (n := 6) (by omega)
  have h4 := modZ_bd c.width (n := 12) (by omega)
  have h5 := confU_bd h
  unfold Cfg.right inB confP
  simp only [Bool.and_eq_true, decide_eq_true_eq]
  omega
theorem confP_ok (c : Cfg) (h : W64 c.unit) : (confP c).Ok := by
  have h1 := modZ_bd c.shards (n := 4) (by omega)
  have h5 := confU_bd h
  exact ⟨by show W64 (confU c.unit); unfold W64; omega, by show 1 + modZ c.shards 4 ≠ 0; omega⟩
set_option maxHeartbeats 4000000 in
theorem config_any (c : Cfg) (hu : W64 c.unit) (w : World) :
    Calls Try.prog 6 #[.agg #[.int .i64 c.shards, .int .i64 c.slots, .int .i64 c.workers, .int .i64 c.width, .int .u64 c.unit]] w fun e w' => e = .returned (.agg #[.int .i64 (confP c).shards, .int .i64 (confP c).slots, .int .i64 (confP c).workers, .int .i64 (confP c).width, .int .u64 (confP c).unit]) ∧ Below w.heap.size w w' := by
  have C0 := mod_any c.shards 4 (by omega) (by omega)
  have C1 := mod_any c.slots 4 (by omega) (by omega)
  have C2 := mod_any c.workers 6 (by omega) (by omega)
  have C3 := mod_any c.width 12 (by omega) (by omega)
  have B0 : Blk (w.alloc (.cells #[.int .i64 c.shards, .int .i64 c.slots, .int .i64 c.workers, .int .i64 c.width, .int .u64 c.unit] 24)) w.heap.size c.cells 24 := Blk.new w c.cells 24
  have hb1 : Below w.heap.size w ((w.alloc (.cells #[.int .i64 c.shards, .int .i64 c.slots, .int .i64 c.workers, .int .i64 c.width, .int .u64 c.unit] 24)).alloc (.cells #[.int .i64 0, .int .i64 0, .int .i64 0, .int .i64 0, .int .u64 0] 24)) := ((Below.refl _ _).alloc (Nat.le_refl _) _).alloc (by simp) _
  have B1 := B0.alloc (.cells #[.int .i64 0, .int .i64 0, .int .i64 0, .int .i64 0, .int .u64 0] 24)
  have B2 := Blk.new (w.alloc (.cells #[.int .i64 c.shards, .int .i64 c.slots, .int .i64 c.workers, .int .i64 c.width, .int .u64 c.unit] 24)) [.int .i64 0, .int .i64 0, .int .i64 0, .int .i64 0, .int .u64 0] 24
  have e1 : (w.alloc (.cells #[.int .i64 c.shards, .int .i64 c.slots, .int .i64 c.workers, .int .i64 c.width, .int .u64 c.unit] 24)).heap.size = w.heap.size + 1 := by simp
  rw [e1] at B2
  clear B0 e1
  have hP : confP c = ⟨1 + modZ c.shards 4, 1 + modZ c.slots 4, 1 + modZ c.workers 6, modZ c.width 12, confU c.unit⟩ := rfl
  have h1 := modZ_bd c.shards (n := 4) (by omega)
  have h2 := modZ_bd c.slots (n := 4) (by omega)
  have h3 := modZ_bd c.workers (n := 6) (by omega)
  have m1 : Value.int .i64 (IntKind.i64.wrap (1 + modZ c.shards 4)) = .int .i64 (1 + modZ c.shards 4) := by rw [IntWalk.i64_left, IntWalk.wrap64_in _ (by omega)]
  have m2 : Value.int .i64 (IntKind.i64.wrap (1 + modZ c.slots 4)) = .int .i64 (1 + modZ c.slots 4) := by rw [IntWalk.i64_left, IntWalk.wrap64_in _ (by omega)]
  have m3 : Value.int .i64 (IntKind.i64.wrap (1 + modZ c.workers 6)) = .int .i64 (1 + modZ c.workers 6) := by rw [IntWalk.i64_left, IntWalk.wrap64_in _ (by omega)]
  obtain ⟨u1, u2⟩ := hu
  have p0 : 0 ≤ c.unit % 4 := Int.emod_nonneg _ (by omega)
  have p4 : c.unit % 4 < 4 := Int.emod_lt_of_pos _ (by omega)
  have p1 : Value.int .u64 (IntKind.u64.wrap (1 + c.unit % 5000)) = .int .u64 (1 + c.unit % 5000) := by rw [IntKind.wrap_u64]; congr 1; omega
  have p2 : Value.int .u64 (IntKind.u64.wrap (1 + c.unit % 4611686018427387904)) = .int .u64 (1 + c.unit % 4611686018427387904) := by rw [IntKind.wrap_u64]; congr 1; omega
  rw [hP]
  have hU : confU c.unit = if c.unit % 4 = 3 then 1 + c.unit % 4611686018427387904 else 1 + c.unit % 5000 := rfl
  have HU := Lib.hid hU
  clear hP hU h1 h2 h3
  generalize confU c.unit = U at *
  go_enter Try.func6, Try.ntmps6
  go_upto_region 1 with fail
  generalize ((w.alloc (.cells #[.int .i64 c.shards, .int .i64 c.slots, .int .i64 c.workers, .int .i64 c.width, .int .u64 c.unit] 24)).alloc (.cells #[.int .i64 0, .int .i64 0, .int .i64 0, .int .i64 0, .int .u64 0] 24)) = W at *
  have x0 : W.cell? ⟨w.heap.size, 0, none⟩ = some (.int .i64 c.shards) := B1.cell 0
  have x1 : W.cell? ⟨w.heap.size, 1, none⟩ = some (.int .i64 c.slots) := B1.cell 1
  have x2 : W.cell? ⟨w.heap.size, 2, none⟩ = some (.int .i64 c.workers) := B1.cell 2
  have x3 : W.cell? ⟨w.heap.size, 3, none⟩ = some (.int .i64 c.width) := B1.cell 3
  have x4 : W.cell? ⟨w.heap.size, 4, none⟩ = some (.int .u64 c.unit) := B1.cell 4
  have xl := B1.lt
  have HB1 := Lib.hid B1
  have HB := Lib.hid hb1
  have hne : w.heap.size ≠ w.heap.size + 1 := by omega
  have HK : Hid (∀ v0 v1 v2 v3 v4, (((((W.setCell ⟨w.heap.size + 1, 0, none⟩ v0).setCell ⟨w.heap.size + 1, 1, none⟩ v1).setCell ⟨w.heap.size + 1, 2, none⟩ v2).setCell ⟨w.heap.size + 1, 3, none⟩ v3).setCell ⟨w.heap.size + 1, 4, none⟩ v4).drew.cell? ⟨w.heap.size, 0, none⟩ = some (.int .i64 c.shards) ∧ (((((W.setCell ⟨w.heap.size + 1, 0, none⟩ v0).setCell ⟨w.heap.size + 1, 1, none⟩ v1).setCell ⟨w.heap.size + 1, 2, none⟩ v2).setCell ⟨w.heap.size + 1, 3, none⟩ v3).setCell ⟨w.heap.size + 1, 4, none⟩ v4).drew.cell? ⟨w.heap.size, 1, none⟩ = some (.int .i64 c.slots) ∧ (((((W.setCell ⟨w.heap.size + 1, 0, none⟩ v0).setCell ⟨w.heap.size + 1, 1, none⟩ v1).setCell ⟨w.heap.size + 1, 2, none⟩ v2).setCell ⟨w.heap.size + 1, 3, none⟩ v3).setCell ⟨w.heap.size + 1, 4, none⟩ v4).drew.cell? ⟨w.heap.size, 2, none⟩ = some (.int .i64 c.workers) ∧ (((((W.setCell ⟨w.heap.size + 1, 0, none⟩ v0).setCell ⟨w.heap.size + 1, 1, none⟩ v1).setCell ⟨w.heap.size + 1, 2, none⟩ v2).setCell ⟨w.heap.size + 1, 3, none⟩ v3).setCell ⟨w.heap.size + 1, 4, none⟩ v4).drew.cell? ⟨w.heap.size, 3, none⟩ = some (.int .i64 c.width)) := Lib.hid fun v0 v1 v2 v3 v4 => by
    have B := ((((B1.set_far (a := ⟨w.heap.size + 1, 0, none⟩) hne v0).set_far (a := ⟨w.heap.size + 1, 1, none⟩) hne v1).set_far (a := ⟨w.heap.size + 1, 2, none⟩) hne v2).set_far (a := ⟨w.heap.size + 1, 3, none⟩) hne v3).set_far (a := ⟨w.heap.size + 1, 4, none⟩) hne v4
    exact ⟨B.drew.cell 0, B.drew.cell 1, B.drew.cell 2, B.drew.cell 3⟩
  have r0 : W.cell? ⟨w.heap.size + 1, 0, none⟩ = some (.int .i64 0) := B2.cell 0
  have r1 : W.cell? ⟨w.heap.size + 1, 1, none⟩ = some (.int .i64 0) := B2.cell 1
  have r2 : W.cell? ⟨w.heap.size + 1, 2, none⟩ = some (.int .i64 0) := B2.cell 2
  have r3 : W.cell? ⟨w.heap.size + 1, 3, none⟩ = some (.int .i64 0) := B2.cell 3
  have r4 : W.cell? ⟨w.heap.size + 1, 4, none⟩ = some (.int .u64 0) := B2.cell 4
  have f0 := B2.frozen 0
  have f1 := B2.frozen 1
  have f2 := B2.frozen 2
  have f3 := B2.frozen 3
  have f4 := B2.frozen 4
  have rl := B2.lt
  have hS : W.drew.cell? ⟨w.heap.size, 0, none⟩ = some (.int .i64 c.shards) ∧ W.drew.cell? ⟨w.heap.size, 1, none⟩ = some (.int .i64 c.slots) ∧ W.drew.cell? ⟨w.heap.size, 2, none⟩ = some (.int .i64 c.workers) ∧ W.drew.cell? ⟨w.heap.size, 3, none⟩ = some (.int .i64 c.width) := ⟨x0, x1, x2, x3⟩
  clear B1 B2 hb1 hne x0 x1 x2 x3
  go_upto_if 11 with fail
  go_cut [3] from 12 to 15 (fun s3 wx => s3 = .int .u64 U ∧ wx = W)
  case first =>
    by_cases h3 : c.unit % 4 = 3
    · have h3b : (c.unit % 4 == 3) = true := by simpa using h3
      have hu2 := HU.out
      rw [if_pos h3] at hu2
      have HU2 := Lib.hid hu2
      clear h3 hu2
      go_wp2
      go_meet
      exact ⟨by rw [HU2.out], rfl⟩
    · have h3b : (c.unit % 4 == 3) = false := by simpa using h3
      have hu2 := HU.out
      rw [if_neg h3] at hu2
      have HU2 := Lib.hid hu2
      clear h3 hu2
      go_wp2
      go_meet
      exact ⟨by rw [HU2.out], rfl⟩
  case rest =>
    obtain ⟨rfl, rfl⟩ := hcut
    go_upto_region 4 with fail
    go_region_held3 (fun w' => w'.cell? ⟨w.heap.size, 0, none⟩ = some (.int .i64 c.shards) ∧ w'.cell? ⟨w.heap.size, 1, none⟩ = some (.int .i64 c.slots) ∧ w'.cell? ⟨w.heap.size, 2, none⟩ = some (.int .i64 c.workers) ∧ w'.cell? ⟨w.heap.size, 3, none⟩ = some (.int .i64 c.width)) (first | with_reducible exact hS | exact HK.out _ _ _ _ _)
      (first
        | (go_at_call 8; with_reducible refine (C0 _).mono ?_; rintro e w1 ⟨rfl, rfl⟩)
        | (go_at_call 8; with_reducible refine (C1 _).mono ?_; rintro e w1 ⟨rfl, rfl⟩)
        | (go_at_call 8; with_reducible refine (C2 _).mono ?_; rintro e w1 ⟨rfl, rfl⟩)
        | (go_at_call 8; with_reducible refine (C3 _).mono ?_; rintro e w1 ⟨rfl, rfl⟩))
    go_wp2
    refine bodyPost_ret (v := .agg #[.int .i64 (1 + modZ c.shards 4), .int .i64 (1 + modZ c.slots 4), .int .i64 (1 + modZ c.workers 6), .int .i64 (modZ c.width 12), .int .u64 U]) (by simp [results, Try.results6, go_sem, r0, r1, r2, r3, r4, rl]) rfl ⟨rfl, ?_⟩
    have hz : w.heap.size ≤ w.heap.size + 1 := Nat.le_succ _
    exact (((((HB.out.setCell (p := ⟨w.heap.size + 1, 0, none⟩) hz _).setCell (p := ⟨w.heap.size + 1, 1, none⟩) hz _).setCell (p := ⟨w.heap.size + 1, 2, none⟩) hz _).setCell (p := ⟨w.heap.size + 1, 3, none⟩) hz _).setCell (p := ⟨w.heap.size + 1, 4, none⟩) hz _).drew
end Go.Proofs.Ytfgfjnlkgadkhaa
end

-- ModelRoom's plain law: flows of one shard.
section
namespace Go.Proofs.Ytfgfjnlkgadkhaa
set_option linter.unusedVariables false
set_option linter.unusedSimpArgs false
set_option maxRecDepth 20000
open Go.RowKit Go.Proofs.YtfgfjnlkgadkhaaMem Go.Proofs.YtfgfjnlkgadkhaaMapK

/-- The model in which just these flows are, each without packets. -/
def rm (r : Int) (l : List Int) : MdS := ⟨⟨0, 0, l.map fun id => (id, FlS.new r 1)⟩, 0⟩
theorem rm_get (r : Int) (l : List Int) (id : Int) : getF (rm r l).s.fs id = if id ∈ l then some (FlS.new r 1) else none := by
  unfold rm getF
  simp only
  induction l with
  | nil => rfl
  | cons a l ih =>
    rw [List.map_cons, List.find?_cons]
    by_cases h : a = id
    · subst h; simp
    · have h2 : ¬ id = a := fun e => h e.symm
      simp only [h, decide_false, List.mem_cons, h2, false_or]
      exact ih
def cntL (l : List Int) (k id : Int) : Nat := (l.filter fun e => decide (e.tmod k = id.tmod k)).length
theorem rm_mates (r : Int) (l : List Int) (k id : Int) : (rm r l).s.mates k id = cntL l k id := by
  unfold SfS.mates rm cntL
  simp only
  rw [List.filter_map, List.length_map]
  rfl
theorem rm_len (r : Int) (l : List Int) (id : Int) : (rm r l).s.len id = if id ∈ l then 0 else -1 := by
  unfold SfS.len
  rw [rm_get]
  by_cases h : id ∈ l
  · rw [if_pos h, if_pos h]; rfl
  · rw [if_neg h, if_neg h]
section
variable {c : Cfg} {l : List Int} {id : Int}
theorem rm_regE (hc : 1 ≤ c.unit ∧ c.unit ≤ 4611686018427387904) (hi : 0 ≤ id ∧ id ≤ 1048576) : (rm (invR c.unit 1) l).s.regE c ⟨1, id, 1, 1⟩ = if id ∈ l then 6 else if c.slots ≤ cntL l c.shards id then 7 else 0 := by
  have h1 : inB id 0 1048576 = true := by unfold inB; simp; omega
  have h2 : invB c.unit 1 = true := by unfold invB; simp; omega
  have h3 : inB 1 1 8 = true := by decide
  unfold SfS.regE
  simp only [h1, h2, h3]
  rw [rm_get, rm_mates]
  by_cases h : id ∈ l
  · simp [h]
  · simp [h]
theorem rm_reg (hc : 1 ≤ c.unit ∧ c.unit ≤ 4611686018427387904) (hi : 0 ≤ id ∧ id ≤ 1048576) (hn : id ∉ l) (hs : (cntL l c.shards id : Int) < c.slots) : (rm (invR c.unit 1) l).doo c ⟨1, id, 1, 1⟩ = (rm (invR c.unit 1) (l ++ [id]), .code 0) := by
  have hE : (rm (invR c.unit 1) l).s.regE c ⟨1, id, 1, 1⟩ = 0 := by rw [rm_regE hc hi, if_neg hn, if_neg (by omega)]
  unfold MdS.doo
  simp only [if_true]
  rw [hE]
  unfold SfS.reg
  rw [if_pos hE]
  have h2 : (rm (invR c.unit 1) l).s.add id (invR c.unit 1) 1 = (rm (invR c.unit 1) (l ++ [id])).s := by
    unfold SfS.add
    rw [rm_get, if_neg hn]
    unfold rm
    simp
  show (MdS.mk ((rm (invR c.unit 1) l).s.add id (invR c.unit 1) 1) 0, _) = _
  rw [h2]
  rfl
theorem rm_again (hc : 1 ≤ c.unit ∧ c.unit ≤ 4611686018427387904) (hi : 0 ≤ id ∧ id ≤ 1048576) (hn : id ∈ l) : (rm (invR c.unit 1) l).doo c ⟨1, id, 1, 1⟩ = (rm (invR c.unit 1) l, .code 6) := by
  have hE : (rm (invR c.unit 1) l).s.regE c ⟨1, id, 1, 1⟩ = 6 := by rw [rm_regE hc hi, if_pos hn]
  unfold MdS.doo
  simp only [if_true]
  rw [hE]
  unfold SfS.reg
  rw [hE]
  rfl
theorem rm_room (hc : 1 ≤ c.unit ∧ c.unit ≤ 4611686018427387904) (hi : 0 ≤ id ∧ id ≤ 1048576) (hn : id ∉ l) (hs : c.slots ≤ cntL l c.shards id) : (rm (invR c.unit 1) l).doo c ⟨1, id, 1, 1⟩ = (rm (invR c.unit 1) l, .code 7) := by
  have hE : (rm (invR c.unit 1) l).s.regE c ⟨1, id, 1, 1⟩ = 7 := by rw [rm_regE hc hi, if_neg hn, if_pos hs]
  unfold MdS.doo
  simp only [if_true]
  rw [hE]
  unfold SfS.reg
  rw [hE]
  rfl
theorem rm_shut (r : Int) (hn : id ∈ l) : (rm r l).doo c ⟨2, id, 0, 0⟩ = (rm r (l.filter fun x => decide (x ≠ id)), .code 0) := by
  have hg := rm_get r l id
  rw [if_pos hn] at hg
  have hE : (rm r l).s.removeE id = 0 := by unfold SfS.removeE; rw [hg]; rfl
  have hR : (rm r l).s.remove id = (rm r (l.filter fun x => decide (x ≠ id))).s := by
    unfold SfS.remove
    rw [hg]
    unfold rm
    simp only
    rw [if_pos (show (FlS.new r 1).l = [] from rfl), List.filter_map]
    rfl
  unfold MdS.doo
  rw [if_neg (show ¬ (2 : Int) = 1 by decide), if_pos (show (2 : Int) = 2 from rfl)]
  show (MdS.mk ((rm r l).s.remove id) 0, RetS.code ((rm r l).s.removeE id)) = _
  rw [hE, hR]
  rfl
theorem rm_ok {r : Int} (hr : W64 r) (hi : ∀ x ∈ l, I64 x) (hl : l.length ≤ 1000000) : BatOk (rm r l) 0 := by
  refine ⟨⟨by show W64 0; unfold W64; omega, by show W64 0; unfold W64; omega, fun e he => ?_, fun e he => ?_⟩, fun e he => ?_, ?_, ?_⟩
  · obtain ⟨x, hx, rfl⟩ := List.mem_map.1 (show e ∈ l.map fun id => (id, FlS.new r 1) from he)
    exact hi x hx
  · obtain ⟨x, hx, rfl⟩ := List.mem_map.1 (show e ∈ l.map fun id => (id, FlS.new r 1) from he)
    exact FlS.new_ok hr
  · obtain ⟨x, hx, rfl⟩ := List.mem_map.1 (show e ∈ l.map fun id => (id, FlS.new r 1) from he)
    intro p hp
    cases hp
  · show (l.map _).length ≤ _
    rw [List.length_map]; exact hl
  · show (0 : Int) ≤ 0 ∧ (0 : Int) ≤ _
    omega
end
/-- The first n flows of a shard. -/
def shL (sh K : Int) (n : Nat) : List Int := (List.range n).map fun j : Nat => sh + (j : Int) * K
theorem shL_succ (sh K : Int) (n : Nat) : shL sh K (n + 1) = shL sh K n ++ [sh + n * K] := by
  unfold shL
  rw [List.range_succ, List.map_append]
  rfl
theorem shL_mem {sh K : Int} {n : Nat} {x : Int} : x ∈ shL sh K n ↔ ∃ j : Nat, j < n ∧ x = sh + j * K := by
  unfold shL
  simp only [List.mem_map, List.mem_range]
  constructor
  · rintro ⟨j, h, e⟩; exact ⟨j, h, e.symm⟩
  · rintro ⟨j, h, e⟩; exact ⟨j, h, e.symm⟩
theorem mulK {j : Nat} {K : Int} (h : 1 ≤ K ∧ K ≤ 4) : 0 ≤ (j : Int) * K ∧ (j : Int) * K ≤ 4 * j ∧ (j : Int) ≤ j * K := by
  have : K = 1 ∨ K = 2 ∨ K = 3 ∨ K = 4 := by omega
  rcases this with rfl | rfl | rfl | rfl <;> omega
theorem sh_tmod {sh K : Int} (hs : 0 ≤ sh ∧ sh < K) (hK : 1 ≤ K ∧ K ≤ 4) (j : Nat) : (sh + j * K).tmod K = sh := by
  have h := mulK (j := j) hK
  rw [Int.tmod_eq_emod_of_nonneg (by omega), Int.add_mul_emod_self_right, Int.emod_eq_of_lt hs.1 hs.2]
theorem shL_not {sh K : Int} (hK : 1 ≤ K ∧ K ≤ 4) {n m : Nat} (h : n ≤ m) : sh + m * K ∉ shL sh K n := by
  rw [shL_mem]
  rintro ⟨j, hj, e⟩
  have h1 : (m : Int) * K = j * K := by omega
  have h2 : (m : Int) = j := Int.eq_of_mul_eq_mul_right (by omega) h1
  omega
theorem shL_cnt {sh K : Int} (hs : 0 ≤ sh ∧ sh < K) (hK : 1 ≤ K ∧ K ≤ 4) (n m : Nat) : cntL (shL sh K n) K (sh + m * K) = n := by
  unfold cntL
  rw [List.filter_eq_self.2]
  · unfold shL; simp
  · intro x hx
    obtain ⟨j, hj, rfl⟩ := shL_mem.1 hx
    rw [sh_tmod hs hK, sh_tmod hs hK]
    simp
theorem shL_i64 {sh K : Int} (hs : 0 ≤ sh ∧ sh < K) (hK : 1 ≤ K ∧ K ≤ 4) {n : Nat} (hn : n ≤ 1000) : ∀ x ∈ shL sh K n, I64 x := by
  intro x hx
  obtain ⟨j, hj, rfl⟩ := shL_mem.1 hx
  have := mulK (j := j) hK
  unfold I64
  omega
theorem shL_len (sh K : Int) (n : Nat) : (shL sh K n).length = n := by unfold shL; simp
/-- One flow of another shard plays no part. -/
theorem cnt_more {sh K o : Int} (hs : 0 ≤ sh ∧ sh < K) (hK : 1 ≤ K ∧ K ≤ 4) (ho : 0 ≤ o ∧ o < K ∧ o ≠ sh) (n m : Nat) : o ∉ shL sh K n ∧ cntL (shL sh K n) K o = 0 ∧ cntL (shL sh K n ++ [o]) K (sh + m * K) = n := by
  have hot : o.tmod K = o := by rw [Int.tmod_eq_emod_of_nonneg ho.1, Int.emod_eq_of_lt ho.1 ho.2.1]
  have h2 : cntL (shL sh K n) K o = 0 := by
    unfold cntL
    rw [List.length_eq_zero_iff, List.filter_eq_nil_iff]
    intro x hx
    obtain ⟨j, hj, rfl⟩ := shL_mem.1 hx
    rw [sh_tmod hs hK, hot]
    simp
    omega
  refine ⟨fun hm => ?_, h2, ?_⟩
  · have : o ∈ (shL sh K n).filter fun e => decide (e.tmod K = o.tmod K) := List.mem_filter.2 ⟨hm, by simp⟩
    have h3 := List.length_pos_of_mem this
    unfold cntL at h2
    omega
  · have h1 := shL_cnt hs hK n m
    unfold cntL at h1 ⊢
    rw [List.filter_append, List.length_append, h1]
    have : List.filter (fun e => decide (e.tmod K = (sh + m * K).tmod K)) [o] = [] := by
      rw [List.filter_eq_nil_iff]
      intro x hx
      simp only [List.mem_singleton] at hx
      subst hx
      rw [sh_tmod hs hK, hot]
      simp
      exact ho.2.2
    rw [this]
    rfl
/-- One that is closed makes room. -/
theorem cnt_less {sh K : Int} (hs : 0 ≤ sh ∧ sh < K) (hK : 1 ≤ K ∧ K ≤ 4) {l : List Int} (hm : sh ∈ l) (m : Nat) : cntL (l.filter fun x => decide (x ≠ sh)) K (sh + m * K) < cntL l K (sh + m * K) := by
  unfold cntL
  rw [List.filter_filter]
  have h1 : l.filter (fun a => decide (a.tmod K = (sh + m * K).tmod K) && decide (a ≠ sh)) = (l.filter fun a => decide (a.tmod K = (sh + m * K).tmod K)).filter fun a => decide (a ≠ sh) := by
    rw [List.filter_filter]
    refine List.filter_congr fun x _ => ?_
    rw [Bool.and_comm]
  rw [h1]
  have h2 : sh ∈ l.filter fun a => decide (a.tmod K = (sh + m * K).tmod K) := by
    refine List.mem_filter.2 ⟨hm, ?_⟩
    have h3 := sh_tmod hs hK 0
    rw [sh_tmod hs hK]
    simp at h3 ⊢
    exact h3
  exact List.length_filter_lt_length_iff_exists.2 ⟨sh, h2, by simp⟩
end Go.Proofs.Ytfgfjnlkgadkhaa
end

-- law11's made: a model and the reference's, of a config that is right, without flows.
section
namespace Go.Proofs.Ytfgfjnlkgadkhaa
set_option linter.unusedVariables false
set_option linter.unusedSimpArgs false
set_option maxRecDepth 20000
open Go.RowKit Go.Proofs.YtfgfjnlkgadkhaaMem Go.Proofs.YtfgfjnlkgadkhaaMapK

/-- A model and the reference's, apart, all made since the world w, of which nothing has turned. -/
def TwoM (w wx : World) (b x : Nat) (c : Cfg) (m y : MdS) : Prop :=
  ∃ F G : Nat → Prop, MdAt wx b c m.s m.served F ∧ RmAt wx x c y.s y.served G ∧ (∀ k, F k → ¬ G k) ∧ (∀ k, F k → w.heap.size ≤ k) ∧ (∀ k, G k → w.heap.size ≤ k) ∧ Below w.heap.size w wx
section
variable {w wx wy : World} {b x : Nat} {c : Cfg} {m y : MdS}
theorem TwoM.bel (h : TwoM w wx b x c m y) : Below w.heap.size w wx := let ⟨_, _, _, _, _, _, _, h⟩ := h; h
theorem TwoM.below (h : TwoM w wx b x c m y) (hb : Below wx.heap.size wx wy) : TwoM w wy b x c m y :=
  let ⟨F, G, h1, h2, h3, h4, h5, h6⟩ := h; ⟨F, G, h1.below hb, h2.below hb, h3, h4, h5, h6.trans (hb.mono h6.size)⟩
theorem TwoM.own (h : TwoM w wx b x c m y) : OwnM w wx b c m := let ⟨F, G, h1, h2, h3, h4, h5, h6⟩ := h; ⟨F, h1, h4, h6⟩
end
/-- Behind the config that was made right: the box holds it. -/
structure CfgIn (w W : World) (c : Cfg) : Prop where
  bel : Below w.heap.size w W
  box : Blk W w.heap.size c.cells 24
theorem CfgIn.below {w W W' : World} {c : Cfg} (h : CfgIn w W c) (hb : Below W.heap.size W W') : CfgIn w W' c := ⟨h.bel.trans (hb.mono h.bel.size), h.box.below hb⟩
theorem CfgIn.set {w W : World} {c : Cfg} (h : CfgIn w W c) (c' : Cfg) : CfgIn w (((((W.setCell ⟨w.heap.size, 0, none⟩ (.int .i64 c'.shards)).setCell ⟨w.heap.size, 1, none⟩ (.int .i64 c'.slots)).setCell ⟨w.heap.size, 2, none⟩ (.int .i64 c'.workers)).setCell ⟨w.heap.size, 3, none⟩ (.int .i64 c'.width)).setCell ⟨w.heap.size, 4, none⟩ (.int .u64 c'.unit)) c' := by
  have hz : w.heap.size ≤ w.heap.size := Nat.le_refl _
  exact ⟨((((h.bel.setCell (p := ⟨w.heap.size, 0, none⟩) hz _).setCell (p := ⟨w.heap.size, 1, none⟩) hz _).setCell (p := ⟨w.heap.size, 2, none⟩) hz _).setCell (p := ⟨w.heap.size, 3, none⟩) hz _).setCell (p := ⟨w.heap.size, 4, none⟩) hz _,
    ((((h.box.set 0 (.int .i64 c'.shards)).set 1 (.int .i64 c'.slots)).set 2 (.int .i64 c'.workers)).set 3 (.int .i64 c'.width)).set 4 (.int .u64 c'.unit)⟩
theorem CfgIn.cells {w W : World} {c : Cfg} (h : CfgIn w W c) : W.cell? ⟨w.heap.size, 0, none⟩ = some (.int .i64 c.shards) ∧ W.cell? ⟨w.heap.size, 1, none⟩ = some (.int .i64 c.slots) ∧ W.cell? ⟨w.heap.size, 2, none⟩ = some (.int .i64 c.workers) ∧ W.cell? ⟨w.heap.size, 3, none⟩ = some (.int .i64 c.width) ∧ W.cell? ⟨w.heap.size, 4, none⟩ = some (.int .u64 c.unit) ∧ w.heap.size < W.heap.size :=
  ⟨h.box.cell 0, h.box.cell 1, h.box.cell 2, h.box.cell 3, h.box.cell 4, h.box.lt⟩
theorem CfgIn.frozen {w W : World} {c : Cfg} (h : CfgIn w W c) : W.frozen? ⟨w.heap.size, 0, none⟩ = false ∧ W.frozen? ⟨w.heap.size, 1, none⟩ = false ∧ W.frozen? ⟨w.heap.size, 2, none⟩ = false ∧ W.frozen? ⟨w.heap.size, 3, none⟩ = false ∧ W.frozen? ⟨w.heap.size, 4, none⟩ = false :=
  ⟨h.box.frozen 0, h.box.frozen 1, h.box.frozen 2, h.box.frozen 3, h.box.frozen 4⟩
theorem CfgIn.start (w : World) (c : Cfg) : CfgIn w (w.alloc (.cells #[.int .i64 c.shards, .int .i64 c.slots, .int .i64 c.workers, .int .i64 c.width, .int .u64 c.unit] 24)) c := ⟨below1 _ _, Blk.new w c.cells 24⟩
set_option maxHeartbeats 4000000 in
theorem made0_any (c : Cfg) (hu : W64 c.unit) (w : World) :
    Calls Try.prog 5 #[.agg #[.int .i64 c.shards, .int .i64 c.slots, .int .i64 c.workers, .int .i64 c.width, .int .u64 c.unit], .bool false] w fun e w' => ∃ b x, e = .returned (.tuple #[.pointer (some ⟨b, 0, none⟩), .pointer (some ⟨x, 0, none⟩)]) ∧ TwoM w w' b x (confP c) .new .new := by
  have I := CfgIn.start w c
  have C0 := config_any c hu
  have hR := confP_right c hu
  go_enter Try.func5, Try.ntmps5
  go_upto_region 1 with fail
  generalize (w.alloc (.cells #[.int .i64 c.shards, .int .i64 c.slots, .int .i64 c.workers, .int .i64 c.width, .int .u64 c.unit] 24)) = W at *
  obtain ⟨x0, x1, x2, x3, x4, xl⟩ := I.cells
  have HI := Lib.hid I
  clear I
  go_wp2_with fail
  refine (C0 _).mono ?_
  rintro e W1 ⟨rfl, hb1⟩
  replace HI : Hid (CfgIn w W1 c) := Lib.hid (HI.out.below hb1)
  clear hb1 x0 x1 x2 x3 x4 xl C0
  obtain ⟨x0, x1, x2, x3, x4, xl⟩ := HI.out.cells
  obtain ⟨f0, f1, f2, f3, f4⟩ := HI.out.frozen
  replace HI := Lib.hid (HI.out.set (confP c))
  generalize hcc : confP c = c' at *
  replace hcc := Lib.hid hcc
  have N0 := new11_any c'
  unfold NewPost at N0
  rw [hR] at N0
  go_upto_region 2 with fail
  generalize (((((W1.setCell ⟨w.heap.size, 0, none⟩ (.int .i64 c'.shards)).setCell ⟨w.heap.size, 1, none⟩ (.int .i64 c'.slots)).setCell ⟨w.heap.size, 2, none⟩ (.int .i64 c'.workers)).setCell ⟨w.heap.size, 3, none⟩ (.int .i64 c'.width)).setCell ⟨w.heap.size, 4, none⟩ (.int .u64 c'.unit)) = W2 at *
  clear x0 x1 x2 x3 x4 xl f0 f1 f2 f3 f4
  obtain ⟨x0, x1, x2, x3, x4, xl⟩ := HI.out.cells
  go_wp2_with fail
  refine (N0 _).mono ?_
  rintro e W3 ⟨b, rfl, md, hb3⟩
  replace HI : Hid (CfgIn w W3 c') := Lib.hid (HI.out.below hb3)
  have HMD := Lib.hid md
  have hz2 : w.heap.size ≤ W2.heap.size := Nat.le_of_lt xl
  clear hb3 x0 x1 x2 x3 x4 xl N0 md
  obtain ⟨x0, x1, x2, x3, x4, xl⟩ := HI.out.cells
  go_wp2_with fail
  refine (newModel_any c' _).mono ?_
  rintro e W4 ⟨x, rfl, rm, hb4⟩
  have hT : TwoM w W4 b x c' .new .new := ⟨_, _, HMD.out.below hb4, rm, fun k hk hk2 => by omega, fun k hk => by omega, fun k hk => by omega, HI.out.bel.trans (hb4.mono (Nat.le_of_lt xl))⟩
  have HT := Lib.hid hT
  clear hT rm hb4 x0 x1 x2 x3 x4 xl
  go_wp2
  go_ret2
  rw [hcc.out]
  exact ⟨b, x, rfl, HT.out⟩
end Go.Proofs.Ytfgfjnlkgadkhaa
end

-- What a program that does nothing does not answer: the model.
section
namespace Go.Proofs.Ytfgfjnlkgadkhaa
set_option linter.unusedVariables false
set_option linter.unusedSimpArgs false
set_option maxRecDepth 20000
open Go.RowKit Go.Proofs.YtfgfjnlkgadkhaaMem Go.Proofs.YtfgfjnlkgadkhaaMapK

def awC : Cfg := ⟨2, 1, 1, 0, 100⟩
def awD : Nat → CallS
  | 0 => ⟨1, 1, 1, 2⟩
  | 1 => ⟨3, 1, 5, 9⟩
  | 2 => ⟨4, 0, 0, 0⟩
  | 3 => ⟨4, 0, 0, 0⟩
  | _ => ⟨7, 0, 0, 0⟩
def awM : Nat → MdS
  | 0 => .new
  | k + 1 => ((awM k).doo awC (awD k)).1
def awR (k : Nat) : RetS := ((awM k).doo awC (awD k)).2
theorem aw11_d (k : Nat) : (awD k).Ok := by
  unfold awD
  split <;> exact ⟨by decide, by decide, by decide, by decide⟩
theorem awC_ok : awC.Ok := ⟨by show W64 100; unfold W64; omega, by decide⟩
theorem awM_good : ∀ k, (awM k).Good k
  | 0 => .new
  | k + 1 => (awM_good k).doo awC_ok.unit (aw11_d k)
theorem aw11_r : awC.right = true ∧ (awR 0).e = 0 ∧ (awR 1).e = 0 ∧ (awR 2).ps = [⟨1, 5, 9⟩] ∧ (awR 3).e = 10 ∧ (awR 4).e = 2 ∧ (awM 5).s.v = 500 ∧ (awM 5).served = 1 := by decide
theorem doAw {w wx : World} {b : Nat} (k : Nat) (hk : k ≤ 5) (h : OwnM w wx b awC (awM k)) :
    Calls Try.prog 9 #[.pointer (some ⟨b, 0, none⟩), .agg #[.int .i64 (awD k).op, .int .i64 (awD k).flow, .int .i64 (awD k).a, .int .i64 (awD k).b]] wx fun e w' => GotR (awR k) e w' ∧ OwnM w w' b awC (awM (k + 1)) :=
  doO h ((awM_good k).bat (by omega)) awC_ok (awD k) (aw11_d k)
theorem retFld (v0 v1 v2 v3 : Value) (w : World) : (Instr.field 37 (.agg #[v0, v1, v2, v3]) 0).run Try.prog w = .ok v0 w := rfl
set_option maxHeartbeats 2000000 in
theorem awake11_any (w : World) : Calls Try.prog 7 #[] w fun e w' => e = .returned (.bool true) ∧ Below w.heap.size w w' := by
  obtain ⟨a0, a1, a2, a3, a4, a5, a6, a7⟩ := aw11_r
  have N0 := new11_any awC w
  have FL := retFld
  unfold NewPost at N0
  rw [a0] at N0
  go_enter Try.func7, Try.ntmps7
  go_wp2_with fail
  refine N0.mono ?_
  rintro e w1 ⟨b, rfl, md, hb1⟩
  have O0 : OwnM w w1 b awC (awM 0) := ⟨_, md, fun k hk => hk.1, hb1⟩
  clear md hb1 N0
  go_wp2_with fail
  refine (doAw 0 (by omega) O0).mono ?_
  rintro e w2 ⟨⟨ao, cap, rfl, rd⟩, O1⟩
  rw [a1]
  clear rd O0
  go_wp2_with fail
  refine (doAw 1 (by omega) O1).mono ?_
  rintro e w3 ⟨⟨ao, cap, rfl, rd⟩, O2⟩
  rw [a2]
  clear rd O1
  go_wp2_with fail
  refine (doAw 2 (by omega) O2).mono ?_
  rintro e w4 ⟨⟨ao, cap, rfl, rd⟩, O3⟩
  rw [a3] at rd ⊢
  clear O2
  have hlen : ([⟨1, 5, 9⟩] : List Pk).length = 1 := rfl
  rw [hlen] at rd ⊢
  have hbx := below1 w4 (.cells #[.int .i64 (awR 2).e, .slice ao 1 cap, .int .i64 (awR 2).n, .int .u64 (awR 2).v] 37)
  have Bx := Blk.new w4 [.int .i64 (awR 2).e, .slice ao 1 cap, .int .i64 (awR 2).n, .int .u64 (awR 2).v] 37
  have rd2 := rd.below hbx
  have O4 := O3.below hbx
  obtain ⟨g, off, rfl, hgl, c0⟩ := rd2.at_ 0 _ rfl
  obtain ⟨g', off', e1, -, c1⟩ := rd2.at_ 1 _ rfl
  cases e1
  obtain ⟨g', off', e1, -, c2⟩ := rd2.at_ 2 _ rfl
  cases e1
  rw [Nat.add_zero] at c0
  have x1 := Bx.cell 1
  have xl := Bx.lt
  have hcap := rd.le
  simp only [List.getElem?_cons_succ, List.getElem?_cons_zero] at x1
  clear rd rd2 O3 Bx hbx hlen a0 a1 a2
  go_upto_region 5 with fail
  generalize w4.alloc (.cells #[.int .i64 (awR 2).e, .slice (some ⟨g, off, none⟩) 1 cap, .int .i64 (awR 2).n, .int .u64 (awR 2).v] 37) = w5 at *
  go_wp2_with fail
  refine (doAw 3 (by omega) O4).mono ?_
  rintro e w6 ⟨⟨ao, cap, rfl, rd⟩, O5⟩
  rw [a4]
  clear rd O4
  go_wp2_with fail
  refine (doAw 4 (by omega) O5).mono ?_
  rintro e w7 ⟨⟨ao, cap, rfl, rd⟩, O6⟩
  rw [a5]
  clear rd O5
  go_wp2_with fail
  refine (vM O6).mono ?_
  rw [a6]
  rintro e w8 ⟨rfl, rfl⟩
  go_wp2_with fail
  refine (servedM O6).mono ?_
  rw [a7]
  rintro e w8 ⟨rfl, rfl⟩
  go_wp2
  go_ret
  exact ⟨rfl, O6.bel⟩
end Go.Proofs.Ytfgfjnlkgadkhaa
end

-- ModelRoom.
section
namespace Go.Proofs.Ytfgfjnlkgadkhaa
set_option linter.unusedVariables false
set_option linter.unusedSimpArgs false
set_option maxRecDepth 20000
open Go.RowKit Go.Proofs.YtfgfjnlkgadkhaaMem Go.Proofs.YtfgfjnlkgadkhaaFlat Go.Proofs.YtfgfjnlkgadkhaaMapK

theorem cfg_of {cs : List Value} (h : FlatOk [.int .i64, .int .i64, .int .i64, .int .i64, .int .u64] cs) : ∃ c : Cfg, cs = c.cells ∧ W64 c.unit := by
  obtain ⟨_, _, rfl, ⟨a, rfl, ha⟩, _, _, rfl, ⟨b, rfl, hb⟩, _, _, rfl, ⟨c, rfl, hc⟩, _, _, rfl, ⟨d, rfl, hd⟩, _, _, rfl, ⟨e, rfl, he⟩, rfl⟩ := h
  refine ⟨⟨a, b, c, d, e⟩, rfl, ?_⟩
  simp only [Lit.wf, Bool.and_eq_true, decide_eq_true_eq, IntKind.min, IntKind.max] at he
  simp [IntKind.signed, IntKind.bits] at he
  show W64 e
  unfold W64
  omega
/-- Under way: the model, the config's box, the call's variable. -/
structure RoomSt (w wx : World) (b R : Nat) (c : Cfg) (m : MdS) (d : CallS) : Prop where
  md : ∃ F : Nat → Prop, MdAt wx b c m.s m.served F ∧ ∀ k, F k → w.heap.size < k ∧ k ≠ R
  bel : Below w.heap.size w wx
  box : Blk wx w.heap.size c.cells 24
  reg : Blk wx R d.cells 33
  hR : w.heap.size < R
section
variable {w wx wy : World} {b R : Nat} {c : Cfg} {m : MdS} {d : CallS}
theorem RoomSt.below (h : RoomSt w wx b R c m d) (hb : Below wx.heap.size wx wy) : RoomSt w wy b R c m d :=
  let ⟨F, h1, h2⟩ := h.md; ⟨⟨F, h1.below hb, h2⟩, h.bel.trans (hb.mono h.bel.size), h.box.below hb, h.reg.below hb, h.hR⟩
theorem RoomSt.set (h : RoomSt w wx b R c m d) (f : Int) : RoomSt w (wx.setCell ⟨R, 1, none⟩ (.int .i64 f)) b R c m ⟨d.op, f, d.a, d.b⟩ := by
  obtain ⟨F, h1, h2⟩ := h.md
  have hR := h.hR
  have f1 : Fr (fun k => k = R) wx (wx.setCell ⟨R, 1, none⟩ (.int .i64 f)) := Fr.setCell (S := fun k => k = R) (Fr.refl _ _) (a := ⟨R, 1, none⟩) (.inl rfl) _
  exact ⟨⟨F, h1.fr f1 fun k hk e => (h2 k hk).2 e, h2⟩, h.bel.setCell (p := ⟨R, 1, none⟩) (Nat.le_of_lt hR) _, h.box.fr f1 (by omega), h.reg.set 1 _, hR⟩
theorem RoomSt.cells (h : RoomSt w wx b R c m d) : wx.cell? ⟨w.heap.size, 0, none⟩ = some (.int .i64 c.shards) ∧ wx.cell? ⟨w.heap.size, 1, none⟩ = some (.int .i64 c.slots) ∧ w.heap.size < wx.heap.size ∧
    wx.cell? ⟨R, 0, none⟩ = some (.int .i64 d.op) ∧ wx.cell? ⟨R, 1, none⟩ = some (.int .i64 d.flow) ∧ wx.cell? ⟨R, 2, none⟩ = some (.int .i64 d.a) ∧ wx.cell? ⟨R, 3, none⟩ = some (.int .i64 d.b) ∧ wx.frozen? ⟨R, 1, none⟩ = false ∧ R < wx.heap.size :=
  ⟨h.box.cell 0, h.box.cell 1, h.box.lt, h.reg.cell 0, h.reg.cell 1, h.reg.cell 2, h.reg.cell 3, h.reg.frozen 1, h.reg.lt⟩
theorem RoomSt.doo (h : RoomSt w wx b R c m d) (ok : BatOk m 0) (hc : c.Ok) (d' : CallS) (hd : d'.Ok) {m' : MdS} {k : Int} (hm : m.doo c d' = (m', .code k)) :
    Calls Try.prog 9 #[.pointer (some ⟨b, 0, none⟩), .agg #[.int .i64 d'.op, .int .i64 d'.flow, .int .i64 d'.a, .int .i64 d'.b]] wx fun e w' => (∃ ao cap, e = .returned (.agg #[.int .i64 k, .slice ao 0 cap, .int .i64 0, .int .u64 0])) ∧ RoomSt w w' b R c m' d := by
  obtain ⟨F, h1, h2⟩ := h.md
  refine (do_any b c m F d' wx h1 ok hd hc.unit hc.shards).mono fun e w' hh => ?_
  rw [hm] at hh
  obtain ⟨ao, cap, G, rfl, row, h3, md, hG, f⟩ := hh
  have hz := h.bel.size
  have hR := h.hR
  have hl := h.reg.lt
  refine ⟨⟨ao, cap, rfl⟩, ⟨G, md, fun k hk => ?_⟩, h.bel.trans (f.below (fun k hk => Nat.le_of_lt (h2 k hk).1) hz), h.box.fr f fun hk => by have := (h2 _ hk).1; omega, h.reg.fr f fun hk => (h2 _ hk).2 rfl, hR⟩
  rcases hG k hk with hk | hk
  · exact h2 k hk
  · exact ⟨by omega, by omega⟩
theorem RoomSt.len (h : RoomSt w wx b R c m d) (id : Int) : Calls Try.prog 10 #[.pointer (some ⟨b, 0, none⟩), .int .i64 id] wx fun e w' => e = .returned (.int .i64 (m.s.len id)) ∧ wx = w' := by
  obtain ⟨F, h1, h2⟩ := h.md
  exact mdLen_any b c m.s m.served F id wx h1
end
theorem wr64 {x : Int} (h : I64 x) : Value.int .i64 (IntKind.i64.wrap x) = .int .i64 x := by
  unfold I64 at h
  rw [IntWalk.i64_left, IntWalk.wrap64_in _ (by omega)]
theorem callOk {op f : Int} (h : op = 1 ∨ op = 2) (hf : I64 f) {a : Int} (ha : a = 0 ∨ a = 1) : (CallS.mk op f a a).Ok :=
  ⟨by show I64 op; unfold I64; omega, hf, by show I64 a; unfold I64; omega, by show I64 a; unfold I64; omega⟩
set_option maxHeartbeats 4000000 in
theorem room_in (c : Cfg) (hu : W64 c.unit) (shard more : Int) (w : World) :
    Calls Try.prog 3 #[.agg #[.int .i64 c.shards, .int .i64 c.slots, .int .i64 c.workers, .int .i64 c.width, .int .u64 c.unit], .int .i64 shard, .int .i64 more] w fun e w' => e = .returned (.bool true) ∧ Below w.heap.size w w' := by
  have I := CfgIn.start w c
  have M0 := made0_any c hu
  have C0 := config_any c hu
  have hok := confP_ok c hu
  have hun : 1 ≤ (confP c).unit ∧ (confP c).unit ≤ 4611686018427387904 := confU_bd hu
  have hK : 1 ≤ (confP c).shards ∧ (confP c).shards ≤ 4 := by have := modZ_bd c.shards (n := 4) (by omega); show 1 ≤ 1 + modZ c.shards 4 ∧ 1 + modZ c.shards 4 ≤ 4; omega
  have hS : 1 ≤ (confP c).slots ∧ (confP c).slots ≤ 4 := by have := modZ_bd c.slots (n := 4) (by omega); show 1 ≤ 1 + modZ c.slots 4 ∧ 1 + modZ c.slots 4 ≤ 4; omega
  go_enter Try.func3, Try.ntmps3
  go_upto_region 1 with fail
  have hz1 : (w.alloc (.cells #[.int .i64 c.shards, .int .i64 c.slots, .int .i64 c.workers, .int .i64 c.width, .int .u64 c.unit] 24)).heap.size = w.heap.size + 1 := by simp
  generalize (w.alloc (.cells #[.int .i64 c.shards, .int .i64 c.slots, .int .i64 c.workers, .int .i64 c.width, .int .u64 c.unit] 24)) = W at *
  obtain ⟨x0, x1, x2, x3, x4, xl⟩ := I.cells
  have HI := Lib.hid I
  clear I
  go_wp2_with fail
  refine (M0 _).mono ?_
  rintro e W1 ⟨b, x, rfl, hT⟩
  replace HI : Hid (CfgIn w W1 c) := Lib.hid ⟨HI.out.bel.trans (hT.bel.mono HI.out.bel.size), HI.out.box.below hT.bel⟩
  obtain ⟨F, G, md, -, -, hF, -, -⟩ := hT
  have hF2 : ∀ k, F k → w.heap.size < k := fun k hk => by have := hF k hk; omega
  have HMD := Lib.hid md
  clear hF md x0 x1 x2 x3 x4 xl M0 hz1
  obtain ⟨x0, x1, x2, x3, x4, xl⟩ := HI.out.cells
  go_wp2_with fail
  refine (C0 _).mono ?_
  rintro e W2 ⟨rfl, hb2⟩
  replace HI : Hid (CfgIn w W2 c) := Lib.hid (HI.out.below hb2)
  replace HMD : Hid (MdAt W2 b (confP c) SfS.new 0 F) := Lib.hid (HMD.out.below hb2)
  clear hb2 x0 x1 x2 x3 x4 xl C0
  obtain ⟨x0, x1, x2, x3, x4, xl⟩ := HI.out.cells
  obtain ⟨f0, f1, f2, f3, f4⟩ := HI.out.frozen
  replace HI := Lib.hid (HI.out.set (confP c))
  have g0 : Fr (fun k => k = w.heap.size) W2 W2 := Fr.refl _ _
  have g1 := g0.setCell (a := ⟨w.heap.size, 0, none⟩) (.inl rfl) (.int .i64 (confP c).shards)
  have g2 := g1.setCell (a := ⟨w.heap.size, 1, none⟩) (.inl rfl) (.int .i64 (confP c).slots)
  have g3 := g2.setCell (a := ⟨w.heap.size, 2, none⟩) (.inl rfl) (.int .i64 (confP c).workers)
  have g4 := g3.setCell (a := ⟨w.heap.size, 3, none⟩) (.inl rfl) (.int .i64 (confP c).width)
  have g5 := g4.setCell (a := ⟨w.heap.size, 4, none⟩) (.inl rfl) (.int .u64 (confP c).unit)
  replace HMD := Lib.hid (HMD.out.fr g5 fun k hk e => by have := hF2 k hk; omega)
  clear g0 g1 g2 g3 g4 g5
  generalize confP c = c' at *
  go_upto_region 3 with fail
  generalize (((((W2.setCell ⟨w.heap.size, 0, none⟩ (.int .i64 c'.shards)).setCell ⟨w.heap.size, 1, none⟩ (.int .i64 c'.slots)).setCell ⟨w.heap.size, 2, none⟩ (.int .i64 c'.workers)).setCell ⟨w.heap.size, 3, none⟩ (.int .i64 c'.width)).setCell ⟨w.heap.size, 4, none⟩ (.int .u64 c'.unit)) = W3 at *
  clear x0 x1 x2 x3 x4 xl f0 f1 f2 f3 f4
  go_wp2_with fail
  refine (awake11_any _).mono ?_
  rintro e W4 ⟨rfl, hb4⟩
  replace HI : Hid (CfgIn w W4 c') := Lib.hid (HI.out.below hb4)
  replace HMD : Hid (MdAt W4 b c' SfS.new 0 F) := Lib.hid (HMD.out.below hb4)
  clear hb4
  obtain ⟨x0, x1, -, -, -, xl⟩ := HI.out.cells
  obtain ⟨K, hKe⟩ : ∃ K, c'.shards = K := ⟨_, rfl⟩
  obtain ⟨S, hSe⟩ : ∃ S : Nat, c'.slots = (S : Int) := ⟨c'.slots.toNat, by omega⟩
  rw [hKe] at x0 hK
  rw [hSe] at x1 hS
  have HKe := Lib.hid hKe
  have HSe := Lib.hid hSe
  clear hKe hSe
  go_wp2_with fail
  refine (mod_any shard K hK.1 (by omega) _).mono ?_
  rintro e w' ⟨rfl, rfl⟩
  go_wp2_with fail
  refine (mod_any more 1000 (by omega) (by omega) _).mono ?_
  rintro e w' ⟨rfl, rfl⟩
  have hsh := modZ_bd shard hK.1
  have hmo := modZ_bd more (n := 1000) (by omega)
  generalize modZ shard K = sh at *
  generalize modZ more 1000 = mo at *
  have S0 : RoomSt w (W4.alloc (.cells #[.int .i64 1, .int .i64 0, .int .i64 1, .int .i64 1] 33)) b W4.heap.size c' (rm (invR c'.unit 1) (shL sh K 0)) ⟨1, 0, 1, 1⟩ :=
    ⟨⟨F, HMD.out.below (below1 _ _), fun k hk => ⟨hF2 k hk, by have := HMD.out.lt k hk; omega⟩⟩, HI.out.bel.trans ((below1 _ _).mono HI.out.bel.size), HI.out.box.below (below1 _ _), Blk.new W4 _ _, xl⟩
  have HS0 := Lib.hid S0
  have FL := retFld
  clear S0 HMD HI hF2 x0 x1 xl
  have hrw : W64 (invR c'.unit 1) := invR_w64 hok.unit
  generalize hr : invR c'.unit 1 = r at *
  have HR := Lib.hid hr
  clear hr
  go_upto_block 0 with fail
  generalize (W4.alloc (.cells #[.int .i64 1, .int .i64 0, .int .i64 1, .int .i64 1] 33)) = W5 at *
  generalize W4.heap.size = R at *
  go_cut [] from 10 to 56 (fun wx => ∃ f, RoomSt w wx b R c' (rm r (shL sh K S)) ⟨1, f, 1, 1⟩)
  case first =>
    go_wp2_with fail
    go_loopw [10] (fun v10 wr => ∃ k : Nat, k ≤ S ∧ v10 = .int .i64 k ∧ ∃ f, RoomSt w wr b R c' (rm r (shL sh K k)) ⟨1, f, 1, 1⟩) (fun v10 _ => S - (intOf v10).toNat)
    case atStart => exact ⟨0, Nat.zero_le _, rfl, 0, HS0.out⟩
    case round =>
      obtain ⟨k, hk, rfl, f, st⟩ := hrel
      obtain ⟨x0, x1, xl, y0, y1, y2, y3, yf, yl⟩ := st.cells
      rw [HKe.out] at x0
      rw [HSe.out] at x1
      have HST := Lib.hid st
      clear st
      by_cases hl : k < S
      · have i1 : (k : Int) < (S : Int) := by omega
        have hmk := mulK (j := k) hK
        have e1 : Value.int .i64 (IntKind.i64.wrap ((k : Int) * K)) = .int .i64 ((k : Int) * K) := wr64 (by unfold I64; omega)
        have e2 : Value.int .i64 (IntKind.i64.wrap (sh + (k : Int) * K)) = .int .i64 (sh + (k : Int) * K) := wr64 (by unfold I64; omega)
        have hid : 0 ≤ sh + (k : Int) * K ∧ sh + (k : Int) * K ≤ 1048576 := by omega
        have hD : (CallS.mk 1 (sh + (k : Int) * K) 1 1).Ok := callOk (.inl rfl) (by unfold I64; omega) (.inr rfl)
        have D1 : (rm r (shL sh K k)).doo c' ⟨1, sh + (k : Int) * K, 1, 1⟩ = (rm r (shL sh K (k + 1)), .code 0) := by
          rw [shL_succ, ← HR.out]
          exact rm_reg hun hid (shL_not hK (Nat.le_refl _)) (by rw [HKe.out, HSe.out, shL_cnt hsh hK]; omega)
        have D2 : (rm r (shL sh K (k + 1))).doo c' ⟨1, sh + (k : Int) * K, 1, 1⟩ = (rm r (shL sh K (k + 1)), .code 6) := by
          rw [← HR.out]
          exact rm_again hun hid (shL_mem.2 ⟨k, Nat.lt_succ_self _, rfl⟩)
        have B1 := rm_ok (l := shL sh K k) hrw (shL_i64 hsh hK (by omega)) (by rw [shL_len]; omega)
        have B2 := rm_ok (l := shL sh K (k + 1)) hrw (shL_i64 hsh hK (by omega)) (by rw [shL_len]; omega)
        have hne : w.heap.size ≠ R := Nat.ne_of_lt HST.out.hR
        have HST2 := Lib.hid (HST.out.set (sh + (k : Int) * K))
        have HD1 := Lib.hid D1
        have HD2 := Lib.hid D2
        clear D1 D2 hmk
        go_upto_region 11 with fail
        generalize wr.setCell ⟨R, 1, none⟩ (.int .i64 (sh + (k : Int) * K)) = wr2 at *
        clear x0 x1 xl y0 y1 y2 y3 yf yl e1 e2
        obtain ⟨x0, x1, xl, y0, y1, y2, y3, yf, yl⟩ := HST2.out.cells
        simp only at y0 y1 y2 y3
        go_wp2_with fail
        refine (HST2.out.doo B1 hok ⟨1, sh + (k : Int) * K, 1, 1⟩ hD HD1.out).mono ?_
        rintro e w6 ⟨⟨a6, k6, rfl⟩, st6⟩
        clear x0 x1 xl y0 y1 y2 y3 yf yl
        obtain ⟨x0, x1, xl, y0, y1, y2, y3, yf, yl⟩ := st6.cells
        simp only at y0 y1 y2 y3
        have HST6 := Lib.hid st6
        clear st6
        go_wp2_with fail
        refine (HST6.out.doo B2 hok ⟨1, sh + (k : Int) * K, 1, 1⟩ hD HD2.out).mono ?_
        rintro e w7 ⟨⟨a7, k7, rfl⟩, st7⟩
        have HST7 := Lib.hid st7
        clear st7 x0 x1 xl y0 y1 y2 y3 yf yl
        go_wp2
        go_roundw
        case rel => exact ⟨k + 1, by omega, by go_num, _, HST7.out⟩
        case measure => simp [intOf]; omega
      · obtain rfl : k = S := by omega
        have i1 : ¬ (k : Int) < (k : Int) := by omega
        go_wp2
        go_meet
        exact ⟨f, HST.out⟩
  case rest =>
    obtain ⟨f, st⟩ := hcut
    obtain ⟨x0, x1, xl, y0, y1, y2, y3, yf, yl⟩ := st.cells
    rw [HKe.out] at x0
    rw [HSe.out] at x1
    obtain ⟨M, hM⟩ : ∃ M : Nat, (S : Int) + mo = (M : Int) := ⟨S + mo.toNat, by omega⟩
    have hmk := mulK (j := M) hK
    have e0 : Value.int .i64 (IntKind.i64.wrap ((S : Int) + mo)) = .int .i64 (M : Int) := by rw [wr64 (by unfold I64; omega), hM]
    have e1 : Value.int .i64 (IntKind.i64.wrap ((M : Int) * K)) = .int .i64 ((M : Int) * K) := wr64 (by unfold I64; omega)
    have e2 : Value.int .i64 (IntKind.i64.wrap (sh + (M : Int) * K)) = .int .i64 (sh + (M : Int) * K) := wr64 (by unfold I64; omega)
    have hid : 0 ≤ sh + (M : Int) * K ∧ sh + (M : Int) * K ≤ 1048576 := by omega
    have hSM : S ≤ M := by omega
    have hD : (CallS.mk 1 (sh + (M : Int) * K) 1 1).Ok := callOk (.inl rfl) (by unfold I64; omega) (.inr rfl)
    have D1 : (rm r (shL sh K S)).doo c' ⟨1, sh + (M : Int) * K, 1, 1⟩ = (rm r (shL sh K S), .code 7) := by
      rw [← HR.out]
      exact rm_room hun hid (shL_not hK hSM) (by rw [HKe.out, HSe.out, shL_cnt hsh hK]; exact Int.le_refl _)
    have hL1 : (rm r (shL sh K S)).s.len (sh + (M : Int) * K) = -1 := by rw [rm_len, if_neg (shL_not hK hSM)]
    have B1 := rm_ok (l := shL sh K S) hrw (shL_i64 hsh hK (by omega)) (by rw [shL_len]; omega)
    have HST := Lib.hid st
    have HST2 := Lib.hid (st.set (sh + (M : Int) * K))
    have HD1 := Lib.hid D1
    have hMK : Hid (0 ≤ (M : Int) * K) := Lib.hid hmk.1
    clear D1 hmk st
    have hne : w.heap.size ≠ R := Nat.ne_of_lt HST.out.hR
    go_upto_region 14 with fail
    generalize hid2 : sh + (M : Int) * K = idn at *
    have HID := Lib.hid hid2
    clear hid2 e1 e2 e0
    generalize wc.setCell ⟨R, 1, none⟩ (.int .i64 idn) = wr2 at *
    clear x0 x1 xl y0 y1 y2 y3 yf yl
    obtain ⟨x0, x1, xl, y0, y1, y2, y3, yf, yl⟩ := HST2.out.cells
    simp only at y0 y1 y2 y3
    go_wp2_with fail
    refine (HST2.out.doo B1 hok ⟨1, idn, 1, 1⟩ hD HD1.out).mono ?_
    rintro e w6 ⟨⟨a6, k6, rfl⟩, st6⟩
    clear x0 x1 xl y0 y1 y2 y3 yf yl
    obtain ⟨x0, x1, xl, y0, y1, y2, y3, yf, yl⟩ := st6.cells
    simp only at y0 y1 y2 y3
    rw [HKe.out] at x0
    have HST6 := Lib.hid st6
    clear st6
    go_wp2_with fail
    refine (HST6.out.len idn).mono ?_
    rw [hL1]
    rintro e w' ⟨rfl, rfl⟩
    go_upto_if 81 with fail
    go_cut [] from 11 to 92 (fun wx => ∃ o : List Int, (o = [] ∨ ∃ z : Int, o = [z] ∧ 0 ≤ z ∧ z < K ∧ z ≠ sh) ∧ RoomSt w wx b R c' (rm r (shL sh K S ++ o)) ⟨1, idn, 1, 1⟩)
    case first =>
      by_cases hK1 : K > 1
      · have hoz : 0 ≤ (sh + 1).tmod K ∧ (sh + 1).tmod K < K ∧ (sh + 1).tmod K ≠ sh := by
          rw [Int.tmod_eq_emod_of_nonneg (by omega)]
          have h1 := Int.emod_nonneg (sh + 1) (show K ≠ 0 by omega)
          have h2 := Int.emod_lt_of_pos (sh + 1) (show 0 < K by omega)
          refine ⟨h1, h2, fun e => ?_⟩
          by_cases h3 : sh + 1 < K
          · rw [Int.emod_eq_of_lt (by omega) h3] at e; omega
          · have : sh + 1 = K := by omega
            rw [this, Int.emod_self] at e; omega
        have e3 : Value.int .i64 (IntKind.i64.wrap (sh + 1)) = .int .i64 (sh + 1) := wr64 (by unfold I64; omega)
        have k2 : ¬ K = 0 := by omega
        have k0 : (K == 0) = false := by simpa using k2
        generalize hoe : (sh + 1).tmod K = o at *
        have hoe2 : (sh + 1) % K = o := by rw [← hoe, Int.tmod_eq_emod_of_nonneg (by omega)]
        have hoe3 : Value.int .i64 ((sh + 1).tmod K) = .int .i64 o := by rw [hoe]
        have hoe4 : Value.int .i64 ((sh + 1) % K) = .int .i64 o := by rw [hoe2]
        obtain ⟨ho, hoc, hoc2⟩ := cnt_more hsh hK hoz S M
        have hD2 : (CallS.mk 1 o 1 1).Ok := callOk (.inl rfl) (by unfold I64; omega) (.inr rfl)
        have D2 : (rm r (shL sh K S)).doo c' ⟨1, o, 1, 1⟩ = (rm r (shL sh K S ++ [o]), .code 0) := by
          rw [← HR.out]
          exact rm_reg hun (by omega) ho (by rw [HKe.out, HSe.out, hoc]; omega)
        have HD2 := Lib.hid D2
        have HB7 := Lib.hid (HST6.out.below (below1 w6 (.cells #[.int .i64 1, .int .i64 o, .int .i64 1, .int .i64 1] 33)))
        have N7 : Blk (w6.alloc (.cells #[.int .i64 1, .int .i64 o, .int .i64 1, .int .i64 1] 33)) w6.heap.size _ _ := Blk.new w6 [.int .i64 1, .int .i64 o, .int .i64 1, .int .i64 1] 33
        clear D2 hoc hoc2 ho
        have HO := Lib.hid hoz
        clear hoz
        go_upto_region 18 with fail
        generalize w6.alloc (.cells #[.int .i64 1, .int .i64 o, .int .i64 1, .int .i64 1] 33) = w7 at *
        have n0 : w7.cell? ⟨w6.heap.size, 0, none⟩ = some (.int .i64 1) := N7.cell 0
        have n1 : w7.cell? ⟨w6.heap.size, 1, none⟩ = some (.int .i64 o) := N7.cell 1
        have n2 : w7.cell? ⟨w6.heap.size, 2, none⟩ = some (.int .i64 1) := N7.cell 2
        have n3 : w7.cell? ⟨w6.heap.size, 3, none⟩ = some (.int .i64 1) := N7.cell 3
        have nl := N7.lt
        clear x0 x1 xl y0 y1 y2 y3 yf yl N7
        go_wp2_with fail
        refine (HB7.out.doo B1 hok ⟨1, o, 1, 1⟩ hD2 HD2.out).mono ?_
        rintro e w8 ⟨⟨a8, k8, rfl⟩, st8⟩
        have HST8 := Lib.hid st8
        clear st8 n0 n1 n2 n3 nl
        go_wp2
        go_meet
        exact ⟨[o], .inr ⟨o, rfl, HO.out⟩, HST8.out⟩
      · go_wp2
        go_meet
        exact ⟨[], .inl rfl, by rw [List.append_nil]; exact HST6.out⟩
    case rest =>
      obtain ⟨o, ho, st⟩ := hcut
      have hin : sh ∈ shL sh K S ++ o := List.mem_append_left _ (shL_mem.2 ⟨0, by omega, by simp⟩)
      have hcn : cntL (shL sh K S ++ o) K idn = S ∧ idn ∉ shL sh K S ++ o ∧ (∀ x ∈ shL sh K S ++ o, I64 x) ∧ (shL sh K S ++ o).length ≤ S + 1 := by
        rw [← HID.out]
        rcases ho with rfl | ⟨z, rfl, hz⟩
        · rw [List.append_nil]
          exact ⟨shL_cnt hsh hK _ _, shL_not hK hSM, shL_i64 hsh hK (by omega), by rw [shL_len]; omega⟩
        · obtain ⟨h1, h2, h3⟩ := cnt_more hsh hK hz S M
          refine ⟨h3, fun hm => ?_, fun x hx => ?_, by rw [List.length_append, shL_len]; simp⟩
          · rcases List.mem_append.1 hm with hm | hm
            · exact shL_not hK hSM hm
            · simp only [List.mem_singleton] at hm
              have h4 := sh_tmod hsh hK M
              rw [hm, Int.tmod_eq_emod_of_nonneg hz.1, Int.emod_eq_of_lt hz.1 hz.2.1] at h4
              exact hz.2.2 h4
          · rcases List.mem_append.1 hx with hx | hx
            · exact shL_i64 hsh hK (by omega) x hx
            · simp only [List.mem_singleton] at hx
              subst hx
              unfold I64
              omega
      obtain ⟨c1, c2, c3, c4⟩ := hcn
      have hshi : sh ≠ idn := fun e => c2 (by rw [← e]; exact hin)
      generalize shL sh K S ++ o = l at *
      have hless := cnt_less hsh hK hin M
      rw [HID.out, c1] at hless
      have hD1 : (CallS.mk 2 sh 0 0).Ok := callOk (.inr rfl) (by unfold I64; omega) (.inl rfl)
      have B8 := rm_ok (l := l) hrw c3 (by omega)
      have B9 := rm_ok (l := l.filter fun x => decide (x ≠ sh)) hrw (fun x hx => c3 x (List.mem_filter.1 hx).1) (Nat.le_trans (List.length_filter_le _ _) (by omega))
      have D8 := rm_shut r hin (c := c')
      have c5 : idn ∉ l.filter fun x => decide (x ≠ sh) := fun h => c2 (List.mem_filter.1 h).1
      have D9 : (rm r (l.filter fun x => decide (x ≠ sh))).doo c' ⟨1, idn, 1, 1⟩ = (rm r ((l.filter fun x => decide (x ≠ sh)) ++ [idn]), .code 0) := by
        rw [← HR.out]
        exact rm_reg hun hid c5 (by rw [HKe.out, HSe.out]; omega)
      have L1 : (rm r ((l.filter fun x => decide (x ≠ sh)) ++ [idn])).s.len idn = 0 := by rw [rm_len, if_pos (List.mem_append_right _ (List.mem_singleton.2 rfl))]
      have L2 : (rm r ((l.filter fun x => decide (x ≠ sh)) ++ [idn])).s.len sh = -1 := by
        rw [rm_len, if_neg]
        intro h
        rcases List.mem_append.1 h with h | h
        · have := (List.mem_filter.1 h).2; simp at this
        · exact hshi (by simpa using h)
      generalize (l.filter fun x => decide (x ≠ sh)) = l2 at *
      have HD8 := Lib.hid D8
      have HD9 := Lib.hid D9
      have HST := Lib.hid st
      clear D8 D9 st c1 c2 c3 c4 c5 hless hin HST2 HST6 x0 x1 xl y0 y1 y2 y3 yf yl hshi ho
      go_wp2_with fail
      refine (HST.out.doo B8 hok ⟨2, sh, 0, 0⟩ hD1 HD8.out).mono ?_
      rintro e w8 ⟨⟨a8, k8, rfl⟩, st8⟩
      obtain ⟨x0, x1, xl, y0, y1, y2, y3, yf, yl⟩ := st8.cells
      simp only at y0 y1 y2 y3
      have HST8 := Lib.hid st8
      clear st8
      go_wp2_with fail
      refine (HST8.out.doo B9 hok ⟨1, idn, 1, 1⟩ hD HD9.out).mono ?_
      rintro e w9 ⟨⟨a9, k9, rfl⟩, st9⟩
      clear x0 x1 xl y0 y1 y2 y3 yf yl
      obtain ⟨x0, x1, xl, y0, y1, y2, y3, yf, yl⟩ := st9.cells
      simp only at y0 y1 y2 y3
      have HST9 := Lib.hid st9
      clear st9
      go_wp2_with fail
      refine (HST9.out.len idn).mono ?_
      rw [L1]
      rintro e w' ⟨rfl, rfl⟩
      go_wp2_with fail
      refine (HST9.out.len sh).mono ?_
      rw [L2]
      rintro e w' ⟨rfl, rfl⟩
      go_wp2
      go_ret
      exact ⟨rfl, HST9.out.bel⟩
theorem ModelRoom_any (w : World) (c : List Value) (w0 : FlatOk [.int .i64, .int .i64, .int .i64, .int .i64, .int .u64] c) (shard : Int) (w1 : (Lit.int .i64 shard).wf = true) (more : Int) (w2 : (Lit.int .i64 more).wf = true) :
    Calls Try.prog 3 #[.agg c.toArray, .int .i64 shard, .int .i64 more] w fun e w' => e = .returned (.bool true) ∧ Below w.heap.size w w' := by
  obtain ⟨d, rfl, hu⟩ := cfg_of w0
  exact room_in d hu shard more w
end Go.Proofs.Ytfgfjnlkgadkhaa
end
