/- Several texts in one: MapP Mod1 Mod2 Mod4 Mod5 Mod6 MdP Mod7 Mod8 Mod9 Mod10 Mod11. -/
import Derived.Test.YtdjooacjjnjfmaaGreatGa
import Derived.Test.YtdjooacjjnjfmaaGreatGd
import Derived.Test.YtdjooacjjnjfmaaGreatGg
import Derived.Test.YtdjooacjjnjfmaaGreatGe
import Derived.BigQuiet
import Derived.Deep.QuietTactic
-- A map, its pairs in whatever order. Over any program.
section
namespace Go.Proofs.YtdjooacjjnjfmaaGreatMapK
set_option linter.unusedVariables false
set_option linter.unusedSimpArgs false
set_option linter.unusedSectionVars false
open Go
section
variable {κ : Type} [DecidableEq κ] {P : Program} {t kt et : TypeId} {kv : κ → Value} {w : World} {b : Nat} {m : List (κ × Value)}
def IsMapP (w : World) (b : Nat) (kv : κ → Value) (m : List (κ × Value)) : Prop := ∃ L, List.Perm L m ∧ IsMapAt w b kv L
theorem IsMapP.of (h : IsMapAt w b kv m) : IsMapP w b kv m := ⟨m, .refl _, h⟩
theorem IsMapP.perm {m2 : List (κ × Value)} (h : IsMapP w b kv m) (hp : List.Perm m m2) : IsMapP w b kv m2 := let ⟨L, h1, h2⟩ := h; ⟨L, h1.trans hp, h2⟩
theorem IsMapP.lt (h : IsMapP w b kv m) : b < w.heap.size := let ⟨L, h1, h2⟩ := h; h2.lt
theorem IsMapP.of_eq {w' : World} (h : IsMapP w b kv m) (e : w'.heap[b]? = w.heap[b]?) : IsMapP w' b kv m := let ⟨L, h1, h2⟩ := h; ⟨L, h1, h2.of_eq e⟩
theorem IsMapAt.keys (h : IsMapAt w b kv m) : (m.map (·.1)).Nodup := let ⟨_, _, h⟩ := h; h.keys
theorem IsMapP.keys (h : IsMapP w b kv m) : (m.map (·.1)).Nodup := let ⟨L, h1, h2⟩ := h; (h1.map (·.1)).nodup_iff.1 h2.keys
theorem getM_mem {k : κ} {v : Value} (h : getM m k = some v) : (k, v) ∈ m := by
  unfold getM at h
  obtain ⟨p, hp, rfl⟩ := Option.map_eq_some_iff.1 h
  have h1 := List.mem_of_find?_eq_some hp
  have h2 := List.find?_some hp
  have h3 : p.1 = k := by simpa using h2
  rw [← h3]
  exact h1
theorem getM_of {k : κ} {v : Value} : ∀ {m : List (κ × Value)}, (m.map (·.1)).Nodup → (k, v) ∈ m → getM m k = some v
  | [], _, h => by cases h
  | p :: m, hn, h => by
    rw [List.map_cons, List.nodup_cons] at hn
    rcases List.mem_cons.1 h with h | h
    · subst h; simp [getM]
    · have hne : ¬ p.1 = k := fun e => hn.1 (by rw [e]; exact List.mem_map.2 ⟨_, h, rfl⟩)
      have := getM_of hn.2 h
      simpa [getM, List.find?_cons, hne] using this
theorem getM_perm {L : List (κ × Value)} (hp : List.Perm L m) (hn : (m.map (·.1)).Nodup) (k : κ) : getM L k = getM m k := by
  have hn' : (L.map (·.1)).Nodup := (hp.map (·.1)).nodup_iff.2 hn
  cases hg : getM m k with
  | none => exact getM_none.2 fun p h => getM_none.1 hg p (hp.mem_iff.1 h)
  | some v => exact getM_of hn' (hp.mem_iff.2 (getM_mem hg))
theorem putM_perm {L : List (κ × Value)} (hp : List.Perm L m) (hn : (m.map (·.1)).Nodup) (k : κ) (v : Value) : List.Perm (putM L k v) (putM m k v) := by
  unfold putM
  rw [getM_perm hp hn]
  split
  · exact hp.map _
  · exact hp.append_right _
theorem delM_perm {L : List (κ × Value)} (hp : List.Perm L m) (k : κ) : List.Perm (delM L k) (delM m k) := hp.filter _
theorem run_lookupP (K : KeyT P kt kv) (ht : P.underlying t = some (.map kt et)) {z : Value} (hz : (zeroValue et).run P w = .ok z w) (h : IsMapP w b kv m) (k : κ) :
    (Instr.lookup t (.map (some b)) (kv k) false).run P w = .ok ((getM m k).getD z) w := by
  obtain ⟨L, h1, h2⟩ := id h
  rw [← getM_perm h1 h.keys]
  exact run_lookup K ht hz h2 k
theorem run_updateP (K : KeyT P kt kv) (ht : P.underlying t = some (.map kt et)) (h : IsMapP w b kv m) (k : κ) (v : Value) :
    ∃ w', (Instr.mapUpdate t (.map (some b)) (kv k) v).run P w = .ok () w' ∧ IsMapP w' b kv (putM m k v) ∧ w.grownBy w' (some b) := by
  obtain ⟨L, h1, h2⟩ := id h
  obtain ⟨w', r1, r2, r3⟩ := run_update K ht h2 k v
  exact ⟨w', r1, ⟨_, putM_perm h1 h.keys k v, r2⟩, r3⟩
theorem step_updateP {ops : Array Oper} {o : Oper} {a : Act} {Q : Exit → Act → World → Prop} {C : Act → World → Prop} {Ep : Prop} (hg : o.guard = none) (x y z : Operand) (hop : o.op = Op.mapUpdate t x y z)
    (K : KeyT P kt kv) (ht : P.underlying t = some (.map kt et)) (k : κ) (v : Value) (hm : a.eval x = .map (some b)) (hk : a.eval y = kv k) (hv : a.eval z = v) (h : IsMapP w b kv m)
    (hK : ∀ w', IsMapP w' b kv (putM m k v) → w.grownBy w' (some b) → C (a.put o.dst undef) w') :
    if Region.wanted o (yielded ops a.tmps) = true then Oper.wp P o a w C Q else Ep := by
  rw [if_pos (by simp [Region.wanted, hg])]
  obtain ⟨w', hrun, r1, r2⟩ := run_updateP K ht h k v
  unfold Oper.wp
  simp [execOp, hop, hm, hk, hv, hrun, Result.andThen]
  exact hK w' r1 r2
theorem step_deleteP {ops : Array Oper} {o : Oper} {a : Act} {Q : Exit → Act → World → Prop} {C : Act → World → Prop} {Ep : Prop} (hg : o.guard = none) (x y : Operand) (hop : o.op = Op.call { callee := Callee.builtin Builtin.delete, args := #[x, y], argTypes := #[t, kt] })
    (K : KeyT P kt kv) (ht : P.underlying t = some (.map kt et)) (k : κ) (hm : a.eval x = .map (some b)) (hk : a.eval y = kv k) (h : IsMapP w b kv m)
    (hK : ∀ w', IsMapP w' b kv (delM m k) → w.grownBy w' (some b) → C (a.put o.dst (.tuple #[])) w') :
    if Region.wanted o (yielded ops a.tmps) = true then Oper.wp P o a w C Q else Ep := by
  rw [if_pos (by simp [Region.wanted, hg])]
  obtain ⟨L, h1, h2⟩ := id h
  obtain ⟨w', hrun, r1, r2⟩ := run_delete K ht o.type h2 k
  unfold Oper.wp
  simp [execOp, hop, resolve, invoke, builtin, hm, hk, hrun, Result.andThen]
  exact hK w' ⟨_, delM_perm h1 k, r1⟩ r2
end
end Go.Proofs.YtdjooacjjnjfmaaGreatMapK
end

-- The model: which configs are right; a refusal.
section
namespace Go.Proofs.YtdjooacjjnjfmaaGreat
set_option linter.unusedVariables false
set_option linter.unusedSimpArgs false
set_option maxRecDepth 20000
open Go.RowKit Go.Proofs.YtdjooacjjnjfmaaGreatMem Go.Proofs.YtdjooacjjnjfmaaGreatMapK

def inB (n a c : Int) : Bool := decide (a ≤ n) && decide (n ≤ c)
set_option maxHeartbeats 400000 in
theorem within_any (n a c : Int) (w : World) : Calls Tryz.prog 70 #[.int .i64 n, .int .i64 a, .int .i64 c] w fun e w' => e = .returned (.bool (inB n a c)) ∧ w = w' := by
  unfold inB
  by_cases h : a ≤ n
  · have d1 : decide (a ≤ n) = true := decide_eq_true h
    go_enter Tryz.func70, Tryz.ntmps70
    go_wp2
    go_ret
    exact ⟨by simp [h], rfl⟩
  · have d1 : decide (a ≤ n) = false := decide_eq_false h
    go_enter Tryz.func70, Tryz.ntmps70
    go_wp2
    go_ret
    exact ⟨by simp [h], rfl⟩
set_option maxHeartbeats 400000 in
theorem refused_any (k : Int) (w : World) : Calls Tryz.prog 71 #[.int .i64 k] w fun e w' => e = .returned (.agg #[.int .i64 k, .slice none 0 0, .int .i64 0, .int .u64 0]) ∧ Below w.heap.size w w' := by
  go_enter Tryz.func71, Tryz.ntmps71
  go_wp2
  exact bodyPost_ret (v := .agg #[.int .i64 k, .slice none 0 0, .int .i64 0, .int .u64 0]) (by simp [results, Tryz.results71, go_sem]) rfl ⟨rfl, below1 _ _⟩

structure Cfg where
  shards : Int
  slots : Int
  workers : Int
  width : Int
  unit : Int
def Cfg.cells (c : Cfg) : List Value := [.int .i64 c.shards, .int .i64 c.slots, .int .i64 c.workers, .int .i64 c.width, .int .u64 c.unit]
def Cfg.right (c : Cfg) : Bool := inB c.shards 1 4 && inB c.slots 1 4 && inB c.workers 1 6 && inB c.width 0 40 && decide (1 ≤ c.unit) && decide (c.unit ≤ 4611686018427387904)
set_option maxHeartbeats 2000000 in
theorem right_any (c : Cfg) (w : World) : Calls Tryz.prog 56 #[.agg #[.int .i64 c.shards, .int .i64 c.slots, .int .i64 c.workers, .int .i64 c.width, .int .u64 c.unit]] w fun e w' => e = .returned (.bool c.right) ∧ Below w.heap.size w w' := by
  have W0 := within_any c.shards 1 4
  have W1 := within_any c.slots 1 4
  have W2 := within_any c.workers 1 6
  have W3 := within_any c.width 0 40
  have hb := below1 w (.cells #[.int .i64 c.shards, .int .i64 c.slots, .int .i64 c.workers, .int .i64 c.width, .int .u64 c.unit] 24)
  have B := Blk.new w c.cells 24
  have b0 := B.cell 0
  have b1 := B.cell 1
  have b2 := B.cell 2
  have b3 := B.cell 3
  have b4 := B.cell 4
  unfold Cfg.cells at B b0 b1 b2 b3 b4
  simp only [List.getElem?_cons_succ, List.getElem?_cons_zero] at b0 b1 b2 b3 b4
  have hr : c.right = (inB c.shards 1 4 && inB c.slots 1 4 && inB c.workers 1 6 && inB c.width 0 40 && decide (1 ≤ c.unit) && decide (c.unit ≤ 4611686018427387904)) := rfl
  have HR := Lib.hid hr
  clear hr B
  generalize c.right = R at *
  go_enter Tryz.func56, Tryz.ntmps56
  go_upto_region 1 with fail
  generalize (w.alloc (.cells #[.int .i64 c.shards, .int .i64 c.slots, .int .i64 c.workers, .int .i64 c.width, .int .u64 c.unit] 24)) = W at *
  generalize h0 : inB c.shards 1 4 = x0 at *
  generalize h1 : inB c.slots 1 4 = x1 at *
  generalize h2 : inB c.workers 1 6 = x2 at *
  generalize h3 : inB c.width 0 40 = x3 at *
  generalize h4 : decide (1 ≤ c.unit) = x4 at *
  generalize h5 : decide (c.unit ≤ 4611686018427387904) = x5 at *
  clear h0 h1 h2 h3
  go_wp2_with fail
  refine (W0 _).mono ?_
  rintro e w' ⟨rfl, rfl⟩
  cases x0 with
  | false => go_wp2; go_ret; exact ⟨by rw [HR.out]; rfl, hb⟩
  | true =>
  go_wp2_with fail
  refine (W1 _).mono ?_
  rintro e w' ⟨rfl, rfl⟩
  cases x1 with
  | false => go_wp2; go_ret; exact ⟨by rw [HR.out]; rfl, hb⟩
  | true =>
  go_wp2_with fail
  refine (W2 _).mono ?_
  rintro e w' ⟨rfl, rfl⟩
  cases x2 with
  | false => go_wp2; go_ret; exact ⟨by rw [HR.out]; rfl, hb⟩
  | true =>
  go_wp2_with fail
  refine (W3 _).mono ?_
  rintro e w' ⟨rfl, rfl⟩
  cases x3 with
  | false => go_wp2; go_ret; exact ⟨by rw [HR.out]; rfl, hb⟩
  | true =>
  cases x4 with
  | false => go_wp2; go_ret; exact ⟨by rw [HR.out]; rfl, hb⟩
  | true =>
  cases x5 with
  | false => go_wp2; go_ret; exact ⟨by rw [HR.out]; rfl, hb⟩
  | true => go_wp2; go_ret; exact ⟨by rw [HR.out]; rfl, hb⟩
end Go.Proofs.YtdjooacjjnjfmaaGreat
end

-- The model, as it lies in memory.
section
namespace Go.Proofs.YtdjooacjjnjfmaaGreat
set_option linter.unusedVariables false
set_option linter.unusedSimpArgs false
set_option maxRecDepth 20000
open Go.RowKit Go.Proofs.YtdjooacjjnjfmaaGreatMem Go.Proofs.YtdjooacjjnjfmaaGreatMapK

/-- How many packets each flow has, as the map of the lengths holds it. -/
def lensV (s : SfS) : List (Int × Value) := s.fs.map fun e => (e.1, .int .i64 e.2.l.length)
structure MdR (w : World) (b sb lm : Nat) (c : Cfg) (s : SfS) (served : Int) (Fs F : Nat → Prop) : Prop where
  blk : Blk w b (c.cells ++ [.pointer (some ⟨sb, 0, none⟩), .map (some lm), .int .i64 served]) 109
  sfq : SfsAt w sb s Fs
  lens : IsMapP w lm (Value.int .i64) (lensV s)
  sub : ∀ k, Fs k → F k ∧ k ≠ b ∧ k ≠ lm
  hb : F b
  hl : F lm
  ne : b ≠ lm
  lt : Lt F w
def MdAt (w : World) (b : Nat) (c : Cfg) (s : SfS) (served : Int) (F : Nat → Prop) : Prop := ∃ sb lm Fs, MdR w b sb lm c s served Fs F
section
variable {w w' : World} {b sb lm : Nat} {c : Cfg} {s : SfS} {served : Int} {Fs F S : Nat → Prop}
theorem MdR.fr (h : MdR w b sb lm c s served Fs F) (hf : Fr S w w') (hn : ∀ k, F k → ¬ S k) : MdR w' b sb lm c s served Fs F :=
  ⟨h.blk.fr hf (hn b h.hb), h.sfq.fr hf fun k hk => hn k (h.sub k hk).1, h.lens.of_eq (hf.block lm (h.lt lm h.hl) (hn lm h.hl)), h.sub, h.hb, h.hl, h.ne, h.lt.mono hf.size⟩
theorem MdAt.fr (h : MdAt w b c s served F) (hf : Fr S w w') (hn : ∀ k, F k → ¬ S k) : MdAt w' b c s served F := let ⟨sb, lm, Fs, h⟩ := h; ⟨sb, lm, Fs, h.fr hf hn⟩
theorem MdAt.below (h : MdAt w b c s served F) (hb : Below w.heap.size w w') : MdAt w' b c s served F := h.fr (Fr.of_below (S := fun _ => False) hb) fun _ _ f => f
theorem MdR.cells (h : MdR w b sb lm c s served Fs F) : w.cell? ⟨b, 0, none⟩ = some (.int .i64 c.shards) ∧ w.cell? ⟨b, 1, none⟩ = some (.int .i64 c.slots) ∧ w.cell? ⟨b, 4, none⟩ = some (.int .u64 c.unit) ∧
    w.cell? ⟨b, 5, none⟩ = some (.pointer (some ⟨sb, 0, none⟩)) ∧ w.cell? ⟨b, 6, none⟩ = some (.map (some lm)) ∧ w.cell? ⟨b, 7, none⟩ = some (.int .i64 served) ∧ b < w.heap.size :=
  ⟨h.blk.cell 0, h.blk.cell 1, h.blk.cell 4, h.blk.cell 5, h.blk.cell 6, h.blk.cell 7, h.blk.lt⟩
end

end Go.Proofs.YtdjooacjjnjfmaaGreat
end

-- The model: how many packets a flow has.
section
namespace Go.Proofs.YtdjooacjjnjfmaaGreat
set_option linter.unusedVariables false
set_option linter.unusedSimpArgs false
set_option maxRecDepth 20000
open Go.RowKit Go.Proofs.YtdjooacjjnjfmaaGreatMem Go.Proofs.YtdjooacjjnjfmaaGreatMapK

theorem run_lookup2 {κ : Type} [DecidableEq κ] {P : Program} {t kt et : TypeId} {kv : κ → Value} {w : World} {b : Nat} {m : List (κ × Value)} (K : KeyT P kt kv) (ht : P.underlying t = some (.map kt et)) {z : Value} (hz : (zeroValue et).run P w = .ok z w) (h : IsMapAt w b kv m) (k : κ) :
    (Instr.lookup t (.map (some b)) (kv k) true).run P w = .ok (.tuple #[(getM m k).getD z, .bool (getM m k).isSome]) w := by
  obtain ⟨es, clock, h⟩ := h
  have hf := K.find k es.toList (m.map (·.1)) w h.keyEq
  rcases findP_spec kv k es.toList m 0 h.ents with ⟨h1, h2⟩ | ⟨j, v, h1, h2, h3, h4⟩
  · rw [h1] at hf
    rw [h2]
    simp [Instr.lookup, run_underlying ht, MapKept.run_getObj_map h.heap, K.check, hf, hz, Result.andThen]
  · rw [h1] at hf
    rw [h2]
    simp [Instr.lookup, run_underlying ht, MapKept.run_getObj_map h.heap, K.check, hf, hz, Result.andThen]
theorem run_lookup2P {κ : Type} [DecidableEq κ] {P : Program} {t kt et : TypeId} {kv : κ → Value} {w : World} {b : Nat} {m : List (κ × Value)} (K : KeyT P kt kv) (ht : P.underlying t = some (.map kt et)) {z : Value} (hz : (zeroValue et).run P w = .ok z w) (h : IsMapP w b kv m) (k : κ) :
    (Instr.lookup t (.map (some b)) (kv k) true).run P w = .ok (.tuple #[(getM m k).getD z, .bool (getM m k).isSome]) w := by
  obtain ⟨L, h1, h2⟩ := id h
  rw [← getM_perm h1 h.keys]
  exact run_lookup2 K ht hz h2 k
def SfS.len (s : SfS) (id : Int) : Int := match getF s.fs id with | none => -1 | some x => x.l.length
theorem getM_lens (s : SfS) (id : Int) : getM (lensV s) id = (getF s.fs id).map fun x => .int .i64 x.l.length := by
  unfold lensV getF
  induction s.fs with
  | nil => rfl
  | cons e l ih =>
    rw [List.map_cons, List.find?_cons]
    by_cases h : e.1 = id
    · simp [getM, h]
    · have h2 : ¬ id = e.1 := fun e0 => h e0.symm
      simp [getM, h, h2] at ih ⊢
      exact ih
theorem under_lens : Tryz.prog.underlying 107 = some (.map 3 3) := Tryz.underlying107
theorem zero_int (w : World) : (zeroValue 3).run Tryz.prog w = .ok (.int .i64 0) w := by
  have := Tryz.underlying3
  rfl
end Go.Proofs.YtdjooacjjnjfmaaGreat
end

-- The model: how the map of the lengths follows the flows.
section
namespace Go.Proofs.YtdjooacjjnjfmaaGreat
set_option linter.unusedVariables false
set_option linter.unusedSimpArgs false
set_option maxRecDepth 20000
open Go.RowKit Go.Proofs.YtdjooacjjnjfmaaGreatMem Go.Proofs.YtdjooacjjnjfmaaGreatMapK

def MdPost (b : Nat) (c : Cfg) (s : SfS) (served : Int) (F : Nat → Prop) (w w' : World) : Prop := MdAt w' b c s served (Ext F w w') ∧ Fr F w w'
theorem getM_none_of {s : SfS} {id : Int} (h : getF s.fs id = none) : getM (lensV s) id = none := by rw [getM_lens, h]; rfl
theorem lens_add {s : SfS} {id r m : Int} (h : getF s.fs id = none) : putM (lensV s) id (.int .i64 0) = lensV (s.add id r m) := by
  have h1 : s.add id r m = { s with fs := s.fs ++ [(id, FlS.new r m)] } := by unfold SfS.add; rw [h]; rfl
  rw [h1]
  unfold putM
  rw [getM_none_of h]
  unfold lensV
  rw [List.map_append]
  rfl
theorem lens_remove (s : SfS) (id : Int) : delM (lensV s) id = lensV { s with fs := s.fs.filter fun e => decide (e.1 ≠ id) } := by
  unfold delM lensV
  rw [List.filter_map]
  rfl
theorem lens_set {s : SfS} {id v most : Int} {x y : FlS} (h : getF s.fs id = some x) : putM (lensV s) id (.int .i64 y.l.length) = lensV ⟨v, most, setF s.fs id y⟩ := by
  have h1 : getM (lensV s) id = some (.int .i64 x.l.length) := by rw [getM_lens, h]; rfl
  unfold putM
  rw [h1]
  unfold lensV setF
  rw [if_pos (show (some (Value.int .i64 (x.l.length : Int))).isSome = true from rfl), List.map_map]
  show _ = List.map _ (List.map _ s.fs)
  rw [List.map_map]
  refine List.map_congr_left fun e _ => ?_
  simp only [Function.comp]
  by_cases he : e.1 = id
  · rw [if_pos he, if_pos he]
  · rw [if_neg he, if_neg he]
/-- The lengths are as they were. -/
theorem lens_same {s : SfS} {id v most : Int} {x y : FlS} (hn : (s.fs.map (·.1)).Nodup) (h : getF s.fs id = some x) (hl : y.l.length = x.l.length) : lensV ⟨v, most, setF s.fs id y⟩ = lensV s := by
  unfold lensV setF
  rw [List.map_map]
  refine List.map_congr_left fun e he => ?_
  simp only [Function.comp]
  by_cases h1 : e.1 = id
  · rw [if_pos h1]
    have h2 : getF s.fs id = some e.2 := (getF_iff hn).2 (by rw [← h1]; exact he)
    rw [h] at h2
    cases h2
    rw [h1, hl]
  · rw [if_neg h1]
/-- The flows were turned, then the map of the lengths. -/
theorem md_turn {w w1 w2 : World} {b sb lm : Nat} {c : Cfg} {s s' : SfS} {served : Int} {Fs F : Nat → Prop} (h : MdR w b sb lm c s served Fs F) (p : SfsPost sb s' Fs w w1) (hg : w1.grownBy w2 (some lm)) (hm : IsMapP w2 lm (Value.int .i64) (lensV s')) : MdPost b c s' served F w w2 := by
  have z1 := p.2.size
  have z2 := hg.size
  have hbl := h.blk.lt
  have hll := h.lt lm h.hl
  have hFs : ¬ Fs b := fun hk => (h.sub b hk).2.1 rfl
  have f1 : Fr F w w1 := p.2.mono fun k _ hk => (h.sub k hk).1
  have f2 : Fr F w w2 := f1.grown hg fun k e => by cases e; exact .inl h.hl
  have g2 : Fr (fun k => k = lm) w1 w2 := (Fr.refl _ _).grown hg fun k e => by cases e; exact .inl rfl
  refine ⟨⟨sb, lm, Ext Fs w w1, ⟨(h.blk.fr p.2 hFs).fr g2 h.ne, p.1.fr g2 fun k hk e => ?_, hm, fun k hk => ?_, .inl h.hb, .inl h.hl, h.ne, h.lt.ext f2.size⟩⟩, f2⟩
  · rcases hk with hk | hk
    · exact (h.sub k hk).2.2 e
    · omega
  · rcases hk with hk | hk
    · exact ⟨.inl (h.sub k hk).1, (h.sub k hk).2⟩
    · exact ⟨.inr ⟨hk.1, by omega⟩, by omega, by omega⟩
theorem MdR.map1 {w w1 : World} {b sb lm : Nat} {c : Cfg} {s s' : SfS} {served : Int} {Fs F : Nat → Prop} (h : MdR w b sb lm c s served Fs F) (p : SfsPost sb s' Fs w w1) : IsMapP w1 lm (Value.int .i64) (lensV s) :=
  h.lens.of_eq (p.2.block lm (h.lt lm h.hl) fun hk => (h.sub lm hk).2.2 rfl)
/-- The flows were turned, the lengths are as they were. -/
theorem md_turn0 {w w1 : World} {b sb lm : Nat} {c : Cfg} {s s' : SfS} {served : Int} {Fs F : Nat → Prop} (h : MdR w b sb lm c s served Fs F) (p : SfsPost sb s' Fs w w1) (hl : lensV s' = lensV s) : MdPost b c s' served F w w1 :=
  md_turn h p ⟨rfl, rfl, rfl, Nat.le_refl _, fun _ _ _ => rfl⟩ (by rw [hl]; exact h.map1 p)
end Go.Proofs.YtdjooacjjnjfmaaGreat
end

-- The model: a flow is let go.
section
namespace Go.Proofs.YtdjooacjjnjfmaaGreat
set_option linter.unusedVariables false
set_option linter.unusedSimpArgs false
set_option maxRecDepth 20000
open Go.RowKit Go.Proofs.YtdjooacjjnjfmaaGreatMem Go.Proofs.YtdjooacjjnjfmaaGreatMapK

/-- 'delete(m, k)' at a step of a region that draws its order. -/
theorem step_deleteK {κ : Type} [DecidableEq κ] {P : Program} {t kt et : TypeId} {kv : κ → Value} {w : World} {b : Nat} {m : List (κ × Value)} {ops : Array Oper} {o : Oper} {a : Act} {Q : Exit → Act → World → Prop} {C : Act → World → Prop} {Ep : Prop} (hg : o.guard = none) (x y : Operand) (hop : o.op = Op.call { callee := Callee.builtin Builtin.delete, args := #[x, y], argTypes := #[t, kt] })
    (K : KeyT P kt kv) (ht : P.underlying t = some (.map kt et)) (k : κ) (hm : a.eval x = .map (some b)) (hk : a.eval y = kv k) (h : IsMapAt w b kv m)
    (hK : ∀ w', IsMapAt w' b kv (delM m k) → w.grownBy w' (some b) → C (a.put o.dst (.tuple #[])) w') :
    if Region.wanted o (yielded ops a.tmps) = true then Oper.wp P o a w C Q else Ep := by
  rw [if_pos (by simp [Region.wanted, hg])]
  obtain ⟨w', hrun, r1, r2⟩ := run_delete K ht o.type h k
  unfold Oper.wp
  simp [execOp, hop, resolve, invoke, builtin, hm, hk, hrun, Result.andThen]
  exact hK w' r1 r2

theorem MdAt.mono {w : World} {b : Nat} {c : Cfg} {s : SfS} {served : Int} {F G : Nat → Prop} (h : MdAt w b c s served F) (hF : ∀ k, F k → G k) (hG : Lt G w) : MdAt w b c s served G := by
  obtain ⟨sb, lm, Fs, h⟩ := h
  exact ⟨sb, lm, Fs, h.blk, h.sfq, h.lens, fun k hk => ⟨hF k (h.sub k hk).1, (h.sub k hk).2⟩, hF b h.hb, hF lm h.hl, h.ne, hG⟩
/-- Blocks of the call's own ahead of it, and stores into these behind it. -/
theorem md_end {w W w3 w5 : World} {b : Nat} {c : Cfg} {s : SfS} {served : Int} {F : Nat → Prop} (hF : Lt F w) (hb : Below w.heap.size w W) (p : MdPost b c s served F W w3) (hf : Fr (fun k => w.heap.size ≤ k ∧ k < W.heap.size) w3 w5) : MdPost b c s served F w w5 := by
  have z1 := hb.size
  have z2 := p.2.size
  have z3 := hf.size
  have f3 : Fr F w w3 := Fr.after_below hb p.2
  have f5 : Fr F w w5 := fr_trans f3 (hf.mono fun k _ hk => .inr ⟨hk.1, by omega⟩)
  refine ⟨(p.1.fr hf fun k hk hk2 => ?_).mono (fun k hk => ?_) (hF.ext f5.size), f5⟩
  · rcases hk with hk | hk
    · have := hF k hk; omega
    · omega
  · rcases hk with hk | hk
    · exact .inl hk
    · exact .inr ⟨by omega, by omega⟩

/-- A call's argument, as an array of cells. -/
structure CallS where
  op : Int
  flow : Int
  a : Int
  b : Int
def retE (k : Int) : Value := .agg #[.int .i64 k, .slice none 0 0, .int .i64 0, .int .u64 0]

set_option maxHeartbeats 2000000 in
theorem shut_any (b : Nat) (c : Cfg) (s : SfS) (served : Int) (F : Nat → Prop) (d : CallS) (w : World) (h : MdAt w b c s served F) :
    Calls Tryz.prog 65 #[.pointer (some ⟨b, 0, none⟩), .agg #[.int .i64 d.op, .int .i64 d.flow, .int .i64 d.a, .int .i64 d.b]] w fun e w' => e = .returned (retE (s.removeE d.flow)) ∧ MdPost b c (s.remove d.flow) served F w w' := by
  obtain ⟨sb, lm, Fs, h⟩ := h
  have hb1 : Below w.heap.size w ((w.alloc (.cells #[.int .i64 d.op, .int .i64 d.flow, .int .i64 d.a, .int .i64 d.b] 40)).alloc (.cells #[.int .i64 0, .slice none 0 0, .int .i64 0, .int .u64 0] 38)) := ((Below.refl _ _).alloc (Nat.le_refl _) _).alloc (by simp) _
  have B1 := (Blk.new w [.int .i64 d.op, .int .i64 d.flow, .int .i64 d.a, .int .i64 d.b] 40).alloc (.cells #[.int .i64 0, .slice none 0 0, .int .i64 0, .int .u64 0] 38)
  have B2 := Blk.new (w.alloc (.cells #[.int .i64 d.op, .int .i64 d.flow, .int .i64 d.a, .int .i64 d.b] 40)) [.int .i64 0, .slice none 0 0, .int .i64 0, .int .u64 0] 38
  have hF := h.lt
  go_enter Tryz.func65, Tryz.ntmps65
  go_upto_region 1 with fail
  have h2 := h.fr (Fr.of_below (S := fun _ => False) hb1) fun _ _ f => f
  have hzb : w.heap.size + 1 < ((w.alloc (.cells #[.int .i64 d.op, .int .i64 d.flow, .int .i64 d.a, .int .i64 d.b] 40)).alloc (.cells #[.int .i64 0, .slice none 0 0, .int .i64 0, .int .u64 0] 38)).heap.size := by simp
  have e1 : (w.alloc (.cells #[.int .i64 d.op, .int .i64 d.flow, .int .i64 d.a, .int .i64 d.b] 40)).heap.size = w.heap.size + 1 := by simp
  rw [e1] at B2
  have HB1 := Lib.hid hb1
  have HF := Lib.hid hF
  clear h hb1 hF e1
  generalize ((w.alloc (.cells #[.int .i64 d.op, .int .i64 d.flow, .int .i64 d.a, .int .i64 d.b] 40)).alloc (.cells #[.int .i64 0, .slice none 0 0, .int .i64 0, .int .u64 0] 38)) = W at *
  have h3 : MdR W.drew b sb lm c s served Fs F := h2.fr (Fr.of_below (S := fun _ => False) (Below.refl _ _).drew) fun _ _ f => f
  obtain ⟨q0, q1, q4, q5, q6, q7, hlt⟩ := h3.cells
  have x1 := B1.cell 1
  simp only [List.getElem?_cons_succ, List.getElem?_cons_zero] at x1
  have hS : W.drew.cell? ⟨b, 5, none⟩ = some (.pointer (some ⟨sb, 0, none⟩)) ∧ W.drew.cell? ⟨w.heap.size, 1, none⟩ = some (.int .i64 d.flow) := ⟨q5, x1⟩
  have H3 := Lib.hid h3
  have HNB : Hid (¬ Fs b) := Lib.hid (fun hk => (h3.sub b hk).2.1 rfl)
  have HNZ : Hid (¬ Fs w.heap.size) := Lib.hid (fun hk => by have := HF.out _ (h3.sub _ hk).1; omega)
  have HNR : Hid (¬ Fs (w.heap.size + 1)) := Lib.hid (fun hk => by have := HF.out _ (h3.sub _ hk).1; omega)
  clear h2 h3 q0 q1 q4 q5 q6 q7 x1
  go_region_held3 (fun w' => w'.cell? ⟨b, 5, none⟩ = some (.pointer (some ⟨sb, 0, none⟩)) ∧ w'.cell? ⟨w.heap.size, 1, none⟩ = some (.int .i64 d.flow)) (first | exact hS | exact ⟨(H3.out.blk.fr hp.2 HNB.out).cell 5, (B1.drew.fr hp.2 HNZ.out).cell 1⟩)
    (first | (go_at_call 100; refine (removeS_any sb s Fs d.flow _ H3.out.sfq).mono ?_; rintro e w3 ⟨rfl, hp⟩))
  have R3 := B2.drew.fr hp.2 HNR.out
  have C3 := B1.drew.fr hp.2 HNZ.out
  by_cases hE : s.removeE d.flow = 0
  · have e2 : (s.removeE d.flow != 0) = false := by simp [hE]
    have hrm : s.remove d.flow = { s with fs := s.fs.filter fun e => decide (e.1 ≠ d.flow) } := by
      unfold SfS.removeE at hE
      unfold SfS.remove
      cases hg : getF s.fs d.flow with
      | none => rw [hg] at hE; exact absurd hE (by decide)
      | some x =>
        rw [hg] at hE
        simp only at hE ⊢
        by_cases hl : x.l = []
        · rw [if_pos hl]
        · rw [if_neg hl] at hE; exact absurd hE (by decide)
    have BL3 := H3.out.blk.fr hp.2 HNB.out
    have HM := Lib.hid (H3.out.map1 hp)
    have hllm := HF.out lm H3.out.hl
    have HP := Lib.hid hp
    have hbc := BL3.cell 6
    have hcc := C3.cell 1
    have y0 : w3.cell? ⟨b, 6, none⟩ = some (.map (some lm)) := hbc
    simp only [List.getElem?_cons_succ, List.getElem?_cons_zero] at hcc
    have HBL := Lib.hid BL3
    have HC3 := Lib.hid C3
    have HR3 := Lib.hid R3
    have hnl : lm ≠ b := fun e => H3.out.ne e.symm
    clear hbc BL3 C3 R3 hp B1 B2 hS
    go_upto_region 4 with fail
    refine wp_region_held_drew (S := (fun w' => w'.cell? ⟨b, 6, none⟩ = some (.map (some lm)) ∧ w'.cell? ⟨w.heap.size, 1, none⟩ = some (.int .i64 d.flow))) (by kernel_rfl) ?_ (fun hHeld => ?_)
    · exact ⟨y0, hcc⟩
    refine wpAnyH_take (i := 0) (v := ?_) rfl (by kernel_rfl) (by kernel_rfl) (by kernel_rfl) (fun _ _ _ h => h) (Or.inl ⟨by rfl, ?_⟩) (by assumption) ?_
    rotate_left
    · intro w hSw
      (try dsimp only at hSw)
      first | (go_simp; done) | (go_simp; with_reducible rfl)
    try simp only [List.getElem_toArray, List.getElem_cons_succ, List.getElem_cons_zero, Act.put, List.setIfInBounds_toArray, List.set_cons_zero, List.set_cons_succ]
    refine wpAnyH_take (i := 1) (v := ?_) rfl (by kernel_rfl) (by kernel_rfl) (by kernel_rfl) (fun _ _ _ h => h) (Or.inl ⟨by rfl, ?_⟩) (by assumption) ?_
    rotate_left
    · intro w hSw
      (try dsimp only at hSw)
      first | (go_simp; done) | (go_simp; with_reducible rfl)
    try simp only [List.getElem_toArray, List.getElem_cons_succ, List.getElem_cons_zero, Act.put, List.setIfInBounds_toArray, List.set_cons_zero, List.set_cons_succ]
    refine wpAnyH_take (i := 2) (v := ?_) rfl (by kernel_rfl) (by kernel_rfl) (by kernel_rfl) (fun _ _ _ h => h) (Or.inl ⟨by rfl, ?_⟩) (by assumption) ?_
    rotate_left
    · intro w hSw
      (try dsimp only at hSw)
      first | (go_simp; done) | (go_simp; with_reducible rfl)
    try simp only [List.getElem_toArray, List.getElem_cons_succ, List.getElem_cons_zero, Act.put, List.setIfInBounds_toArray, List.set_cons_zero, List.set_cons_succ]
    refine wpAnyH_take (i := 3) (v := ?_) rfl (by kernel_rfl) (by kernel_rfl) (by kernel_rfl) (fun _ _ _ h => h) (Or.inl ⟨by rfl, ?_⟩) (by assumption) ?_
    rotate_left
    · intro w hSw
      (try dsimp only at hSw)
      first | (go_simp; done) | (go_simp; with_reducible rfl)
    try simp only [List.getElem_toArray, List.getElem_cons_succ, List.getElem_cons_zero, Act.put, List.setIfInBounds_toArray, List.set_cons_zero, List.set_cons_succ]
    refine wpAnyH_take (i := 4) (v := ?_) rfl (by kernel_rfl) (by kernel_rfl) (by kernel_rfl) (fun _ _ _ h => h) (Or.inl ⟨by rfl, ?_⟩) (by assumption) ?_
    rotate_left
    · intro w hSw
      (try dsimp only at hSw)
      first | (go_simp; done) | (go_simp; with_reducible rfl)
    try simp only [List.getElem_toArray, List.getElem_cons_succ, List.getElem_cons_zero, Act.put, List.setIfInBounds_toArray, List.set_cons_zero, List.set_cons_succ]
    refine wpAnyH_take (i := 5) (v := ?_) rfl (by kernel_rfl) (by kernel_rfl) (by kernel_rfl) (fun _ _ _ h => h) (Or.inl ⟨by rfl, ?_⟩) (by assumption) ?_
    rotate_left
    · intro w hSw
      (try dsimp only at hSw)
      first | (go_simp; done) | (go_simp; with_reducible rfl)
    try simp only [List.getElem_toArray, List.getElem_cons_succ, List.getElem_cons_zero, Act.put, List.setIfInBounds_toArray, List.set_cons_zero, List.set_cons_succ]
    refine wpAnyH_ready (rs := [6]) (by kernel_rfl) (by simp) ?_
    refine AllReadyH.cons rfl (fun K hK => ?_) AllReadyH.nil
    (refine step_deleteP rfl _ _ rfl intKey under_lens d.flow rfl rfl (show IsMapP w3.drew lm (Value.int .i64) (lensV s) from HM.out.of_eq rfl) ?_; intro w5 hm5 hg5'; have hg5 : w3.grownBy w5 (some lm) := ⟨hg5'.os, hg5'.tape, hg5'.output, hg5'.size, hg5'.block⟩; have hS5 : w5.cell? ⟨b, 6, none⟩ = some (.map (some lm)) ∧ w5.cell? ⟨w.heap.size, 1, none⟩ = some (.int .i64 d.flow) := ⟨(HBL.out.grown hg5 (by intro e; cases e; exact hnl rfl)).cell 6, (HC3.out.grown hg5 (by intro e; cases e; omega)).cell 1⟩)
    refine hK.out _ _ ?_ (fun hHeld => ?_)
    · exact hS5
    clear hK K
    try simp only [List.getElem_toArray, List.getElem_cons_succ, List.getElem_cons_zero, Act.put, List.setIfInBounds_toArray, List.set_cons_zero, List.set_cons_succ]
    refine wpAnyH_done (by kernel_rfl) ?_ _
    have p5 : MdPost b c (s.remove d.flow) served F W.drew w5 := md_turn H3.out HP.out hg5 (by rw [hrm, ← lens_remove]; exact hm5)
    have HP5 := Lib.hid p5
    have R4 := HR3.out.grown hg5 (by intro e; cases e; omega)
    have r0 := R4.cell 0
    have r1 := R4.cell 1
    have r2 := R4.cell 2
    have r3 := R4.cell 3
    have f0 := R4.frozen 0
    have f1 := R4.frozen 1
    have f2 := R4.frozen 2
    have f3 := R4.frozen 3
    simp only [List.getElem?_cons_succ, List.getElem?_cons_zero] at r0 r1 r2 r3
    have hrl := R4.lt
    clear p5 R4 hg5 hg5' hm5 hS5 y0 hcc
    go_wp2
    have hm : w.heap.size ≤ w.heap.size + 1 ∧ w.heap.size + 1 < W.drew.heap.size := ⟨Nat.le_succ _, hzb⟩
    have g0 : Fr (fun k => w.heap.size ≤ k ∧ k < W.drew.heap.size) w5 w5 := Fr.refl _ _
    have g1 := g0.setCell (a := ⟨w.heap.size + 1, 0, none⟩) (.inl hm) (.int .i64 0)
    have g2 := g1.setCell (a := ⟨w.heap.size + 1, 1, none⟩) (.inl hm) (.slice none 0 0)
    have g3 := g2.setCell (a := ⟨w.heap.size + 1, 2, none⟩) (.inl hm) (.int .i64 0)
    have g4 := g3.setCell (a := ⟨w.heap.size + 1, 3, none⟩) (.inl hm) (.int .u64 0)
    refine bodyPost_ret (v := retE 0) (by simp [retE, results, Tryz.results65, go_sem, r0, r1, r2, r3, hrl]) rfl ⟨by rw [hE], ?_⟩
    exact md_end HF.out HB1.out.drew HP5.out g4
  · have e2 : (s.removeE d.flow != 0) = true := by simpa using hE
    have hrm : s.remove d.flow = s := by
      unfold SfS.removeE at hE
      unfold SfS.remove
      cases hg : getF s.fs d.flow with
      | none => rfl
      | some x =>
        rw [hg] at hE
        simp only at hE ⊢
        by_cases hl : x.l = []
        · rw [if_pos hl] at hE; exact absurd rfl hE
        · rw [if_neg hl]
    have hp0 : MdPost b c s served F W.drew w3 := md_turn0 H3.out (by rw [hrm] at hp; exact hp) rfl
    have HP0 := Lib.hid hp0
    clear hp0 hp
    go_wp2_with fail
    refine (refused_any _ _).mono ?_
    rintro e w4 ⟨rfl, hb4⟩
    have R4 := R3.below hb4
    have r0 := R4.cell 0
    have r1 := R4.cell 1
    have r2 := R4.cell 2
    have r3 := R4.cell 3
    have f0 := R4.frozen 0
    have f1 := R4.frozen 1
    have f2 := R4.frozen 2
    have f3 := R4.frozen 3
    simp only [List.getElem?_cons_succ, List.getElem?_cons_zero] at r0 r1 r2 r3
    have hrl := R4.lt
    have HB4 := Lib.hid hb4
    clear hb4 R4 R3 C3 B1 B2
    go_wp2
    have hm : w.heap.size ≤ w.heap.size + 1 ∧ w.heap.size + 1 < W.drew.heap.size := ⟨Nat.le_succ _, hzb⟩
    have g0 : Fr (fun k => w.heap.size ≤ k ∧ k < W.drew.heap.size) w3 w4 := Fr.of_below HB4.out
    have g1 := g0.setCell (a := ⟨w.heap.size + 1, 0, none⟩) (.inl hm) (.int .i64 (s.removeE d.flow))
    have g2 := g1.setCell (a := ⟨w.heap.size + 1, 1, none⟩) (.inl hm) (.slice none 0 0)
    have g3 := g2.setCell (a := ⟨w.heap.size + 1, 2, none⟩) (.inl hm) (.int .i64 0)
    have g4 := g3.setCell (a := ⟨w.heap.size + 1, 3, none⟩) (.inl hm) (.int .u64 0)
    refine bodyPost_ret (v := retE (s.removeE d.flow)) (by simp [retE, results, Tryz.results65, go_sem, r0, r1, r2, r3, hrl]) rfl ⟨rfl, ?_⟩
    rw [hrm]
    exact md_end HF.out HB1.out.drew HP0.out g4
end Go.Proofs.YtdjooacjjnjfmaaGreat
end

-- The model as plain data: what each call does and tells; the reference's likewise; both stay alike.
section
namespace Go.Proofs.YtdjooacjjnjfmaaGreat
set_option linter.unusedVariables false
set_option linter.unusedSimpArgs false
set_option maxRecDepth 20000
open Go.RowKit Go.Proofs.YtdjooacjjnjfmaaGreatMem Go.Proofs.YtdjooacjjnjfmaaGreatMapK

structure RetS where
  e : Int
  ps : List Pk
  n : Int
  v : Int
def RetS.code (e : Int) : RetS := ⟨e, [], 0, 0⟩
structure MdS where
  s : SfS
  served : Int
def MdS.new : MdS := ⟨SfS.new, 0⟩
def SfS.mates (s : SfS) (k id : Int) : Nat := (s.fs.filter fun e => decide (e.1.tmod k = id.tmod k)).length
/-- What registering tells. -/
def SfS.regE (c : Cfg) (s : SfS) (d : CallS) : Int :=
  if inB d.flow 0 1048576 = false then 1 else if invB c.unit d.a = false then 4 else if inB d.b 1 8 = false then 1 else if (getF s.fs d.flow).isSome then 6 else if c.slots ≤ s.mates c.shards d.flow then 7 else 0
def SfS.reg (c : Cfg) (s : SfS) (d : CallS) : SfS := if s.regE c d = 0 then s.add d.flow (invR c.unit d.a) d.b else s
def SfS.regR (c : Cfg) (s : SfS) (d : CallS) : SfS := if s.regE c d = 0 then s.addR d.flow (invR c.unit d.a) d.b else s
def SfS.enqE (s : SfS) (d : CallS) : Int := if inB d.a 1 65536 then s.arriveE ⟨d.flow, d.a, d.b⟩ else 3
def SfS.enq (s : SfS) (d : CallS) : SfS := if inB d.a 1 65536 then s.arrive ⟨d.flow, d.a, d.b⟩ else s
def MdS.one (m : MdS) : MdS := ⟨m.s.serve, if m.s.has then m.served + 1 else m.served⟩
def MdS.oneRet (m : MdS) : RetS := if m.s.has then ⟨0, [m.s.head], 0, 0⟩ else .code 10
/-- A batch under way: so many packets more at most, behind what came. -/
def MdS.bat : Nat → MdS → List Pk → MdS × RetS
  | 0, m, ps => (m, ⟨0, ps, 0, 0⟩)
  | k + 1, m, ps => if m.s.has then bat k m.one (ps ++ [m.s.head]) else (m.one, ⟨10, ps, 0, 0⟩)
def MdS.doo (c : Cfg) (m : MdS) (d : CallS) : MdS × RetS :=
  if d.op = 1 then (⟨m.s.reg c d, m.served⟩, .code (m.s.regE c d))
  else if d.op = 2 then (⟨m.s.remove d.flow, m.served⟩, .code (m.s.removeE d.flow))
  else if d.op = 3 then (⟨m.s.enq d, m.served⟩, .code (m.s.enqE d))
  else if d.op = 4 then (m.one, m.oneRet)
  else if d.op = 5 then (if inB d.a 1 16 then m.bat d.a.toNat [] else (m, .code 1))
  else if d.op = 6 then (m, ⟨0, [], m.served, m.s.v⟩)
  else (m, .code 2)
def MdS.dooR (c : Cfg) (m : MdS) (d : CallS) : MdS × RetS :=
  if d.op = 1 then (⟨m.s.regR c d, m.served⟩, .code (m.s.regE c d)) else m.doo c d
structure MSim (m x : MdS) : Prop where
  s : Sim m.s x.s
  served : m.served = x.served
theorem MSim.new : MSim .new .new := ⟨Sim.new, rfl⟩
theorem Sim.mates {s t : SfS} (h : Sim s t) (k id : Int) : s.mates k id = t.mates k id := (h.perm.filter _).length_eq
theorem Sim.regE {s t : SfS} (h : Sim s t) (c : Cfg) (d : CallS) : s.regE c d = t.regE c d := by unfold SfS.regE; rw [h.get, h.mates]
theorem MSim.one {m x : MdS} (h : MSim m x) : MSim m.one x.one ∧ m.s.has = x.s.has ∧ m.s.head = x.s.head := by
  obtain ⟨h1, h2, h3⟩ := h.s.serve
  refine ⟨⟨h1, ?_⟩, h2, h3⟩
  show (if _ then _ else _) = (if _ then _ else _)
  rw [h2, h.served]
theorem MSim.bat : ∀ (k : Nat) {m x : MdS} (h : MSim m x) (ps : List Pk), MSim (m.bat k ps).1 (x.bat k ps).1 ∧ (m.bat k ps).2 = (x.bat k ps).2
  | 0, m, x, h, ps => ⟨h, rfl⟩
  | k + 1, m, x, h, ps => by
    obtain ⟨h1, h2, h3⟩ := h.one
    unfold MdS.bat
    rw [h2, h3]
    split
    · exact MSim.bat k h1 _
    · exact ⟨h1, rfl⟩
theorem MSim.doo {m x : MdS} (h : MSim m x) (c : Cfg) (d : CallS) : MSim (m.doo c d).1 (x.dooR c d).1 ∧ (m.doo c d).2 = (x.dooR c d).2 := by
  unfold MdS.dooR
  by_cases h1 : d.op = 1
  · rw [if_pos h1]
    unfold MdS.doo
    rw [if_pos h1]
    have e := h.s.regE c d
    refine ⟨⟨?_, h.served⟩, by rw [e]⟩
    show Sim (m.s.reg c d) (x.s.regR c d)
    unfold SfS.reg SfS.regR
    rw [e]
    split
    · exact h.s.add _ _ _
    · exact h.s
  · rw [if_neg h1]
    unfold MdS.doo
    rw [if_neg h1, if_neg h1]
    by_cases h2 : d.op = 2
    · rw [if_pos h2, if_pos h2]
      obtain ⟨e1, e2⟩ := h.s.remove d.flow
      exact ⟨⟨e1, h.served⟩, by rw [e2]⟩
    rw [if_neg h2, if_neg h2]
    by_cases h3 : d.op = 3
    · rw [if_pos h3, if_pos h3]
      obtain ⟨e1, e2⟩ := h.s.arrive ⟨d.flow, d.a, d.b⟩
      unfold SfS.enq SfS.enqE
      by_cases hi : inB d.a 1 65536 = true
      · rw [if_pos hi, if_pos hi, if_pos hi, if_pos hi]; exact ⟨⟨e1, h.served⟩, by rw [e2]⟩
      · rw [if_neg hi, if_neg hi, if_neg hi, if_neg hi]; exact ⟨⟨h.s, h.served⟩, rfl⟩
    rw [if_neg h3, if_neg h3]
    by_cases h4 : d.op = 4
    · rw [if_pos h4, if_pos h4]
      obtain ⟨e1, e2, e3⟩ := h.one
      refine ⟨e1, ?_⟩
      show m.oneRet = x.oneRet
      unfold MdS.oneRet
      rw [e2, e3]
    rw [if_neg h4, if_neg h4]
    by_cases h5 : d.op = 5
    · rw [if_pos h5, if_pos h5]
      by_cases hi : inB d.a 1 16 = true
      · rw [if_pos hi, if_pos hi]; exact h.bat _ _
      · rw [if_neg hi, if_neg hi]; exact ⟨h, rfl⟩
    rw [if_neg h5, if_neg h5]
    by_cases h6 : d.op = 6
    · rw [if_pos h6, if_pos h6]; exact ⟨h, by rw [h.served, h.s.v]⟩
    rw [if_neg h6, if_neg h6]
    exact ⟨h, rfl⟩

/-- What is right stays right; no more flows than were registered; no more served than were asked for. -/
structure MdS.Ok (m : MdS) (k : Nat) : Prop where
  s : m.s.Ok
  len : m.s.fs.length ≤ k
  served : 0 ≤ m.served ∧ m.served ≤ 16 * k
  nodup : (m.s.fs.map (·.1)).Nodup
theorem MdS.new_ok : MdS.new.Ok 0 := ⟨SfS.new_ok, Nat.le_refl _, ⟨Int.le_refl _, Int.le_refl _⟩, List.nodup_nil⟩
theorem SfS.serve_len (s : SfS) : s.serve.fs.length = s.fs.length := by
  unfold SfS.serve
  split
  · rfl
  · split
    · rfl
    · exact setF_length _ _ _
theorem SfS.serve_fst (s : SfS) : s.serve.fs.map (·.1) = s.fs.map (·.1) := by
  unfold SfS.serve
  split
  · rfl
  · split
    · rfl
    · exact setF_fst _ _ _
theorem SfS.arrive_fst (s : SfS) (p : Pk) : (s.arrive p).fs.map (·.1) = s.fs.map (·.1) := by
  unfold SfS.arrive
  split
  · rfl
  · exact setF_fst _ _ _
theorem SfS.remove_sub (s : SfS) (id : Int) : ((s.remove id).fs.map (·.1)).Sublist (s.fs.map (·.1)) := by
  unfold SfS.remove
  split
  · exact List.Sublist.refl _
  · split
    · exact (List.filter_sublist).map _
    · exact List.Sublist.refl _
theorem SfS.add_fst {s : SfS} {id r m : Int} (h : getF s.fs id = none) : (s.add id r m).fs.map (·.1) = s.fs.map (·.1) ++ [id] := by
  unfold SfS.add
  rw [h]
  simp
theorem invR_w64 {u k : Int} (hu : W64 u) : W64 (invR u k) := by
  unfold invR
  split
  · rename_i h
    have h1 : 0 ≤ u / k := Int.ediv_nonneg hu.1 (by omega)
    have h2 : u / k ≤ u := Int.ediv_le_self _ hu.1
    unfold W64 at *
    omega
  · unfold W64; omega
structure CallS.Ok (d : CallS) : Prop where
  op : I64 d.op
  flow : I64 d.flow
  a : I64 d.a
  b : I64 d.b
theorem MdS.one_ok' {m : MdS} {k : Nat} {j : Int} (h : m.s.Ok) (hl : m.s.fs.length ≤ k) (hs : 0 ≤ m.served ∧ m.served ≤ j) (hn : (m.s.fs.map (·.1)).Nodup) : m.one.s.Ok ∧ m.one.s.fs.length ≤ k ∧ (0 ≤ m.one.served ∧ m.one.served ≤ j + 1) ∧ (m.one.s.fs.map (·.1)).Nodup := by
  refine ⟨SfS.serve_ok h, ?_, ?_, ?_⟩
  · show m.s.serve.fs.length ≤ k
    rw [SfS.serve_len]; exact hl
  · show 0 ≤ (if m.s.has then m.served + 1 else m.served) ∧ (if m.s.has then m.served + 1 else m.served) ≤ j + 1
    split <;> omega
  · show (m.s.serve.fs.map (·.1)).Nodup
    rw [SfS.serve_fst]; exact hn
theorem MdS.bat_ok' : ∀ (n : Nat) {m : MdS} {k : Nat} {j : Int} (ps : List Pk) (h : m.s.Ok) (hl : m.s.fs.length ≤ k) (hs : 0 ≤ m.served ∧ m.served ≤ j) (hn : (m.s.fs.map (·.1)).Nodup), (m.bat n ps).1.s.Ok ∧ (m.bat n ps).1.s.fs.length ≤ k ∧ (0 ≤ (m.bat n ps).1.served ∧ (m.bat n ps).1.served ≤ j + n) ∧ ((m.bat n ps).1.s.fs.map (·.1)).Nodup
  | 0, m, k, j, ps, h, hl, hs, hn => ⟨h, hl, by show 0 ≤ m.served ∧ m.served ≤ j + ((0 : Nat) : Int); omega, hn⟩
  | n + 1, m, k, j, ps, h, hl, hs, hn => by
    unfold MdS.bat
    obtain ⟨a1, a2, a3, a4⟩ := MdS.one_ok' (k := k) h hl hs hn
    split
    · obtain ⟨b1, b2, b3, b4⟩ := MdS.bat_ok' n (ps ++ [m.s.head]) a1 a2 a3 a4
      exact ⟨b1, b2, ⟨b3.1, by omega⟩, b4⟩
    · refine ⟨a1, a2, ⟨a3.1, ?_⟩, a4⟩
      show m.one.served ≤ _
      omega
theorem MdS.doo_ok {m : MdS} {k : Nat} (ok : m.Ok k) {c : Cfg} (hc : W64 c.unit) {d : CallS} (hd : d.Ok) : (m.doo c d).1.Ok (k + 1) := by
  have hs := ok.served
  unfold MdS.doo
  split
  · refine ⟨?_, ?_, ⟨hs.1, by show m.served ≤ _; omega⟩, ?_⟩
    · show (m.s.reg c d).Ok
      unfold SfS.reg
      split
      · exact SfS.add_ok ok.s hd.flow (invR_w64 hc)
      · exact ok.s
    · show (m.s.reg c d).fs.length ≤ k + 1
      have := ok.len
      unfold SfS.reg
      split
      · unfold SfS.add
        split
        · omega
        · simp; omega
      · omega
    · show ((m.s.reg c d).fs.map (·.1)).Nodup
      unfold SfS.reg
      split
      · cases hg : getF m.s.fs d.flow with
        | none =>
          rw [SfS.add_fst hg, List.nodup_append]
          refine ⟨ok.nodup, by simp, fun a ha b hb => ?_⟩
          simp only [List.mem_singleton] at hb
          subst hb
          obtain ⟨e, he, rfl⟩ := List.mem_map.1 ha
          exact getF_no hg e he
        | some x => unfold SfS.add; rw [hg]; exact ok.nodup
      · exact ok.nodup
  split
  · refine ⟨SfS.remove_ok ok.s, ?_, ⟨hs.1, by show m.served ≤ _; omega⟩, ok.nodup.sublist (SfS.remove_sub _ _)⟩
    have h1 := (SfS.remove_sub m.s d.flow).length_le
    have h2 := ok.len
    simp only [List.length_map] at h1
    show (m.s.remove d.flow).fs.length ≤ k + 1
    omega
  split
  · refine ⟨?_, ?_, ⟨hs.1, by show m.served ≤ _; omega⟩, ?_⟩
    · show (m.s.enq d).Ok
      unfold SfS.enq
      split
      · exact SfS.arrive_ok ok.s ⟨hd.flow, hd.a, hd.b⟩
      · exact ok.s
    · show (m.s.enq d).fs.length ≤ k + 1
      have h2 := ok.len
      unfold SfS.enq
      split
      · have h1 := congrArg List.length (SfS.arrive_fst m.s ⟨d.flow, d.a, d.b⟩)
        simp only [List.length_map] at h1
        omega
      · omega
    · show ((m.s.enq d).fs.map (·.1)).Nodup
      unfold SfS.enq
      split
      · rw [SfS.arrive_fst]; exact ok.nodup
      · exact ok.nodup
  have hl := ok.len
  split
  · obtain ⟨a1, a2, a3, a4⟩ := MdS.one_ok' (k := k) ok.s ok.len hs ok.nodup
    exact ⟨a1, by show m.one.s.fs.length ≤ _; omega, ⟨a3.1, by show m.one.served ≤ _; omega⟩, a4⟩
  have hkeep : m.Ok (k + 1) := ⟨ok.s, by omega, by omega, ok.nodup⟩
  split
  · split
    · rename_i hi
      have hi2 : d.a ≤ 16 ∧ 1 ≤ d.a := by unfold inB at hi; simp at hi; omega
      obtain ⟨a1, a2, a3, a4⟩ := MdS.bat_ok' d.a.toNat [] (k := k) ok.s ok.len hs ok.nodup
      exact ⟨a1, by show (m.bat d.a.toNat []).1.s.fs.length ≤ _; omega, ⟨a3.1, by show (m.bat d.a.toNat []).1.served ≤ _; omega⟩, a4⟩
    · exact hkeep
  split
  · exact hkeep
  · exact hkeep
end Go.Proofs.YtdjooacjjnjfmaaGreat
end

-- The model: how many flows of a flow's shard there are.
section
namespace Go.Proofs.YtdjooacjjnjfmaaGreat
set_option linter.unusedVariables false
set_option linter.unusedSimpArgs false
set_option maxRecDepth 20000
open Go.RowKit Go.Proofs.YtdjooacjjnjfmaaGreatMem Go.Proofs.YtdjooacjjnjfmaaGreatMapK

def cntM (l : List (Int × Value)) (k id : Int) : Nat := (l.filter fun e => decide (e.1.tmod k = id.tmod k)).length
theorem cntM_le (l : List (Int × Value)) (k id : Int) : cntM l k id ≤ l.length := List.length_filter_le _ _
theorem cntM_add (l : List (Int × Value)) (p : Int × Value) (k id : Int) : cntM (l ++ [p]) k id = cntM l k id + if p.1.tmod k = id.tmod k then 1 else 0 := by
  unfold cntM
  rw [List.filter_append, List.length_append]
  by_cases h : p.1.tmod k = id.tmod k
  · rw [if_pos h]; simp [h]
  · rw [if_neg h]; simp [h]
theorem cntM_lens (s : SfS) (k id : Int) : cntM (lensV s) k id = s.mates k id := by
  unfold cntM lensV SfS.mates
  rw [List.filter_map, List.length_map]
  rfl
structure MtSt (w wr : World) (b lm : Nat) (L d : List (Int × Value)) : Prop where
  it : IterAt wr w.heap.size lm (Value.int .i64) L d
  sub : ∀ p ∈ d, p ∈ L
  bel : Below w.heap.size w wr
  dl : d.length ≤ L.length
set_option maxHeartbeats 1000000 in
theorem mates_any (b : Nat) (c : Cfg) (s : SfS) (served : Int) (F : Nat → Prop) (id : Int) (w : World) (h : MdAt w b c s served F) (hn : s.fs.length ≤ 1000000) (hk : c.shards ≠ 0) :
    Calls Tryz.prog 98 #[.pointer (some ⟨b, 0, none⟩), .int .i64 id] w fun e w' => e = .returned (.int .i64 (s.mates c.shards id)) ∧ Below w.heap.size w w' := by
  obtain ⟨sb, lm, Fs, h⟩ := h
  obtain ⟨q0, q1, q4, q5, q6, q7, hlt⟩ := h.cells
  have hlm := h.lt lm h.hl
  obtain ⟨L, hLp, hlens⟩ := h.lens
  obtain ⟨w1, hr1, hi1, hg1, hs1⟩ := iter_start under_lens hlens
  have hb1 : Below w.heap.size w w1 := (Below.refl _ _).grown hg1 (Nat.le_refl _) (by intro q hq; cases hq)
  have hst : MtSt w w1 b lm L [] := ⟨hi1, fun e he => (by cases he), hb1, Nat.zero_le _⟩
  have hL : L.length ≤ 1000000 := by rw [hLp.length_eq]; unfold lensV; rw [List.length_map]; exact hn
  have hcL : cntM (lensV s) c.shards id = cntM L c.shards id := (hLp.filter _).length_eq.symm
  rw [← cntM_lens, hcL]
  clear hcL hLp hlens h hi1 hg1 hn hb1
  go_enter Tryz.func98, Tryz.ntmps98
  go_wp2_with fail
  go_loopw [5] (fun v wr => ∃ d, v = .int .i64 (cntM d c.shards id : Nat) ∧ MtSt w wr b lm L d) (fun _ wr => L.length - (wr.iterSeen w.heap.size).size)
  case atStart => exact ⟨[], rfl, hst⟩
  case round =>
    obtain ⟨d, rfl, hd⟩ := hrel
    rcases iter_next (P := Tryz.prog) 0 hd.it with ⟨ha, hnx⟩ | ⟨p, hp, hpn, w2, hnx, hen, hi2, hg2, hs2⟩
    · have hc : cntM d c.shards id = cntM L c.shards id := ((hd.it.all ha).filter _).length_eq
      go_wp2_with fail
      go_ret
      exact ⟨by rw [hc]; rfl, hd.bel⟩
    · have hlt2 := hd.it.some_left hp hpn
      have hseen := hd.it.seen
      have hseen2 := hi2.seen
      have hb2 : Below w.heap.size w w2 := hd.bel.grown hg2 hd.bel.size (by intro q hq; cases hq; exact Nat.le_refl _)
      have x0 : w2.cell? ⟨b, 0, none⟩ = some (.int .i64 c.shards) := (hb2.cell (p := ⟨b, 0, none⟩) hlt).trans q0
      have hC := cntM_add d p c.shards id
      have hCl := cntM_le d c.shards id
      have hk0 : (c.shards == 0) = false := by simpa using hk
      have hsub : ∀ q ∈ d ++ [p], q ∈ L := by
        intro q h'
        rcases List.mem_append.1 h' with h' | h'
        · exact hd.sub q h'
        · simp only [List.mem_singleton] at h'; subst h'; exact hp
      have hdl := hd.dl
      have hln : (d ++ [p]).length ≤ L.length := by rw [List.length_append, List.length_singleton]; omega
      have hk2 : ¬ c.shards = 0 := hk
      have HC := Lib.hid hC
      have e1 : Value.int .i64 (IntKind.i64.wrap ((cntM d c.shards id : Int) + 1)) = .int .i64 ((cntM d c.shards id : Int) + 1) := by rw [IntWalk.i64_left, IntWalk.wrap64_in _ (by omega)]
      clear hC
      have hi3 : IterAt w2.drew w.heap.size lm (Value.int .i64) L (d ++ [p]) := hi2.of_eq rfl rfl
      have hseen3 := hi3.seen
      have hb3 := hb2.drew
      by_cases hm : p.1.tmod c.shards = id.tmod c.shards
      · have hmb : (p.1.tmod c.shards == id.tmod c.shards) = true := by simpa using hm
        have HM := Lib.hid hm
        clear hm
        go_upto_region 5 with fail
        go_region
        go_wp2
        go_roundw
        case rel => exact ⟨d ++ [p], by rw [HC.out, if_pos HM.out]; go_num, hi3, hsub, hb3, hln⟩
        case measure => simp [hseen, hseen3]; omega
      · have hmb : (p.1.tmod c.shards == id.tmod c.shards) = false := by simpa using hm
        have HM := Lib.hid hm
        clear hm
        go_upto_region 5 with fail
        go_region
        go_wp2
        go_roundw
        case rel => exact ⟨d ++ [p], by rw [HC.out, if_neg HM.out]; rfl, hi3, hsub, hb3, hln⟩
        case measure => simp [hseen, hseen3]; omega
end Go.Proofs.YtdjooacjjnjfmaaGreat
end

-- The model: what each of its calls begins with and ends with; registering.
section
namespace Go.Proofs.YtdjooacjjnjfmaaGreat
set_option linter.unusedVariables false
set_option linter.unusedSimpArgs false
set_option maxRecDepth 20000
open Go.RowKit Go.Proofs.YtdjooacjjnjfmaaGreatMem Go.Proofs.YtdjooacjjnjfmaaGreatMapK

def CallS.cells (d : CallS) : List Value := [.int .i64 d.op, .int .i64 d.flow, .int .i64 d.a, .int .i64 d.b]
def ret0 : List Value := [.int .i64 0, .slice none 0 0, .int .i64 0, .int .u64 0]
/-- A call of the model under way: its argument and its result in blocks of their own. -/
structure InC (w W : World) (b sb lm : Nat) (c : Cfg) (s : SfS) (served : Int) (Fs F : Nat → Prop) (d : CallS) : Prop where
  bel : Below w.heap.size w W
  md : MdR W b sb lm c s served Fs F
  box : Blk W w.heap.size d.cells 40
  res : Blk W (w.heap.size + 1) ret0 38
  old : Lt F w
section
variable {w W W' : World} {b sb lm : Nat} {c : Cfg} {s : SfS} {served : Int} {Fs F : Nat → Prop} {d : CallS}
theorem InC.below (h : InC w W b sb lm c s served Fs F d) (hb : Below W.heap.size W W') : InC w W' b sb lm c s served Fs F d :=
  ⟨h.bel.trans (hb.mono h.bel.size), h.md.fr (Fr.of_below (S := fun _ => False) hb) fun _ _ f => f, h.box.below hb, h.res.below hb, h.old⟩
theorem InC.start (h : MdR w b sb lm c s served Fs F) : InC w ((w.alloc (.cells #[.int .i64 d.op, .int .i64 d.flow, .int .i64 d.a, .int .i64 d.b] 40)).alloc (.cells #[.int .i64 0, .slice none 0 0, .int .i64 0, .int .u64 0] 38)) b sb lm c s served Fs F d := by
  have hb1 : Below w.heap.size w ((w.alloc (.cells #[.int .i64 d.op, .int .i64 d.flow, .int .i64 d.a, .int .i64 d.b] 40)).alloc (.cells #[.int .i64 0, .slice none 0 0, .int .i64 0, .int .u64 0] 38)) := ((Below.refl _ _).alloc (Nat.le_refl _) _).alloc (by simp) _
  have B2 := Blk.new (w.alloc (.cells #[.int .i64 d.op, .int .i64 d.flow, .int .i64 d.a, .int .i64 d.b] 40)) ret0 38
  have e1 : (w.alloc (.cells #[.int .i64 d.op, .int .i64 d.flow, .int .i64 d.a, .int .i64 d.b] 40)).heap.size = w.heap.size + 1 := by simp
  rw [e1] at B2
  exact ⟨hb1, h.fr (Fr.of_below (S := fun _ => False) hb1) fun _ _ f => f, (Blk.new w d.cells 40).alloc _, B2, h.lt⟩
theorem InC.cells (h : InC w W b sb lm c s served Fs F d) : W.cell? ⟨b, 0, none⟩ = some (.int .i64 c.shards) ∧ W.cell? ⟨b, 1, none⟩ = some (.int .i64 c.slots) ∧ W.cell? ⟨b, 4, none⟩ = some (.int .u64 c.unit) ∧
    W.cell? ⟨b, 5, none⟩ = some (.pointer (some ⟨sb, 0, none⟩)) ∧ W.cell? ⟨b, 6, none⟩ = some (.map (some lm)) ∧ W.cell? ⟨b, 7, none⟩ = some (.int .i64 served) ∧ b < W.heap.size ∧
    W.cell? ⟨w.heap.size, 0, none⟩ = some (.int .i64 d.op) ∧ W.cell? ⟨w.heap.size, 1, none⟩ = some (.int .i64 d.flow) ∧ W.cell? ⟨w.heap.size, 2, none⟩ = some (.int .i64 d.a) ∧ W.cell? ⟨w.heap.size, 3, none⟩ = some (.int .i64 d.b) ∧ w.heap.size < W.heap.size :=
  ⟨h.md.blk.cell 0, h.md.blk.cell 1, h.md.blk.cell 4, h.md.blk.cell 5, h.md.blk.cell 6, h.md.blk.cell 7, h.md.blk.lt, h.box.cell 0, h.box.cell 1, h.box.cell 2, h.box.cell 3, h.box.lt⟩
theorem InC.out (h : InC w W b sb lm c s served Fs F d) : W.cell? ⟨w.heap.size + 1, 0, none⟩ = some (.int .i64 0) ∧ W.cell? ⟨w.heap.size + 1, 1, none⟩ = some (.slice none 0 0) ∧ W.cell? ⟨w.heap.size + 1, 2, none⟩ = some (.int .i64 0) ∧ W.cell? ⟨w.heap.size + 1, 3, none⟩ = some (.int .u64 0) ∧
    W.frozen? ⟨w.heap.size + 1, 0, none⟩ = false ∧ W.frozen? ⟨w.heap.size + 1, 1, none⟩ = false ∧ W.frozen? ⟨w.heap.size + 1, 2, none⟩ = false ∧ W.frozen? ⟨w.heap.size + 1, 3, none⟩ = false ∧ w.heap.size + 1 < W.heap.size :=
  ⟨h.res.cell 0, h.res.cell 1, h.res.cell 2, h.res.cell 3, h.res.frozen 0, h.res.frozen 1, h.res.frozen 2, h.res.frozen 3, h.res.lt⟩
theorem MdAt.still {w w' : World} {b : Nat} {c : Cfg} {s : SfS} {served : Int} {F : Nat → Prop} (h : MdAt w b c s served F) (hF : Lt F w) (hb : Below w.heap.size w w') : MdPost b c s served F w w' :=
  ⟨(h.below hb).mono (fun k hk => .inl hk) (hF.ext hb.size), Fr.of_below hb⟩
/-- Nothing turned of it; the result's cells were written. -/
theorem InC.refused {w4 : World} (h : InC w W b sb lm c s served Fs F d) (hb : Below W.heap.size W w4) (v0 v1 v2 v3 : Value) :
    MdPost b c s served F w ((((w4.setCell ⟨w.heap.size + 1, 0, none⟩ v0).setCell ⟨w.heap.size + 1, 1, none⟩ v1).setCell ⟨w.heap.size + 1, 2, none⟩ v2).setCell ⟨w.heap.size + 1, 3, none⟩ v3) := by
  have I := h.below hb
  have hz : w.heap.size ≤ w.heap.size + 1 := Nat.le_succ _
  have hb2 : Below w.heap.size w ((((w4.setCell ⟨w.heap.size + 1, 0, none⟩ v0).setCell ⟨w.heap.size + 1, 1, none⟩ v1).setCell ⟨w.heap.size + 1, 2, none⟩ v2).setCell ⟨w.heap.size + 1, 3, none⟩ v3) :=
    (((I.bel.setCell (p := ⟨w.heap.size + 1, 0, none⟩) hz v0).setCell (p := ⟨w.heap.size + 1, 1, none⟩) hz v1).setCell (p := ⟨w.heap.size + 1, 2, none⟩) hz v2).setCell (p := ⟨w.heap.size + 1, 3, none⟩) hz v3
  have g0 : Fr (fun k => w.heap.size < k) w4 w4 := Fr.refl _ _
  have hlt : w.heap.size < w.heap.size + 1 := Nat.lt_succ_self _
  have g4 : Fr (fun k => w.heap.size < k) w4 ((((w4.setCell ⟨w.heap.size + 1, 0, none⟩ v0).setCell ⟨w.heap.size + 1, 1, none⟩ v1).setCell ⟨w.heap.size + 1, 2, none⟩ v2).setCell ⟨w.heap.size + 1, 3, none⟩ v3) :=
    (((g0.setCell (a := ⟨w.heap.size + 1, 0, none⟩) (.inl hlt) v0).setCell (a := ⟨w.heap.size + 1, 1, none⟩) (.inl hlt) v1).setCell (a := ⟨w.heap.size + 1, 2, none⟩) (.inl hlt) v2).setCell (a := ⟨w.heap.size + 1, 3, none⟩) (.inl hlt) v3
  have hm : MdAt ((((w4.setCell ⟨w.heap.size + 1, 0, none⟩ v0).setCell ⟨w.heap.size + 1, 1, none⟩ v1).setCell ⟨w.heap.size + 1, 2, none⟩ v2).setCell ⟨w.heap.size + 1, 3, none⟩ v3) b c s served F :=
    ⟨sb, lm, Fs, I.md.fr g4 fun k hk hk2 => by have := h.old k hk; omega⟩
  exact ⟨hm.mono (fun k hk => .inl hk) (h.old.ext hb2.size), Fr.of_below hb2⟩
end
end Go.Proofs.YtdjooacjjnjfmaaGreat
end

-- The model: a flow is registered.
section
namespace Go.Proofs.YtdjooacjjnjfmaaGreat
set_option linter.unusedVariables false
set_option linter.unusedSimpArgs false
set_option maxRecDepth 20000
open Go.RowKit Go.Proofs.YtdjooacjjnjfmaaGreatMem Go.Proofs.YtdjooacjjnjfmaaGreatMapK

theorem lens_look {w : World} {lm : Nat} {s : SfS} (h : IsMapP w lm (Value.int .i64) (lensV s)) (id : Int) : ∃ v, (Instr.lookup 107 (.map (some lm)) (.int .i64 id) true).run Tryz.prog w = .ok (.tuple #[v, .bool (getF s.fs id).isSome]) w := by
  have hk := run_lookup2P intKey under_lens (zero_int w) h id
  rw [getM_lens] at hk
  cases hg : getF s.fs id with
  | none => rw [hg] at hk; exact ⟨_, hk⟩
  | some x => rw [hg] at hk; exact ⟨_, hk⟩
set_option maxHeartbeats 4000000 in
theorem register_any (b : Nat) (c : Cfg) (s : SfS) (served : Int) (F : Nat → Prop) (d : CallS) (w : World) (h : MdAt w b c s served F) (hc : W64 c.unit) (hk : c.shards ≠ 0) (hn : s.fs.length ≤ 1000000) :
    Calls Tryz.prog 64 #[.pointer (some ⟨b, 0, none⟩), .agg #[.int .i64 d.op, .int .i64 d.flow, .int .i64 d.a, .int .i64 d.b]] w fun e w' => e = .returned (retE (s.regE c d)) ∧ MdPost b c (s.reg c d) served F w w' := by
  obtain ⟨sb, lm, Fs, h⟩ := h
  have I := InC.start (d := d) h
  have C0 := within_any d.flow 0 1048576
  have C1 := inv_any c.unit d.a hc
  have C2 := within_any d.b 1 8
  have hE : s.regE c d = (if inB d.flow 0 1048576 = false then 1 else if invB c.unit d.a = false then 4 else if inB d.b 1 8 = false then 1 else if (getF s.fs d.flow).isSome then 6 else if c.slots ≤ s.mates c.shards d.flow then 7 else 0) := rfl
  unfold SfS.reg
  have HE := Lib.hid hE
  clear hE h
  generalize s.regE c d = R at *
  go_enter Tryz.func64, Tryz.ntmps64
  go_upto_region 1 with fail
  generalize ((w.alloc (.cells #[.int .i64 d.op, .int .i64 d.flow, .int .i64 d.a, .int .i64 d.b] 40)).alloc (.cells #[.int .i64 0, .slice none 0 0, .int .i64 0, .int .u64 0] 38)) = W at *
  obtain ⟨q0, q1, q4, q5, q6, q7, hlt, z0, z1, z2, z3, hzl⟩ := I.cells
  have HI := Lib.hid I
  clear I
  go_wp2_with fail
  refine (C0 _).mono ?_
  rintro e w' ⟨rfl, rfl⟩
  have HX0 : Hid (inB d.flow 0 1048576 = inB d.flow 0 1048576) := Lib.hid rfl
  revert HX0
  generalize h0 : inB d.flow 0 1048576 = x0
  intro HX0
  cases x0 with
  | false =>
    obtain rfl : R = 1 := by rw [HE.out, h0]; rfl
    clear h0
    go_wp2_with fail
    refine (refused_any 1 _).mono ?_
    rintro e w4 ⟨rfl, hb4⟩
    obtain ⟨r0, r1, r2, r3, f0, f1, f2, f3, hrl⟩ := (HI.out.below hb4).out
    have HB4 := Lib.hid hb4
    clear hb4
    go_wp2
    refine bodyPost_ret (v := retE 1) (by simp [retE, results, Tryz.results64, go_sem, r0, r1, r2, r3, hrl]) rfl ⟨rfl, ?_⟩
    exact HI.out.refused HB4.out _ _ _ _
  | true =>
  go_upto_region 3 with fail
  go_quiet (first | (go_at_call 97; refine Calls.quiet_of_same ((C1 _).mono fun e w' h => ⟨h.1, h.2.symm⟩)))
  replace HI : Hid (InC w (W.drewN nq) b sb lm c s served Fs F d) := Lib.hid (HI.out.below (below_drewN W nq))
  generalize W.drewN nq = W2 at *
  clear q0 q1 q4 q5 q6 q7 hlt z0 z1 z2 z3 hzl C0 C1
  obtain ⟨q0, q1, q4, q5, q6, q7, hlt, z0, z1, z2, z3, hzl⟩ := HI.out.cells
  obtain ⟨v7, hlk⟩ := lens_look (w := W2.drew) (HI.out.md.lens.of_eq rfl) d.flow
  revert HE hlk
  generalize hx3 : (getF s.fs d.flow).isSome = x3
  generalize hx1 : invB c.unit d.a = x1
  generalize hx2 : inB d.b 1 8 = x2
  intro HE hlk
  go_upto_region 4 with fail
  refine wp_region_held_drew (S := (fun w' => w'.cell? ⟨b, 6, none⟩ = some (.map (some lm)) ∧ w'.cell? ⟨w.heap.size, 1, none⟩ = some (.int .i64 d.flow) ∧ (Instr.lookup 107 (.map (some lm)) (.int .i64 d.flow) true).run Tryz.prog w' = .ok (.tuple #[v7, .bool x3]) w')) (by kernel_rfl) ?_ (fun hHeld => ?_)
  · exact ⟨q6, z1, hlk⟩
  refine wpAnyH_take (i := 0) (v := ?_) rfl (by kernel_rfl) (by kernel_rfl) (by kernel_rfl) (fun _ _ _ h => h) (Or.inl ⟨by rfl, ?_⟩) (by assumption) ?_
  rotate_left
  · intro w hSw
    (try dsimp only at hSw)
    first | (go_simp; done) | (go_simp; with_reducible rfl)
  try simp only [List.getElem_toArray, List.getElem_cons_succ, List.getElem_cons_zero, Act.put, List.setIfInBounds_toArray, List.set_cons_zero, List.set_cons_succ]
  refine wpAnyH_take (i := 1) (v := ?_) rfl (by kernel_rfl) (by kernel_rfl) (by kernel_rfl) (fun _ _ _ h => h) (Or.inl ⟨by rfl, ?_⟩) (by assumption) ?_
  rotate_left
  · intro w hSw
    (try dsimp only at hSw)
    first | (go_simp; done) | (go_simp; with_reducible rfl)
  try simp only [List.getElem_toArray, List.getElem_cons_succ, List.getElem_cons_zero, Act.put, List.setIfInBounds_toArray, List.set_cons_zero, List.set_cons_succ]
  refine wpAnyH_take (i := 2) (v := ?_) rfl (by kernel_rfl) (by kernel_rfl) (by kernel_rfl) (fun _ _ _ h => h) (Or.inl ⟨by rfl, ?_⟩) (by assumption) ?_
  rotate_left
  · intro w hSw
    (try dsimp only at hSw)
    first | (go_simp; done) | (go_simp; with_reducible rfl)
  try simp only [List.getElem_toArray, List.getElem_cons_succ, List.getElem_cons_zero, Act.put, List.setIfInBounds_toArray, List.set_cons_zero, List.set_cons_succ]
  refine wpAnyH_take (i := 3) (v := ?_) rfl (by kernel_rfl) (by kernel_rfl) (by kernel_rfl) (fun _ _ _ h => h) (Or.inl ⟨by rfl, ?_⟩) (by assumption) ?_
  rotate_left
  · intro w hSw
    (try dsimp only at hSw)
    first | (go_simp; done) | (go_simp; with_reducible rfl)
  try simp only [List.getElem_toArray, List.getElem_cons_succ, List.getElem_cons_zero, Act.put, List.setIfInBounds_toArray, List.set_cons_zero, List.set_cons_succ]
  refine wpAnyH_take (i := 4) (v := ?_) rfl (by kernel_rfl) (by kernel_rfl) (by kernel_rfl) (fun _ _ _ h => h) (Or.inl ⟨by rfl, ?_⟩) (by assumption) ?_
  rotate_left
  · intro w hSw
    (try dsimp only at hSw)
    first | (go_simp; done) | (go_simp; with_reducible rfl)
  try simp only [List.getElem_toArray, List.getElem_cons_succ, List.getElem_cons_zero, Act.put, List.setIfInBounds_toArray, List.set_cons_zero, List.set_cons_succ]
  refine wpAnyH_take (i := 5) (v := ?_) rfl (by kernel_rfl) (by kernel_rfl) (by kernel_rfl) (fun _ _ _ h => h) (Or.inl ⟨by rfl, ?_⟩) (by assumption) ?_
  rotate_left
  · intro w hSw
    (try dsimp only at hSw)
    first | (go_simp; done) | (go_simp; with_reducible rfl)
  try simp only [List.getElem_toArray, List.getElem_cons_succ, List.getElem_cons_zero, Act.put, List.setIfInBounds_toArray, List.set_cons_zero, List.set_cons_succ]
  refine wpAnyH_take (i := 6) (v := ?_) rfl (by kernel_rfl) (by kernel_rfl) (by kernel_rfl) (fun _ _ _ h => h) (Or.inl ⟨by rfl, ?_⟩) (by assumption) ?_
  rotate_left
  · intro w hSw
    (try dsimp only at hSw)
    first | (go_simp; done) | (go_simp; with_reducible rfl)
  try simp only [List.getElem_toArray, List.getElem_cons_succ, List.getElem_cons_zero, Act.put, List.setIfInBounds_toArray, List.set_cons_zero, List.set_cons_succ]
  refine wpAnyH_take (i := 7) (v := ?_) rfl (by kernel_rfl) (by kernel_rfl) (by kernel_rfl) (fun _ _ _ h => h) (Or.inl ⟨by rfl, ?_⟩) (by assumption) ?_
  rotate_left
  · intro w hSw
    (try dsimp only at hSw)
    first | (go_simp; done) | (go_simp; with_reducible rfl)
  try simp only [List.getElem_toArray, List.getElem_cons_succ, List.getElem_cons_zero, Act.put, List.setIfInBounds_toArray, List.set_cons_zero, List.set_cons_succ]
  refine wpAnyH_take (i := 8) (v := ?_) rfl (by kernel_rfl) (by kernel_rfl) (by kernel_rfl) (fun _ _ _ h => h) (Or.inl ⟨by rfl, ?_⟩) (by assumption) ?_
  rotate_left
  · intro w hSw
    (try dsimp only at hSw)
    first | (go_simp; done) | (go_simp; with_reducible rfl)
  try simp only [List.getElem_toArray, List.getElem_cons_succ, List.getElem_cons_zero, Act.put, List.setIfInBounds_toArray, List.set_cons_zero, List.set_cons_succ]
  refine wpAnyH_take (i := 9) (v := ?_) rfl (by kernel_rfl) (by kernel_rfl) (by kernel_rfl) (fun _ _ _ h => h) (Or.inl ⟨by rfl, ?_⟩) (by assumption) ?_
  rotate_left
  · intro w hSw
    (try dsimp only at hSw)
    first | (go_simp; done) | (go_simp; with_reducible rfl)
  try simp only [List.getElem_toArray, List.getElem_cons_succ, List.getElem_cons_zero, Act.put, List.setIfInBounds_toArray, List.set_cons_zero, List.set_cons_succ]
  refine wpAnyH_take (i := 10) (v := ?_) rfl (by kernel_rfl) (by kernel_rfl) (by kernel_rfl) (fun _ _ _ h => h) (Or.inl ⟨by rfl, ?_⟩) (by assumption) ?_
  rotate_left
  · intro w hSw
    (try dsimp only at hSw)
    first | (go_simp; done) | (go_simp; with_reducible rfl)
  try simp only [List.getElem_toArray, List.getElem_cons_succ, List.getElem_cons_zero, Act.put, List.setIfInBounds_toArray, List.set_cons_zero, List.set_cons_succ]
  refine wpAnyH_take (i := 11) (v := ?_) rfl (by kernel_rfl) (by kernel_rfl) (by kernel_rfl) (fun _ _ _ h => h) (Or.inl ⟨by rfl, ?_⟩) (by assumption) ?_
  rotate_left
  · intro w hSw
    (try dsimp only at hSw)
    first | (go_simp; done) | (go_simp; with_reducible rfl)
  try simp only [List.getElem_toArray, List.getElem_cons_succ, List.getElem_cons_zero, Act.put, List.setIfInBounds_toArray, List.set_cons_zero, List.set_cons_succ]
  refine wpAnyH_done (by kernel_rfl) ?_ _
  clear hHeld hlk
  replace hx3 := Lib.hid hx3
  replace HI : Hid (InC w W2.drew b sb lm c s served Fs F d) := Lib.hid (HI.out.below (Below.refl _ _).drew)
  generalize W2.drew = W3 at *
  clear q0 q1 q4 q5 q6 q7 hlt z0 z1 z2 z3 hzl
  obtain ⟨q0, q1, q4, q5, q6, q7, hlt, z0, z1, z2, z3, hzl⟩ := HI.out.cells
  cases x1 with
  | false =>
    obtain rfl : R = 4 := by rw [HE.out, h0]; rfl
    clear h0 hx1 hx2
    go_wp2_with fail
    refine (refused_any 4 _).mono ?_
    rintro e w4 ⟨rfl, hb4⟩
    obtain ⟨r0, r1, r2, r3, f0, f1, f2, f3, hrl⟩ := (HI.out.below hb4).out
    have HB4 := Lib.hid hb4
    clear hb4
    go_wp2
    refine bodyPost_ret (v := retE 4) (by simp [retE, results, Tryz.results64, go_sem, r0, r1, r2, r3, hrl]) rfl ⟨rfl, ?_⟩
    exact HI.out.refused HB4.out _ _ _ _
  | true =>
  go_wp2_with fail
  refine (C2 _).mono ?_
  rw [hx2]
  rintro e w' ⟨rfl, rfl⟩
  cases x2 with
  | false =>
    obtain rfl : R = 1 := by rw [HE.out, h0]; rfl
    clear h0 hx1 hx2
    go_wp2_with fail
    refine (refused_any 1 _).mono ?_
    rintro e w4 ⟨rfl, hb4⟩
    obtain ⟨r0, r1, r2, r3, f0, f1, f2, f3, hrl⟩ := (HI.out.below hb4).out
    have HB4 := Lib.hid hb4
    clear hb4
    go_wp2
    refine bodyPost_ret (v := retE 1) (by simp [retE, results, Tryz.results64, go_sem, r0, r1, r2, r3, hrl]) rfl ⟨rfl, ?_⟩
    exact HI.out.refused HB4.out _ _ _ _
  | true =>
  cases x3 with
  | true =>
    obtain rfl : R = 6 := by rw [HE.out, h0]; rfl
    clear h0 hx1 hx2
    go_wp2_with fail
    refine (refused_any 6 _).mono ?_
    rintro e w4 ⟨rfl, hb4⟩
    obtain ⟨r0, r1, r2, r3, f0, f1, f2, f3, hrl⟩ := (HI.out.below hb4).out
    have HB4 := Lib.hid hb4
    clear hb4
    go_wp2
    refine bodyPost_ret (v := retE 6) (by simp [retE, results, Tryz.results64, go_sem, r0, r1, r2, r3, hrl]) rfl ⟨rfl, ?_⟩
    exact HI.out.refused HB4.out _ _ _ _
  | false =>
  have HM : Hid (∀ w', Below W3.heap.size W3 w' → Calls Tryz.prog 98 #[.pointer (some ⟨b, 0, none⟩), .int .i64 d.flow] w' fun e w2 => e = .returned (.int .i64 (s.mates c.shards d.flow)) ∧ Below w'.heap.size w' w2) := Lib.hid fun w' hb =>
    mates_any b c s served F d.flow w' ⟨sb, lm, Fs, (HI.out.below hb).md⟩ hn hk
  have HC : Hid (∀ w', Below W3.heap.size W3 w' → w'.cell? ⟨b, 1, none⟩ = some (.int .i64 c.slots) ∧ w'.cell? ⟨w.heap.size, 1, none⟩ = some (.int .i64 d.flow)) := Lib.hid fun w' hb => by
    obtain ⟨q0, q1, q4, q5, q6, q7, hlt, z0, z1, z2, z3, hzl⟩ := (HI.out.below hb).cells
    exact ⟨q1, z1⟩
  revert HE HM
  generalize s.mates c.shards d.flow = N
  intro HE HM
  have Td : Below W3.heap.size W3 W3.drew := (Below.refl _ _).drew
  generalize hx4 : decide ((N : Int) ≥ c.slots) = x4
  have HS := HC.out _ Td
  go_upto_region 11 with fail
  go_region_held3 (fun w' => w'.cell? ⟨b, 1, none⟩ = some (.int .i64 c.slots) ∧ w'.cell? ⟨w.heap.size, 1, none⟩ = some (.int .i64 d.flow)) (exact HC.out _ Td)
    (first | (go_at_call 98; refine (HM.out _ Td).mono ?_; rintro e w1 ⟨rfl, hb1⟩; replace Td := Td.trans (hb1.mono Td.size)))
  replace HI : Hid (InC w w1 b sb lm c s served Fs F d) := Lib.hid (HI.out.below Td)
  clear HM HC HS Td hb1 q0 q1 q4 q5 q6 q7 hlt z0 z1 z2 z3 hzl
  cases x4 with
  | true =>
    obtain rfl : R = 7 := by rw [HE.out, h0]; have := of_decide_eq_true hx4; simp; omega
    clear h0 hx1 hx2
    go_wp2_with fail
    refine (refused_any 7 _).mono ?_
    rintro e w4 ⟨rfl, hb4⟩
    obtain ⟨r0, r1, r2, r3, f0, f1, f2, f3, hrl⟩ := (HI.out.below hb4).out
    have HB4 := Lib.hid hb4
    clear hb4
    go_wp2
    refine bodyPost_ret (v := retE 7) (by simp [retE, results, Tryz.results64, go_sem, r0, r1, r2, r3, hrl]) rfl ⟨rfl, ?_⟩
    exact HI.out.refused HB4.out _ _ _ _
  | false =>
  obtain rfl : R = 0 := by rw [HE.out, h0]; have := of_decide_eq_false hx4; simp; omega
  clear HE h0 hx1 hx2
  obtain ⟨q0, q1, q4, q5, q6, q7, hlt, z0, z1, z2, z3, hzl⟩ := HI.out.cells
  generalize hr : invR c.unit d.a = r at *
  have hrw : W64 r := by rw [← hr]; exact invR_w64 hc
  clear hx4
  replace hr := Lib.hid hr
  have HNB : Hid (¬ Fs b) := Lib.hid (fun hk => (HI.out.md.sub b hk).2.1 rfl)
  have HNZ : Hid (¬ Fs w.heap.size) := Lib.hid (fun hk => by have := HI.out.old _ (HI.out.md.sub _ hk).1; omega)
  have HNR : Hid (¬ Fs (w.heap.size + 1)) := Lib.hid (fun hk => by have := HI.out.old _ (HI.out.md.sub _ hk).1; omega)
  have HI1 : Hid (InC w w1.drew b sb lm c s served Fs F d) := Lib.hid (HI.out.below (Below.refl _ _).drew)
  have hS : w1.drew.cell? ⟨b, 5, none⟩ = some (.pointer (some ⟨sb, 0, none⟩)) ∧ w1.drew.cell? ⟨w.heap.size, 1, none⟩ = some (.int .i64 d.flow) ∧ w1.drew.cell? ⟨w.heap.size, 3, none⟩ = some (.int .i64 d.b) := ⟨q5, z1, z3⟩
  clear q0 q1 q4 q5 q6 q7 z0 z1 z2 z3
  go_upto_region 13 with fail
  go_region_held3 (fun w' => w'.cell? ⟨b, 5, none⟩ = some (.pointer (some ⟨sb, 0, none⟩)) ∧ w'.cell? ⟨w.heap.size, 1, none⟩ = some (.int .i64 d.flow) ∧ w'.cell? ⟨w.heap.size, 3, none⟩ = some (.int .i64 d.b)) (first | exact hS | exact ⟨(HI1.out.md.blk.fr hp.2 HNB.out).cell 5, (HI1.out.box.fr hp.2 HNZ.out).cell 1, (HI1.out.box.fr hp.2 HNZ.out).cell 3⟩)
    (first | (go_at_call 99; refine (addS_any sb s Fs d.flow r d.b _ HI1.out.md.sfq hrw).mono ?_; rintro e w3 ⟨rfl, hp⟩))
  have hg0 : getF s.fs d.flow = none := by have := hx3.out; simpa using this
  have R3 := HI1.out.res.fr hp.2 HNR.out
  have C3 := HI1.out.box.fr hp.2 HNZ.out
  have BL3 := HI1.out.md.blk.fr hp.2 HNB.out
  have HM := Lib.hid (HI1.out.md.map1 hp)
  have hllm := HI1.out.old lm HI1.out.md.hl
  have HP := Lib.hid hp
  have y0 : w3.cell? ⟨b, 6, none⟩ = some (.map (some lm)) := BL3.cell 6
  have hcc : w3.cell? ⟨w.heap.size, 1, none⟩ = some (.int .i64 d.flow) := C3.cell 1
  have HBL := Lib.hid BL3
  have HC3 := Lib.hid C3
  have HR3 := Lib.hid R3
  have HG0 := Lib.hid hg0
  have hnl : lm ≠ b := fun e => HI1.out.md.ne e.symm
  clear BL3 C3 R3 hp hS hg0
  go_upto_region 14 with fail
  refine wp_region_held_drew (S := (fun w' => w'.cell? ⟨b, 6, none⟩ = some (.map (some lm)) ∧ w'.cell? ⟨w.heap.size, 1, none⟩ = some (.int .i64 d.flow))) (by kernel_rfl) ?_ (fun hHeld => ?_)
  · exact ⟨y0, hcc⟩
  refine wpAnyH_take (i := 0) (v := ?_) rfl (by kernel_rfl) (by kernel_rfl) (by kernel_rfl) (fun _ _ _ h => h) (Or.inl ⟨by rfl, ?_⟩) (by assumption) ?_
  rotate_left
  · intro w hSw
    (try dsimp only at hSw)
    first | (go_simp; done) | (go_simp; with_reducible rfl)
  try simp only [List.getElem_toArray, List.getElem_cons_succ, List.getElem_cons_zero, Act.put, List.setIfInBounds_toArray, List.set_cons_zero, List.set_cons_succ]
  refine wpAnyH_take (i := 1) (v := ?_) rfl (by kernel_rfl) (by kernel_rfl) (by kernel_rfl) (fun _ _ _ h => h) (Or.inl ⟨by rfl, ?_⟩) (by assumption) ?_
  rotate_left
  · intro w hSw
    (try dsimp only at hSw)
    first | (go_simp; done) | (go_simp; with_reducible rfl)
  try simp only [List.getElem_toArray, List.getElem_cons_succ, List.getElem_cons_zero, Act.put, List.setIfInBounds_toArray, List.set_cons_zero, List.set_cons_succ]
  refine wpAnyH_take (i := 2) (v := ?_) rfl (by kernel_rfl) (by kernel_rfl) (by kernel_rfl) (fun _ _ _ h => h) (Or.inl ⟨by rfl, ?_⟩) (by assumption) ?_
  rotate_left
  · intro w hSw
    (try dsimp only at hSw)
    first | (go_simp; done) | (go_simp; with_reducible rfl)
  try simp only [List.getElem_toArray, List.getElem_cons_succ, List.getElem_cons_zero, Act.put, List.setIfInBounds_toArray, List.set_cons_zero, List.set_cons_succ]
  refine wpAnyH_take (i := 3) (v := ?_) rfl (by kernel_rfl) (by kernel_rfl) (by kernel_rfl) (fun _ _ _ h => h) (Or.inl ⟨by rfl, ?_⟩) (by assumption) ?_
  rotate_left
  · intro w hSw
    (try dsimp only at hSw)
    first | (go_simp; done) | (go_simp; with_reducible rfl)
  try simp only [List.getElem_toArray, List.getElem_cons_succ, List.getElem_cons_zero, Act.put, List.setIfInBounds_toArray, List.set_cons_zero, List.set_cons_succ]
  refine wpAnyH_take (i := 4) (v := ?_) rfl (by kernel_rfl) (by kernel_rfl) (by kernel_rfl) (fun _ _ _ h => h) (Or.inl ⟨by rfl, ?_⟩) (by assumption) ?_
  rotate_left
  · intro w hSw
    (try dsimp only at hSw)
    first | (go_simp; done) | (go_simp; with_reducible rfl)
  try simp only [List.getElem_toArray, List.getElem_cons_succ, List.getElem_cons_zero, Act.put, List.setIfInBounds_toArray, List.set_cons_zero, List.set_cons_succ]
  refine wpAnyH_take (i := 5) (v := ?_) rfl (by kernel_rfl) (by kernel_rfl) (by kernel_rfl) (fun _ _ _ h => h) (Or.inl ⟨by rfl, ?_⟩) (by assumption) ?_
  rotate_left
  · intro w hSw
    (try dsimp only at hSw)
    first | (go_simp; done) | (go_simp; with_reducible rfl)
  try simp only [List.getElem_toArray, List.getElem_cons_succ, List.getElem_cons_zero, Act.put, List.setIfInBounds_toArray, List.set_cons_zero, List.set_cons_succ]
  refine wpAnyH_ready (rs := [6]) (by kernel_rfl) (by simp) ?_
  refine AllReadyH.cons rfl (fun K hK => ?_) AllReadyH.nil
  (refine step_updateP rfl _ _ _ rfl intKey under_lens d.flow (.int .i64 0) rfl rfl rfl (show IsMapP w3.drew lm (Value.int .i64) (lensV s) from HM.out.of_eq rfl) ?_; intro w5 hm5 hg5'; have hg5 : w3.grownBy w5 (some lm) := ⟨hg5'.os, hg5'.tape, hg5'.output, hg5'.size, hg5'.block⟩; have hS5 : w5.cell? ⟨b, 6, none⟩ = some (.map (some lm)) ∧ w5.cell? ⟨w.heap.size, 1, none⟩ = some (.int .i64 d.flow) := ⟨(HBL.out.grown hg5 (by intro e; cases e; exact hnl rfl)).cell 6, (HC3.out.grown hg5 (by intro e; cases e; omega)).cell 1⟩)
  refine hK.out _ _ ?_ (fun hHeld => ?_)
  · exact hS5
  clear hK K
  try simp only [List.getElem_toArray, List.getElem_cons_succ, List.getElem_cons_zero, Act.put, List.setIfInBounds_toArray, List.set_cons_zero, List.set_cons_succ]
  refine wpAnyH_done (by kernel_rfl) ?_ _
  have p5 : MdPost b c (s.add d.flow r d.b) served F w1.drew w5 := md_turn HI1.out.md HP.out hg5 (by rw [← lens_add HG0.out]; exact hm5)
  have HP5 := Lib.hid p5
  have R4 := HR3.out.grown hg5 (by intro e; cases e; omega)
  have r0 : w5.cell? ⟨w.heap.size + 1, 0, none⟩ = some (.int .i64 0) := R4.cell 0
  have r1 : w5.cell? ⟨w.heap.size + 1, 1, none⟩ = some (.slice none 0 0) := R4.cell 1
  have r2 : w5.cell? ⟨w.heap.size + 1, 2, none⟩ = some (.int .i64 0) := R4.cell 2
  have r3 : w5.cell? ⟨w.heap.size + 1, 3, none⟩ = some (.int .u64 0) := R4.cell 3
  have f0 := R4.frozen 0
  have f1 := R4.frozen 1
  have f2 := R4.frozen 2
  have f3 := R4.frozen 3
  have hrl := R4.lt
  have hres := HI1.out.res.lt
  clear p5 R4 hg5 hg5' hm5 hS5 y0 hcc
  go_wp2
  have hm : w.heap.size ≤ w.heap.size + 1 ∧ w.heap.size + 1 < w1.drew.heap.size := ⟨Nat.le_succ _, hres⟩
  have g0 : Fr (fun k => w.heap.size ≤ k ∧ k < w1.drew.heap.size) w5 w5 := Fr.refl _ _
  have g1 := g0.setCell (a := ⟨w.heap.size + 1, 0, none⟩) (.inl hm) (.int .i64 0)
  have g2 := g1.setCell (a := ⟨w.heap.size + 1, 1, none⟩) (.inl hm) (.slice none 0 0)
  have g3 := g2.setCell (a := ⟨w.heap.size + 1, 2, none⟩) (.inl hm) (.int .i64 0)
  have g4 := g3.setCell (a := ⟨w.heap.size + 1, 3, none⟩) (.inl hm) (.int .u64 0)
  refine bodyPost_ret (v := retE 0) (by simp [retE, results, Tryz.results64, go_sem, r0, r1, r2, r3, hrl]) rfl ⟨rfl, ?_⟩
  rw [hr.out]
  exact md_end HI1.out.old HI1.out.bel HP5.out g4
end Go.Proofs.YtdjooacjjnjfmaaGreat
end

-- The model: a packet comes.
section
namespace Go.Proofs.YtdjooacjjnjfmaaGreat
set_option linter.unusedVariables false
set_option linter.unusedSimpArgs false
set_option maxRecDepth 20000
open Go.RowKit Go.Proofs.YtdjooacjjnjfmaaGreatMem Go.Proofs.YtdjooacjjnjfmaaGreatMapK

/-- Behind what turned the flows (and the lengths' map): the call's own blocks. -/
structure OutC (w w0 W : World) (b : Nat) (c : Cfg) (s : SfS) (served : Int) (F : Nat → Prop) (d : CallS) : Prop where
  bel : Below w.heap.size w w0
  md : MdPost b c s served F w0 W
  box : Blk W w.heap.size d.cells 40
  res : Blk W (w.heap.size + 1) ret0 38
  old : Lt F w
  two : w.heap.size + 1 < w0.heap.size
section
variable {w w0 W W' : World} {b : Nat} {c : Cfg} {s : SfS} {served : Int} {F : Nat → Prop} {d : CallS}
theorem OutC.below (h : OutC w w0 W b c s served F d) (hb : Below W.heap.size W W') : OutC w w0 W' b c s served F d := by
  have z := h.md.2.size
  have z2 := hb.size
  refine ⟨h.bel, ⟨(h.md.1.below hb).mono (fun k hk => hk.imp id fun hk => ⟨hk.1, by omega⟩) ?_, h.md.2.then_below hb⟩, h.box.below hb, h.res.below hb, h.old, h.two⟩
  intro k hk
  rcases hk with hk | hk
  · have := h.old k hk; have := h.bel.size; omega
  · exact hk.2
theorem OutC.out (h : OutC w w0 W b c s served F d) : W.cell? ⟨w.heap.size + 1, 0, none⟩ = some (.int .i64 0) ∧ W.cell? ⟨w.heap.size + 1, 1, none⟩ = some (.slice none 0 0) ∧ W.cell? ⟨w.heap.size + 1, 2, none⟩ = some (.int .i64 0) ∧ W.cell? ⟨w.heap.size + 1, 3, none⟩ = some (.int .u64 0) ∧
    W.frozen? ⟨w.heap.size + 1, 0, none⟩ = false ∧ W.frozen? ⟨w.heap.size + 1, 1, none⟩ = false ∧ W.frozen? ⟨w.heap.size + 1, 2, none⟩ = false ∧ W.frozen? ⟨w.heap.size + 1, 3, none⟩ = false ∧ w.heap.size + 1 < W.heap.size :=
  ⟨h.res.cell 0, h.res.cell 1, h.res.cell 2, h.res.cell 3, h.res.frozen 0, h.res.frozen 1, h.res.frozen 2, h.res.frozen 3, h.res.lt⟩
theorem OutC.refused {w4 : World} (h : OutC w w0 W b c s served F d) (hb : Below W.heap.size W w4) (v0 v1 v2 v3 : Value) :
    MdPost b c s served F w ((((w4.setCell ⟨w.heap.size + 1, 0, none⟩ v0).setCell ⟨w.heap.size + 1, 1, none⟩ v1).setCell ⟨w.heap.size + 1, 2, none⟩ v2).setCell ⟨w.heap.size + 1, 3, none⟩ v3) := by
  have I := h.below hb
  have hm : w.heap.size ≤ w.heap.size + 1 ∧ w.heap.size + 1 < w0.heap.size := ⟨Nat.le_succ _, h.two⟩
  have g0 : Fr (fun k => w.heap.size ≤ k ∧ k < w0.heap.size) w4 w4 := Fr.refl _ _
  have g1 := g0.setCell (a := ⟨w.heap.size + 1, 0, none⟩) (.inl hm) v0
  have g2 := g1.setCell (a := ⟨w.heap.size + 1, 1, none⟩) (.inl hm) v1
  have g3 := g2.setCell (a := ⟨w.heap.size + 1, 2, none⟩) (.inl hm) v2
  have g4 := g3.setCell (a := ⟨w.heap.size + 1, 3, none⟩) (.inl hm) v3
  exact md_end h.old h.bel I.md g4
end
theorem MdR.nodup {w : World} {b sb lm : Nat} {c : Cfg} {s : SfS} {served : Int} {Fs F : Nat → Prop} (h : MdR w b sb lm c s served Fs F) : (s.fs.map (·.1)).Nodup := by
  have := h.lens.keys
  unfold lensV at this
  simpa [Function.comp_def] using this
theorem arrive_no {s : SfS} {p : Pk} (hn : (s.fs.map (·.1)).Nodup) (h : s.arriveE p ≠ 0) : lensV (s.arrive p) = lensV s := by
  unfold SfS.arriveE at h
  unfold SfS.arrive
  cases hg : getF s.fs p.flow with
  | none => rfl
  | some x =>
    rw [hg] at h
    simp only at h ⊢
    have hf : x.full = true := by
      cases hx : x.full with
      | true => rfl
      | false => rw [hx] at h; exact absurd rfl h
    refine lens_same hn hg ?_
    unfold FlS.arrive
    rw [if_pos hf]
theorem arrive_yes {s : SfS} {p : Pk} (h : s.arriveE p = 0) : ∃ x, getF s.fs p.flow = some x ∧ lensV (s.arrive p) = putM (lensV s) p.flow (.int .i64 ((x.l.length : Int) + 1)) ∧ x.full = false := by
  unfold SfS.arriveE at h
  unfold SfS.arrive
  cases hg : getF s.fs p.flow with
  | none => rw [hg] at h; exact absurd h (by decide)
  | some x =>
    rw [hg] at h
    simp only at h ⊢
    have hf : x.full = false := by
      cases hx : x.full with
      | false => rfl
      | true => rw [hx] at h; exact absurd h (by decide)
    refine ⟨x, rfl, ?_, hf⟩
    have hl : ((x.arrive s.v p).l.length : Int) = (x.l.length : Int) + 1 := by
      unfold FlS.arrive
      rw [if_neg (by simp [hf])]
      show ((x.l ++ [p]).length : Int) = _
      simp
    rw [← hl]
    exact (lens_set hg).symm
set_option maxHeartbeats 4000000 in
theorem enqueue_any (b : Nat) (c : Cfg) (s : SfS) (served : Int) (F : Nat → Prop) (d : CallS) (w : World) (h : MdAt w b c s served F) (ok : s.Ok) (hd : d.Ok) :
    Calls Tryz.prog 66 #[.pointer (some ⟨b, 0, none⟩), .agg #[.int .i64 d.op, .int .i64 d.flow, .int .i64 d.a, .int .i64 d.b]] w fun e w' => e = .returned (retE (s.enqE d)) ∧ MdPost b c (s.enq d) served F w w' := by
  obtain ⟨sb, lm, Fs, h⟩ := h
  have I := InC.start (d := d) h
  have C0 := within_any d.a 1 65536
  have hE : s.enqE d = (if inB d.a 1 65536 then s.arriveE ⟨d.flow, d.a, d.b⟩ else 3) := rfl
  have hT : s.enq d = (if inB d.a 1 65536 then s.arrive ⟨d.flow, d.a, d.b⟩ else s) := rfl
  have HE := Lib.hid hE
  have HT := Lib.hid hT
  clear hE hT h
  generalize s.enqE d = R at *
  generalize s.enq d = T at *
  go_enter Tryz.func66, Tryz.ntmps66
  go_upto_region 1 with fail
  generalize ((w.alloc (.cells #[.int .i64 d.op, .int .i64 d.flow, .int .i64 d.a, .int .i64 d.b] 40)).alloc (.cells #[.int .i64 0, .slice none 0 0, .int .i64 0, .int .u64 0] 38)) = W at *
  obtain ⟨q0, q1, q4, q5, q6, q7, hlt, z0, z1, z2, z3, hzl⟩ := I.cells
  have HI := Lib.hid I
  clear I
  go_wp2_with fail
  refine (C0 _).mono ?_
  rintro e w' ⟨rfl, rfl⟩
  generalize h0 : inB d.a 1 65536 = x0
  cases x0 with
  | false =>
    obtain rfl : R = 3 := by rw [HE.out, h0]; rfl
    obtain rfl : T = s := by rw [HT.out, h0]; rfl
    clear h0
    go_wp2_with fail
    refine (refused_any 3 _).mono ?_
    rintro e w4 ⟨rfl, hb4⟩
    obtain ⟨r0, r1, r2, r3, f0, f1, f2, f3, hrl⟩ := (HI.out.below hb4).out
    have HB4 := Lib.hid hb4
    clear hb4
    go_wp2
    refine bodyPost_ret (v := retE 3) (by simp [retE, results, Tryz.results66, go_sem, r0, r1, r2, r3, hrl]) rfl ⟨rfl, ?_⟩
    exact HI.out.refused HB4.out _ _ _ _
  | true =>
  obtain rfl : R = s.arriveE ⟨d.flow, d.a, d.b⟩ := by rw [HE.out, h0]; rfl
  obtain rfl : T = s.arrive ⟨d.flow, d.a, d.b⟩ := by rw [HT.out, h0]; rfl
  clear h0 HE HT
  have HNB : Hid (¬ Fs b) := Lib.hid (fun hk => (HI.out.md.sub b hk).2.1 rfl)
  have HNZ : Hid (¬ Fs w.heap.size) := Lib.hid (fun hk => by have := HI.out.old _ (HI.out.md.sub _ hk).1; omega)
  have HNR : Hid (¬ Fs (w.heap.size + 1)) := Lib.hid (fun hk => by have := HI.out.old _ (HI.out.md.sub _ hk).1; omega)
  have HI1 : Hid (InC w W.drew b sb lm c s served Fs F d) := Lib.hid (HI.out.below (Below.refl _ _).drew)
  have hS : W.drew.cell? ⟨b, 5, none⟩ = some (.pointer (some ⟨sb, 0, none⟩)) ∧ W.drew.cell? ⟨w.heap.size, 1, none⟩ = some (.int .i64 d.flow) ∧ W.drew.cell? ⟨w.heap.size, 2, none⟩ = some (.int .i64 d.a) ∧ W.drew.cell? ⟨w.heap.size, 3, none⟩ = some (.int .i64 d.b) := ⟨q5, z1, z2, z3⟩
  have hpk : (Pk.mk d.flow d.a d.b).Ok := ⟨hd.flow, hd.a, hd.b⟩
  have CA := arriveS_any sb s Fs ⟨d.flow, d.a, d.b⟩ _ HI1.out.md.sfq ok hpk
  have HA := Lib.hid CA
  clear CA q0 q1 q4 q5 q6 q7 z0 z1 z2 z3 C0
  go_upto_region 3 with fail
  go_region_held3 (fun w' => w'.cell? ⟨b, 5, none⟩ = some (.pointer (some ⟨sb, 0, none⟩)) ∧ w'.cell? ⟨w.heap.size, 1, none⟩ = some (.int .i64 d.flow) ∧ w'.cell? ⟨w.heap.size, 2, none⟩ = some (.int .i64 d.a) ∧ w'.cell? ⟨w.heap.size, 3, none⟩ = some (.int .i64 d.b)) (first | exact hS | exact ⟨(HI1.out.md.blk.fr hp.2 HNB.out).cell 5, (HI1.out.box.fr hp.2 HNZ.out).cell 1, (HI1.out.box.fr hp.2 HNZ.out).cell 2, (HI1.out.box.fr hp.2 HNZ.out).cell 3⟩)
    (first | (go_at_call 101; refine HA.out.mono ?_; rintro e w3 ⟨rfl, hp⟩))
  have hO : ∀ {s'}, MdPost b c s' served F W.drew w3 → OutC w W.drew w3 b c s' served F d := fun hm => ⟨HI1.out.bel, hm, HI1.out.box.fr hp.2 HNZ.out, HI1.out.res.fr hp.2 HNR.out, HI1.out.old, HI1.out.res.lt⟩
  by_cases hE : s.arriveE ⟨d.flow, d.a, d.b⟩ = 0
  · obtain ⟨x, hx, hln, hfu⟩ := arrive_yes hE
    have e2 : (s.arriveE ⟨d.flow, d.a, d.b⟩ != 0) = false := by simp [hE]
    have HM := Lib.hid (HI1.out.md.map1 hp)
    have hllm := HI1.out.old lm HI1.out.md.hl
    have hxl : (x.l.length : Int) ≤ 8 := by
      have hxo : x.Ok := ok.fs _ (getF_mem hx)
      have := hxo.len
      have := hxo.m8
      omega
    have BL3 := HI1.out.md.blk.fr hp.2 HNB.out
    have C3 := HI1.out.box.fr hp.2 HNZ.out
    have R3 := HI1.out.res.fr hp.2 HNR.out
    have HP := Lib.hid hp
    have y0 : w3.cell? ⟨b, 6, none⟩ = some (.map (some lm)) := BL3.cell 6
    have hcc : w3.cell? ⟨w.heap.size, 1, none⟩ = some (.int .i64 d.flow) := C3.cell 1
    have HBL := Lib.hid BL3
    have HC3 := Lib.hid C3
    have HR3 := Lib.hid R3
    have HX := Lib.hid hx
    have HLN := Lib.hid hln
    have hnl : lm ≠ b := fun e => HI1.out.md.ne e.symm
    have hlk : (Instr.lookup 107 (.map (some lm)) (.int .i64 d.flow) false).run Tryz.prog w3.drew = .ok (.int .i64 x.l.length) w3.drew := by
      have := run_lookupP (w := w3.drew) intKey under_lens (zero_int w3.drew) (HM.out.of_eq rfl) d.flow
      rw [getM_lens, HX.out] at this
      exact this
    have HE1 := Lib.hid hE
    clear BL3 C3 R3 hp hS hx hln hO hE
    have e1 : Value.int .i64 (IntKind.i64.wrap ((x.l.length : Int) + 1)) = .int .i64 ((x.l.length : Int) + 1) := by rw [IntWalk.i64_left, IntWalk.wrap64_in _ (by omega)]
    obtain ⟨w5, hup, hm5, hg5'⟩ := run_updateP intKey under_lens (show IsMapP w3.drew lm (Value.int .i64) (lensV s) from HM.out.of_eq rfl) d.flow (.int .i64 ((x.l.length : Int) + 1))
    have hg5 : w3.grownBy w5 (some lm) := ⟨hg5'.os, hg5'.tape, hg5'.output, hg5'.size, hg5'.block⟩
    go_upto_region 6 with fail
    go_region
    have p5 : MdPost b c (s.arrive ⟨d.flow, d.a, d.b⟩) served F W.drew w5 := md_turn HI1.out.md HP.out hg5 (by rw [HLN.out]; exact hm5)
    have hT : OutC w W.drew w5 b c (s.arrive ⟨d.flow, d.a, d.b⟩) served F d := ⟨HI1.out.bel, p5, HC3.out.grown hg5 (by intro e; cases e; omega), HR3.out.grown hg5 (by intro e; cases e; omega), HI1.out.old, HI1.out.res.lt⟩
    have HT := Lib.hid hT
    obtain ⟨r0, r1, r2, r3, f0, f1, f2, f3, hrl⟩ := HT.out.out
    clear hT p5 hg5 hg5' hm5 y0 hcc e1 hlk
    go_wp2
    refine bodyPost_ret (v := retE 0) (by simp [retE, results, Tryz.results66, go_sem, r0, r1, r2, r3, hrl]) rfl ⟨by rw [HE1.out], ?_⟩
    exact HT.out.refused (Below.refl _ _) _ _ _ _
  · have e2 : (s.arriveE ⟨d.flow, d.a, d.b⟩ != 0) = true := by simpa using hE
    have hT : OutC w W.drew w3 b c (s.arrive ⟨d.flow, d.a, d.b⟩) served F d := hO (md_turn0 HI1.out.md hp (arrive_no HI1.out.md.nodup hE))
    have HT := Lib.hid hT
    clear hT hO hp hE hS
    go_wp2_with fail
    refine (refused_any (s.arriveE ⟨d.flow, d.a, d.b⟩) _).mono ?_
    rintro e w4 ⟨rfl, hb4⟩
    obtain ⟨r0, r1, r2, r3, f0, f1, f2, f3, hrl⟩ := (HT.out.below hb4).out
    have HB4 := Lib.hid hb4
    clear hb4
    go_wp2
    refine bodyPost_ret (v := retE (s.arriveE ⟨d.flow, d.a, d.b⟩)) (by simp [retE, results, Tryz.results66, go_sem, r0, r1, r2, r3, hrl]) rfl ⟨rfl, ?_⟩
    exact HT.out.refused HB4.out _ _ _ _
end Go.Proofs.YtdjooacjjnjfmaaGreat
end

-- The model: each packet names its flow; what serving does to the lengths.
section
namespace Go.Proofs.YtdjooacjjnjfmaaGreat
set_option linter.unusedVariables false
set_option linter.unusedSimpArgs false
set_option maxRecDepth 20000
open Go.RowKit Go.Proofs.YtdjooacjjnjfmaaGreatMem Go.Proofs.YtdjooacjjnjfmaaGreatMapK

def SfS.Tagged (s : SfS) : Prop := ∀ e ∈ s.fs, ∀ p ∈ e.2.l, p.flow = e.1
theorem SfS.Tagged.new : SfS.new.Tagged := fun e he => by cases he
theorem SfS.Tagged.add {s : SfS} (h : s.Tagged) (id r m : Int) : (s.add id r m).Tagged := by
  unfold SfS.add
  split
  · exact h
  · intro e he
    rcases List.mem_append.1 he with he | he
    · exact h e he
    · simp only [List.mem_singleton] at he
      subst he
      intro p hp
      cases hp
theorem setF_tag {s : SfS} (h : s.Tagged) {id v most : Int} {x y : FlS} (hg : getF s.fs id = some x) (hy : ∀ p ∈ y.l, p ∈ x.l ∨ p.flow = id) : SfS.Tagged ⟨v, most, setF s.fs id y⟩ := by
  intro e he p hp
  rcases setF_mem he with rfl | he
  · rcases hy p hp with hp | hp
    · exact h (id, x) (getF_mem hg) p hp
    · exact hp
  · exact h e he p hp
theorem SfS.Tagged.arrive {s : SfS} (h : s.Tagged) (p : Pk) : (s.arrive p).Tagged := by
  unfold SfS.arrive
  cases hg : getF s.fs p.flow with
  | none => exact h
  | some x =>
    refine setF_tag h hg fun q hq => ?_
    unfold FlS.arrive at hq
    split at hq
    · exact .inl hq
    · rcases List.mem_append.1 (show q ∈ x.l ++ [p] from hq) with hq | hq
      · exact .inl hq
      · simp only [List.mem_singleton] at hq; subst hq; exact .inr rfl
theorem SfS.Tagged.remove {s : SfS} (h : s.Tagged) (id : Int) : (s.remove id).Tagged := by
  unfold SfS.remove
  split
  · exact h
  · split
    · exact fun e he => h e (List.mem_filter.1 he).1
    · exact h
theorem FlS.serve_sub (x : FlS) : ∀ p ∈ x.serve.l, p ∈ x.l := by
  intro p hp
  unfold FlS.serve at hp
  cases hl : x.l with
  | nil => rw [hl] at hp; simp only at hp; rw [hl] at hp; exact hp
  | cons q r => rw [hl] at hp; exact List.mem_cons_of_mem _ hp
theorem SfS.Tagged.serve {s : SfS} (h : s.Tagged) : s.serve.Tagged := by
  unfold SfS.serve
  split
  · exact h
  · cases hg : getF s.fs s.first.2 with
    | none => exact h
    | some x => exact setF_tag h hg fun q hq => .inl (FlS.serve_sub x q hq)
theorem SfS.Tagged.reg {s : SfS} (h : s.Tagged) (c : Cfg) (d : CallS) : (s.reg c d).Tagged := by
  unfold SfS.reg
  split
  · exact h.add _ _ _
  · exact h
theorem SfS.Tagged.enq {s : SfS} (h : s.Tagged) (d : CallS) : (s.enq d).Tagged := by
  unfold SfS.enq
  split
  · exact h.arrive _
  · exact h
theorem tag_bat : ∀ (k : Nat) {m : MdS} (ps : List Pk) (h : m.s.Tagged), (m.bat k ps).1.s.Tagged
  | 0, m, ps, h => h
  | k + 1, m, ps, h => by
    unfold MdS.bat
    split
    · exact tag_bat k _ h.serve
    · exact h.serve
theorem SfS.Tagged.doo {m : MdS} (h : m.s.Tagged) (c : Cfg) (d : CallS) : (m.doo c d).1.s.Tagged := by
  unfold MdS.doo
  split
  · exact h.reg c d
  split
  · exact h.remove _
  split
  · exact h.enq _
  split
  · exact h.serve
  split
  · split
    · exact tag_bat _ _ h
    · exact h
  split
  · exact h
  · exact h
theorem has_get {s : SfS} (hn : (s.fs.map (·.1)).Nodup) (h : s.has = true) : entL s.fs ≠ [] ∧ ∃ x, getF s.fs s.first.2 = some x ∧ x.has = true := by
  have hne : entL s.fs ≠ [] := by
    intro e
    unfold SfS.has at h
    rw [e] at h
    cases h
  obtain ⟨e, he, h1, h2⟩ := entL_mem (minK_isFirst hne).1
  refine ⟨hne, e.2, ?_, h1⟩
  have h3 : s.first.2 = e.1 := by unfold SfS.first; rw [h2]
  rw [h3]
  exact (getF_iff hn).2 he
theorem serve_no {s : SfS} (h : s.has = false) : lensV s.serve = lensV s := by
  have hne : entL s.fs = [] := by
    unfold SfS.has at h
    cases he : entL s.fs with
    | nil => rfl
    | cons a l => rw [he] at h; cases h
  unfold SfS.serve
  rw [if_pos hne]
  rfl
theorem serve_yes {s : SfS} (hn : (s.fs.map (·.1)).Nodup) (ht : s.Tagged) (h : s.has = true) :
    ∃ x, getF s.fs s.head.flow = some x ∧ lensV s.serve = putM (lensV s) s.head.flow (.int .i64 ((x.l.length : Int) - 1)) ∧ 1 ≤ x.l.length := by
  obtain ⟨hne, x, hg, hx⟩ := has_get hn h
  cases hl : x.l with
  | nil => unfold FlS.has at hx; rw [hl] at hx; cases hx
  | cons q r =>
    have hh : s.head = q := by
      unfold SfS.head
      rw [if_neg hne, hg]
      show x.head = q
      unfold FlS.head
      rw [hl]
    have hf : q.flow = s.first.2 := ht (s.first.2, x) (getF_mem hg) q (by show q ∈ x.l; rw [hl]; exact List.mem_cons_self)
    rw [hh, hf]
    have hs : x.serve.l = r := by unfold FlS.serve; rw [hl]
    refine ⟨x, hg, ?_, by rw [hl]; simp⟩
    have hl2 : ((x.l.length : Int) - 1) = (x.serve.l.length : Int) := by rw [hs, hl]; simp
    unfold SfS.serve
    rw [if_neg hne, hg, hl2]
    exact (lens_set hg).symm
end Go.Proofs.YtdjooacjjnjfmaaGreat
end
