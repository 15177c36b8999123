/- A place in memory (api.Loc) as a map's key. -/
import Derived.Test.YtkhhjjjpbfnlmaaMapK
import Derived.Test.YtkhhjjjpbfnlmaaChecked
import Derived.Laws.StructEq
import Derived.Laws.Cover2
import Derived.KernelRfl
namespace Go.Proofs.Ytkhhjjjpbfnlmaa
set_option linter.unusedVariables false
set_option linter.unusedSimpArgs false
open Go Go.Proofs.YtkhhjjjpbfnlmaaMapK

structure LocS where
  kind : Int
  a : Int
  b : Int
  deriving DecidableEq
def LocS.val (x : LocS) : Value := .agg #[.int .i64 x.kind, .int .i64 x.a, .int .i64 x.b]
theorem LocS.ext_iff' (x y : LocS) : x = y ↔ x.kind = y.kind ∧ x.a = y.a ∧ x.b = y.b := by
  cases x; cases y; simp

theorem eq_loc (x y : LocS) (w : World) : (Op.equal 34 x.val y.val).run Try.prog w = .ok (decide (x = y)) w := by
  have u3 := Try.underlying3
  have a3 := Try.isAgg3
  have z3 := Try.sizeOf3
  have hS : Try.prog.underlying 34 = some (.struct (Try.prog.fieldsOf 34)) := by kernel_rfl
  have hp : Try.prog.stoodInHeld 34 = false := by kernel_rfl
  unfold Op.equal LocS.val
  rw [show Op.maxDepth = 9999 + 1 from rfl, run_equalIn_agg w 9999 34 _ _ hS hp]
  simp only [Program.fieldsOf, Try.underlying34]
  go_simp
  by_cases h1 : x.kind = y.kind <;> by_cases h2 : x.a = y.a <;> by_cases h3 : x.b = y.b <;> simp [h1, h2, h3, LocS.ext_iff']

theorem check_int (e : Bool) (v : Int) (w : World) : (Instr.checkKey e 9999 3 (.int .i64 v)).run Try.prog w = .ok () w := by
  rw [show (9999 : Nat) = 9998 + 1 from rfl]
  unfold Instr.checkKey
  simp [run_underlying Try.underlying3, Result.andThen]

theorem check_loc (e : Bool) (x : LocS) (w : World) : (Instr.checkKey e 10000 34 x.val).run Try.prog w = .ok () w := by
  have u3 := Try.underlying3
  have a3 := Try.isAgg3
  have z3 := Try.sizeOf3
  have hS : Try.prog.underlying 34 = some (.struct (Try.prog.fieldsOf 34)) := by kernel_rfl
  unfold LocS.val
  rw [show (10000 : Nat) = 9999 + 1 from rfl]
  unfold Instr.checkKey
  simp only [Program.fieldsOf, Try.underlying34]
  go_simp
  simp only [check_int, Result.andThen]

theorem LocS.val_inj {x y : LocS} (h : x.val = y.val) : x = y := by
  unfold LocS.val at h
  simp at h
  rw [LocS.ext_iff']; exact h

theorem asking_loc (k : LocS) : ∀ (es : List MapEntry) (ks : List LocS) (i : Nat) (w : World), es.map (·.key) = ks.map LocS.val →
    (Instr.findAsking 34 k.val es i).run Try.prog w = .ok (findP k ks es i) w := by
  intro es
  induction es with
  | nil => intro ks i w h; cases ks <;> first | rfl | simp at h
  | cons e es ih =>
    intro ks i w h
    cases ks with
    | nil => simp at h
    | cons k' ks =>
      simp only [List.map_cons, List.cons.injEq] at h
      simp only [Instr.findAsking, Sem.run_bind, h.1, eq_loc, Result.andThen, findP]
      by_cases hk : k = k'
      · simp [hk]
      · simp [hk]; exact ih ks (i + 1) w h.2

theorem find_loc (k : LocS) (es : List MapEntry) (ks : List LocS) (w : World) (h : es.map (·.key) = ks.map LocS.val) : (Instr.findKey 34 k.val es).run Try.prog w = .ok (findP k ks es 0) w := by
  have hS : Try.prog.underlying 34 = some (.struct (Try.prog.fieldsOf 34)) := by kernel_rfl
  cases es with
  | nil =>
    cases ks with
    | nil => simp [Instr.findKey, run_underlying hS, Instr.findNow, findP, Result.andThen]
    | cons _ _ => simp at h
  | cons e es =>
    have hn : Instr.findNow (.struct (Try.prog.fieldsOf 34)) k.val (e :: es) 0 = none := by
      simp [Instr.findNow, Instr.sameNow]
    simp only [Instr.findKey, Sem.run_bind, run_underlying hS, Result.andThen, hn]
    exact asking_loc k (e :: es) ks 0 w h

theorem locKey : KeyT Try.prog 34 LocS.val :=
  ⟨fun e k w => check_loc e k w, fun k => by simp [Instr.sameBits, LocS.val], fun k es ks w h => find_loc k es ks w h⟩
end Go.Proofs.Ytkhhjjjpbfnlmaa
