/- A number as a map's key. -/
import Derived.Test.YtfgfjnlkgadkhaaMapK
import Derived.Test.YtfgfjnlkgadkhaaChecked
import Derived.Laws.StructEq
import Derived.Laws.Cover2
import Derived.KernelRfl
namespace Go.Proofs.Ytfgfjnlkgadkhaa
set_option linter.unusedVariables false
set_option linter.unusedSimpArgs false
open Go Go.Proofs.YtfgfjnlkgadkhaaMapK

theorem check_intK (e : Bool) (v : Int) (w : World) : (Instr.checkKey e 10000 3 (.int .i64 v)).run Try.prog w = .ok () w := by
  rw [show (10000 : Nat) = 9999 + 1 from rfl]
  unfold Instr.checkKey
  simp [run_underlying Try.underlying3, Result.andThen]
theorem now_int (k : Int) : ∀ (es : List MapEntry) (ks : List Int) (i : Nat), es.map (·.key) = ks.map (Value.int .i64) →
    Instr.findNow (.int .i64) (.int .i64 k) es i = some (findP k ks es i) := by
  intro es
  induction es with
  | nil => intro ks i h; cases ks <;> first | rfl | simp at h
  | cons e es ih =>
    intro ks i h
    cases ks with
    | nil => simp at h
    | cons k' ks =>
      simp only [List.map_cons, List.cons.injEq] at h
      have ih' := ih ks (i + 1) h.2
      simp only [Instr.findNow, h.1, findP]
      by_cases hk : k = k'
      · simp [hk, Instr.sameNow]
      · have hk2 : (k == k') = false := by simpa using hk
        simp [hk, hk2, Instr.sameNow, ih']
theorem find_int (k : Int) (es : List MapEntry) (ks : List Int) (w : World) (h : es.map (·.key) = ks.map (Value.int .i64)) : (Instr.findKey 3 (.int .i64 k) es).run Try.prog w = .ok (findP k ks es 0) w := by
  simp only [Instr.findKey, Sem.run_bind, run_underlying Try.underlying3, Result.andThen, now_int k es ks 0 h]
  rfl
theorem intKey : KeyT Try.prog 3 (Value.int .i64) :=
  ⟨fun e k w => check_intK e k w, fun k => by simp [Instr.sameBits], fun k es ks w h => find_int k es ks w h⟩
end Go.Proofs.Ytfgfjnlkgadkhaa
