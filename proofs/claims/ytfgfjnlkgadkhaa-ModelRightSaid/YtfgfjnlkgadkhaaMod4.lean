/- The model: how many packets a flow has. -/
import Derived.Test.YtfgfjnlkgadkhaaMod2
namespace Go.Proofs.Ytfgfjnlkgadkhaa
set_option linter.unusedVariables false
set_option linter.unusedSimpArgs false
set_option maxRecDepth 20000
open Go.RowKit Go.Proofs.YtfgfjnlkgadkhaaMem Go.Proofs.YtfgfjnlkgadkhaaMapK

theorem run_lookup2 {κ : Type} [DecidableEq κ] {P : Program} {t kt et : TypeId} {kv : κ → Value} {w : World} {b : Nat} {m : List (κ × Value)} (K : KeyT P kt kv) (ht : P.underlying t = some (.map kt et)) {z : Value} (hz : (zeroValue et).run P w = .ok z w) (h : IsMapAt w b kv m) (k : κ) :
    (Instr.lookup t (.map (some b)) (kv k) true).run P w = .ok (.tuple #[(getM m k).getD z, .bool (getM m k).isSome]) w := by
  obtain ⟨es, clock, h⟩ := h
  have hf := K.find k es.toList (m.map (·.1)) w h.keyEq
  rcases findP_spec kv k es.toList m 0 h.ents with ⟨h1, h2⟩ | ⟨j, v, h1, h2, h3, h4⟩
  · rw [h1] at hf
    rw [h2]
    simp [Instr.lookup, run_underlying ht, MapKept.run_getObj_map h.heap, K.check, hf, hz, Result.andThen]
  · rw [h1] at hf
    rw [h2]
    simp [Instr.lookup, run_underlying ht, MapKept.run_getObj_map h.heap, K.check, hf, hz, Result.andThen]
def SfS.len (s : SfS) (id : Int) : Int := match getF s.fs id with | none => -1 | some x => x.l.length
theorem getM_lens (s : SfS) (id : Int) : getM (lensV s) id = (getF s.fs id).map fun x => .int .i64 x.l.length := by
  unfold lensV getF
  induction s.fs with
  | nil => rfl
  | cons e l ih =>
    rw [List.map_cons, List.find?_cons]
    by_cases h : e.1 = id
    · simp [getM, h]
    · have h2 : ¬ id = e.1 := fun e0 => h e0.symm
      simp [getM, h, h2] at ih ⊢
      exact ih
theorem under_lens : Try.prog.underlying 63 = some (.map 3 3) := Try.underlying63
theorem zero_int (w : World) : (zeroValue 3).run Try.prog w = .ok (.int .i64 0) w := by
  have := Try.underlying3
  rfl
set_option maxHeartbeats 1000000 in
theorem mdLen_any (b : Nat) (c : Cfg) (s : SfS) (served : Int) (F : Nat → Prop) (id : Int) (w : World) (h : MdAt w b c s served F) :
    Calls Try.prog 10 #[.pointer (some ⟨b, 0, none⟩), .int .i64 id] w fun e w' => e = .returned (.int .i64 (s.len id)) ∧ w = w' := by
  obtain ⟨sb, lm, Fs, h⟩ := h
  obtain ⟨q0, q1, q4, q5, q6, q7, hlt⟩ := h.cells
  have hk := run_lookup2 intKey under_lens (zero_int w) h.lens id
  rw [getM_lens] at hk
  unfold SfS.len
  clear h
  cases hg : getF s.fs id with
  | none =>
    rw [hg] at hk
    simp only [Option.map_none, Option.getD_none, Option.isSome_none] at hk
    go_enter Try.func10, Try.ntmps10
    go_wp2
    go_ret
    exact ⟨rfl, rfl⟩
  | some x =>
    rw [hg] at hk
    simp only [Option.map_some, Option.getD_some, Option.isSome_some] at hk
    go_enter Try.func10, Try.ntmps10
    go_wp2
    go_ret
    exact ⟨rfl, rfl⟩
end Go.Proofs.Ytfgfjnlkgadkhaa
