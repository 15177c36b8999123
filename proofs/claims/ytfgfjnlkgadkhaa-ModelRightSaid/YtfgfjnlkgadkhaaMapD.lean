/- Maps that the call itself made, next: an entry is struck out. Over any program. -/
import Derived.Test.YtfgfjnlkgadkhaaMapK
import Derived.Test.YtfgfjnlkgadkhaaMem
namespace Go.Proofs.YtfgfjnlkgadkhaaMapK
set_option linter.unusedVariables false
set_option linter.unusedSimpArgs false
set_option linter.unusedSectionVars false
open Go

theorem erase_map {α β : Type} (f : α → β) : ∀ (l : List α) (j : Nat), (l.eraseIdx j).map f = (l.map f).eraseIdx j
  | [], _ => by simp
  | x :: l, 0 => rfl
  | x :: l, j + 1 => by simp [erase_map f l j]
section
variable {κ : Type} [DecidableEq κ] {P : Program} {t kt et : TypeId} {kv : κ → Value} {w : World} {b : Nat} {m : List (κ × Value)}
def delM (m : List (κ × Value)) (k : κ) : List (κ × Value) := m.filter fun p => decide (p.1 ≠ k)
theorem delM_none {m : List (κ × Value)} {k : κ} (h : getM m k = none) : delM m k = m := by
  unfold delM
  rw [List.filter_eq_self]
  intro p hp
  simpa using getM_none.1 h p hp
theorem delM_at : ∀ {m : List (κ × Value)} {k : κ} {v : Value} {j : Nat}, m[j]? = some (k, v) → (m.map (·.1)).Nodup → delM m k = m.eraseIdx j
  | [], _, _, _, h, _ => by simp at h
  | p :: m, k, v, 0, h, hn => by
    simp only [List.getElem?_cons_zero, Option.some.injEq] at h
    subst h
    simp only [List.map_cons, List.nodup_cons] at hn
    have : delM m k = m := by
      unfold delM
      rw [List.filter_eq_self]
      intro q hq
      have : q.1 ≠ k := fun e => hn.1 (List.mem_map.2 ⟨q, hq, e⟩)
      simpa using this
    simp only [delM, List.eraseIdx_cons_zero] at this ⊢
    rw [List.filter_cons_of_neg (by simp)]
    exact this
  | p :: m, k, v, j + 1, h, hn => by
    simp only [List.getElem?_cons_succ] at h
    simp only [List.map_cons, List.nodup_cons] at hn
    have ih := delM_at h hn.2
    have hp : p.1 ≠ k := fun e => hn.1 (e ▸ List.mem_map.2 ⟨(k, v), List.mem_of_getElem? h, rfl⟩)
    simp only [delM, List.eraseIdx_cons_succ] at ih ⊢
    rw [List.filter_cons_of_pos (by simpa using hp), ih]

theorem run_delete (K : KeyT P kt kv) (ht : P.underlying t = some (.map kt et)) (ty : TypeId) (h : IsMapAt w b kv m) (k : κ) :
    ∃ w', (Builtin.delete_ #[t, kt] ty #[.map (some b), kv k]).run P w = .ok (.tuple #[]) w' ∧ IsMapAt w' b kv (delM m k) ∧ w.grownBy w' (some b) := by
  obtain ⟨es, clock, h⟩ := h
  have hf := K.find k es.toList (m.map (·.1)) w h.keyEq
  rcases findP_spec kv k es.toList m 0 h.ents with ⟨h1, h2⟩ | ⟨j, v0, h1, h2, h3, h4⟩
  · rw [h1] at hf
    rw [delM_none h2]
    refine ⟨_, ?_, ⟨es, clock, (MapKept.heap_set h.heap).1, h.ents, h.keys, h.born, h.stamps⟩, setBlock_grown h.heap⟩
    simp [Builtin.delete_, run_underlying ht, MapKept.run_getObj_map h.heap, K.check, hf, MapKept.run_setObj_map _ h.heap, Result.andThen, ChangeMaps.setBlock]
  · rw [h1] at hf
    rw [delM_at h4 h.keys]
    simp only [Nat.zero_add] at hf
    have hjs : j < es.size := by simpa using h3
    have hsub : (es.eraseIdxIfInBounds j).toList = es.toList.eraseIdx j := by
      unfold Array.eraseIdxIfInBounds
      rw [dif_pos hjs]
      simp
    refine ⟨_, ?_, ⟨es.eraseIdxIfInBounds j, clock, (MapKept.heap_set h.heap).1, ?_, ?_, ?_, ?_⟩, setBlock_grown h.heap⟩
    · simp [Builtin.delete_, run_underlying ht, MapKept.run_getObj_map h.heap, K.check, hf, MapKept.run_setObj_map _ h.heap, Result.andThen, ChangeMaps.setBlock]
    · rw [hsub, erase_map, erase_map, h.ents]
    · rw [erase_map]; exact h.keys.sublist (List.eraseIdx_sublist _ _)
    · intro e he; rw [hsub] at he; exact h.born e ((List.eraseIdx_sublist _ _).subset he)
    · rw [hsub, erase_map]; exact h.stamps.sublist (List.eraseIdx_sublist _ _)

/-- 'delete(m, k)' at a plain region's list. -/
theorem wpList_deleteK {ops : Array Oper} {rest : List Oper} {o : Oper} {a : Act} {Q : Exit → Act → World → Prop} (hg : o.guard = none) (x y : Operand) (hop : o.op = Op.call { callee := Callee.builtin Builtin.delete, args := #[x, y], argTypes := #[t, kt] })
    (K : KeyT P kt kv) (ht : P.underlying t = some (.map kt et)) (k : κ) (hm : a.eval x = .map (some b)) (hk : a.eval y = kv k) (h : IsMapAt w b kv m)
    (hK : ∀ w', IsMapAt w' b kv (delM m k) → w.grownBy w' (some b) → wpList P ops Q rest (a.put o.dst (.tuple #[])) w') : wpList P ops Q (o :: rest) a w := by
  refine wpList_plain hg fun K' hK' => ?_
  obtain ⟨w', hrun, r1, r2⟩ := run_delete K ht o.type h k
  unfold Oper.wp
  simp [execOp, hop, resolve, invoke, builtin, hm, hk, hrun, Result.andThen]
  exact hK' _ _ (hK w' r1 r2)

/-- 'm[k] = v' at a step of a region that draws its order. -/
theorem step_updateK {ops : Array Oper} {o : Oper} {a : Act} {Q : Exit → Act → World → Prop} {C : Act → World → Prop} {Ep : Prop} (hg : o.guard = none) (x y z : Operand) (hop : o.op = Op.mapUpdate t x y z)
    (K : KeyT P kt kv) (ht : P.underlying t = some (.map kt et)) (k : κ) (v : Value) (hm : a.eval x = .map (some b)) (hk : a.eval y = kv k) (hv : a.eval z = v) (h : IsMapAt w b kv m)
    (hK : ∀ w', IsMapAt w' b kv (putM m k v) → w.grownBy w' (some b) → C (a.put o.dst undef) w') :
    if Region.wanted o (yielded ops a.tmps) = true then Oper.wp P o a w C Q else Ep := by
  rw [if_pos (by simp [Region.wanted, hg])]
  obtain ⟨w', hrun, r1, r2⟩ := run_update K ht h k v
  unfold Oper.wp
  simp [execOp, hop, hm, hk, hv, hrun, Result.andThen]
  exact hK w' r1 r2
end
end Go.Proofs.YtfgfjnlkgadkhaaMapK
