/- Maps that the call itself made, as lists of pairs in the order in which they came: looked up, written, an entry taken and written. For any kind of key of which two are told apart by the model's own '=='. Over any program. -/
import Derived.WalkKit
import Derived.ChangeMaps5
import Derived.Maps.Own
import Derived.Lib.Hide
namespace Go.Proofs.YtfgfjnlkgadkhaaMapK
set_option linter.unusedVariables false
set_option linter.unusedSimpArgs false
set_option linter.unusedSectionVars false
open Go

/-- Where a key stands among the entries. -/
def findP {κ : Type} [DecidableEq κ] (k : κ) : List κ → List MapEntry → Nat → Option (Nat × Value)
  | k' :: ks, e :: es, i => if k = k' then some (i, e.val) else findP k ks es (i + 1)
  | _, _, _ => none

/-- A kind of key. -/
structure KeyT (P : Program) (kt : TypeId) {κ : Type} [DecidableEq κ] (kv : κ → Value) : Prop where
  check : ∀ (e : Bool) k w, (Instr.checkKey e 10000 kt (kv k)).run P w = .ok () w
  same : ∀ k, Instr.sameBits 10000 (kv k) (kv k) = true
  find : ∀ k (es : List MapEntry) (ks : List κ) w, es.map (·.key) = ks.map kv → (Instr.findKey kt (kv k) es).run P w = .ok (findP k ks es 0) w

/-- A map as a list of pairs, no key twice. -/
def getM {κ : Type} [DecidableEq κ] (m : List (κ × Value)) (k : κ) : Option Value := (m.find? fun p => p.1 = k).map (·.2)
def putM {κ : Type} [DecidableEq κ] (m : List (κ × Value)) (k : κ) (v : Value) : List (κ × Value) :=
  if (getM m k).isSome then m.map fun p => if p.1 = k then (k, v) else p else m ++ [(k, v)]

section
variable {κ : Type} [DecidableEq κ]
theorem getM_nil (k : κ) : getM ([] : List (κ × Value)) k = none := rfl
theorem getM_none {m : List (κ × Value)} {k : κ} : getM m k = none ↔ ∀ p ∈ m, p.1 ≠ k := by
  simp [getM]
theorem getM_append {m l : List (κ × Value)} {k : κ} : getM (m ++ l) k = (getM m k).or (getM l k) := by
  simp only [getM, List.find?_append]
  cases m.find? (fun p => decide (p.1 = k)) <;> simp
theorem getM_put (m : List (κ × Value)) (k k' : κ) (v : Value) : getM (putM m k v) k' = if k' = k then some v else getM m k' := by
  unfold putM
  split
  · rename_i h
    induction m with
    | nil => simp [getM] at h
    | cons p m ih =>
      by_cases hp : p.1 = k
      · by_cases hk : k' = k
        · subst hk; simp [getM, hp]
        · have : ¬ (k = k') := fun e => hk e.symm
          have ih' : getM (m.map fun p => if p.1 = k then (k, v) else p) k' = getM m k' := by
            clear ih h
            induction m with
            | nil => rfl
            | cons q m ih2 =>
              simp only [getM, List.map_cons, List.find?_cons] at ih2 ⊢
              by_cases hq : q.1 = k
              · have h2 : ¬ q.1 = k' := fun e => hk (e.symm.trans hq)
                simp only [hq, if_true, this, decide_false, h2] ; exact ih2
              · simp only [hq, if_false]
                by_cases hq2 : q.1 = k'
                · simp [hq2]
                · simp only [hq2, decide_false]; exact ih2
          have h3 : ¬ p.1 = k' := fun e => hk (e.symm.trans hp)
          simp only [getM, List.map_cons, hp, if_true, List.find?_cons, this, decide_false, h3, hk, if_false]
          exact ih'
      · have hm : (getM m k).isSome = true := by simpa [getM, hp] using h
        have ih := ih hm
        by_cases hpk : p.1 = k'
        · have hk : ¬ k' = k := fun e => hp (hpk.trans e)
          simp only [getM, List.map_cons, hp, if_false, List.find?_cons, hpk, decide_true, Option.map_some, hk]
        · simp only [getM, List.map_cons, hp, if_false, List.find?_cons, hpk, decide_false] at ih ⊢
          exact ih
  · rename_i h
    have hn : getM m k = none := by simpa using h
    rw [getM_append]
    by_cases hk : k' = k
    · subst hk; rw [hn]; simp [getM]
    · have : ¬ (k = k') := fun e => hk e.symm
      simp [getM, this, hk]

/-- The map at block b. -/
structure MapAt (w : World) (b : Nat) (kv : κ → Value) (m : List (κ × Value)) (es : Array MapEntry) (clock : Nat) : Prop where
  heap : w.heap[b]? = some (.map es clock)
  ents : es.toList.map (fun e => (e.key, e.val)) = m.map fun p => (kv p.1, p.2)
  keys : (m.map (·.1)).Nodup
  born : ∀ e ∈ es.toList, e.born < clock
  stamps : (es.toList.map (·.born)).Nodup
def IsMapAt (w : World) (b : Nat) (kv : κ → Value) (m : List (κ × Value)) : Prop := ∃ es clock, MapAt w b kv m es clock
theorem IsMapAt.lt {w : World} {b : Nat} {kv : κ → Value} {m : List (κ × Value)} (h : IsMapAt w b kv m) : b < w.heap.size := by
  obtain ⟨es, clock, h⟩ := h
  rcases Nat.lt_or_ge b w.heap.size with hlt | hge
  · exact hlt
  · have := h.heap; rw [Array.getElem?_eq_none hge] at this; cases this
theorem IsMapAt.of_eq {w w' : World} {b : Nat} {kv : κ → Value} {m : List (κ × Value)} (h : IsMapAt w b kv m) (e : w'.heap[b]? = w.heap[b]?) : IsMapAt w' b kv m := by
  obtain ⟨es, clock, h⟩ := h
  exact ⟨es, clock, e.trans h.heap, h.ents, h.keys, h.born, h.stamps⟩
theorem IsMapAt.made (w : World) (kv : κ → Value) : IsMapAt (w.alloc (.map #[] 0)) w.heap.size kv ([] : List (κ × Value)) :=
  ⟨#[], 0, heap_alloc_new w _, rfl, List.nodup_nil, (fun e he => by cases he), List.nodup_nil⟩

theorem MapAt.keyEq {w : World} {b : Nat} {kv : κ → Value} {m : List (κ × Value)} {es : Array MapEntry} {clock : Nat} (h : MapAt w b kv m es clock) : es.toList.map (·.key) = (m.map (·.1)).map kv := by
  have := congrArg (List.map Prod.fst) h.ents
  simpa [Function.comp_def] using this

theorem findP_spec (kv : κ → Value) (k : κ) : ∀ (es : List MapEntry) (m : List (κ × Value)) (i : Nat), es.map (fun e => (e.key, e.val)) = m.map (fun p => (kv p.1, p.2)) →
    (findP k (m.map (·.1)) es i = none ∧ getM m k = none) ∨ ∃ j v, findP k (m.map (·.1)) es i = some (i + j, v) ∧ getM m k = some v ∧ j < es.length ∧ m[j]? = some (k, v) := by
  intro es
  induction es with
  | nil =>
    intro m i h
    have hm : m = [] := by simpa using h.symm
    subst hm
    exact .inl ⟨rfl, rfl⟩
  | cons e es ih =>
    intro m i h
    cases m with
    | nil => simp at h
    | cons p m =>
      simp only [List.map_cons, List.cons.injEq, Prod.mk.injEq] at h
      by_cases hk : k = p.1
      · refine .inr ⟨0, p.2, ?_, ?_, by simp, ?_⟩
        · simp [findP, hk, h.1.2]
        · simp [getM, hk]
        · simp [hk]
      · have hk' : ¬ p.1 = k := fun e => hk e.symm
        rcases ih m (i + 1) h.2 with ⟨h1, h2⟩ | ⟨j, v, h1, h2, h3, h4⟩
        · exact .inl ⟨by simp [findP, hk, h1], by simpa [getM, hk'] using h2⟩
        · exact .inr ⟨j + 1, v, by simp only [findP, List.map_cons, hk, if_false, h1]; congr 2; omega, by simpa [getM, hk'] using h2, by simp; omega, by simpa using h4⟩
end

section
variable {κ : Type} [DecidableEq κ] {P : Program} {t kt et : TypeId} {kv : κ → Value} {w : World} {b : Nat} {m : List (κ × Value)}

theorem run_lookup (K : KeyT P kt kv) (ht : P.underlying t = some (.map kt et)) {z : Value} (hz : (zeroValue et).run P w = .ok z w) (h : IsMapAt w b kv m) (k : κ) :
    (Instr.lookup t (.map (some b)) (kv k) false).run P w = .ok ((getM m k).getD z) w := by
  obtain ⟨es, clock, h⟩ := h
  have hf := K.find k es.toList (m.map (·.1)) w h.keyEq
  rcases findP_spec kv k es.toList m 0 h.ents with ⟨h1, h2⟩ | ⟨j, v, h1, h2, h3, h4⟩
  · rw [h1] at hf
    rw [h2]
    simp [Instr.lookup, run_underlying ht, MapKept.run_getObj_map h.heap, K.check, hf, hz, Result.andThen]
  · rw [h1] at hf
    rw [h2]
    simp [Instr.lookup, run_underlying ht, MapKept.run_getObj_map h.heap, K.check, hf, Result.andThen]

theorem MapAt.pushed {es : Array MapEntry} {clock : Nat} (h : MapAt w b kv m es clock) (k : κ) (v : Value) (hn : getM m k = none) :
    MapAt (ChangeMaps.setBlock w b (.map (es.push ⟨kv k, v, clock⟩) (clock + 1))) b kv (m ++ [(k, v)]) (es.push ⟨kv k, v, clock⟩) (clock + 1) := by
  refine ⟨(MapKept.heap_set h.heap).1, by simp [h.ents], ?_, ?_, ?_⟩
  · simp only [List.map_append, List.map_cons, List.map_nil]
    rw [List.nodup_append]
    refine ⟨h.keys, by simp, ?_⟩
    intro a ha c hc
    simp only [List.mem_singleton] at hc
    subst hc
    obtain ⟨p, hp, rfl⟩ := List.mem_map.1 ha
    exact getM_none.1 hn p hp
  · intro e he
    simp only [Array.toList_push, List.mem_append, List.mem_singleton] at he
    rcases he with he | rfl
    · have := h.born e he; omega
    · show clock < clock + 1; omega
  · simp only [Array.toList_push, List.map_append, List.map_cons, List.map_nil]
    rw [List.nodup_append]
    refine ⟨h.stamps, by simp, ?_⟩
    intro a ha c hc
    simp only [List.mem_singleton] at hc
    subst hc
    obtain ⟨e, he, rfl⟩ := List.mem_map.1 ha
    have := h.born e he
    omega

theorem put_at {m : List (κ × Value)} {k : κ} {v v0 : Value} {j : Nat} (hj : m[j]? = some (k, v0)) (hn : (m.map (·.1)).Nodup) : putM m k v = m.set j (k, v) := by
  have hs : (getM m k).isSome = true := by
    cases hg : getM m k with
    | some _ => rfl
    | none => exact absurd rfl (getM_none.1 hg _ (List.mem_of_getElem? hj))
  unfold putM
  rw [if_pos hs]
  apply List.ext_getElem?
  intro i
  rw [List.getElem?_map, List.getElem?_set]
  have hjl : j < m.length := (List.getElem?_eq_some_iff.1 hj).1
  have hm := (List.getElem?_eq_some_iff.1 hj).2
  by_cases hij : j = i
  · subst hij; simp [hm, hjl]
  · simp only [hij, if_false]
    cases hi : m[i]? with
    | none => rfl
    | some p =>
      have hne : p.1 ≠ k := by
        intro e
        have hil : i < m.length := (List.getElem?_eq_some_iff.1 hi).1
        have e1 : (m.map (·.1))[i]? = some k := by simp [hi, e]
        have e2 : (m.map (·.1))[j]? = some k := by simp [hj]
        have := (List.getElem?_inj (by simpa using hjl) hn).1 (e2.trans e1.symm)
        exact hij this
      simp [hne]

theorem setBlock_grown {o : Obj} {o' : Obj} (hb : w.heap[b]? = some o) : w.grownBy (ChangeMaps.setBlock w b o') (some b) :=
  ⟨rfl, rfl, rfl, by simp [ChangeMaps.setBlock], fun k hk hne => (MapKept.heap_set hb).2 k (fun e => hne (by rw [e]))⟩

theorem MapAt.turned {es : Array MapEntry} {clock : Nat} (h : MapAt w b kv m es clock) {k : κ} {v v0 : Value} {j : Nat} (hj : m[j]? = some (k, v0)) :
    MapAt (ChangeMaps.setBlock w b (.map (es.modify j fun e => { e with key := kv k, val := v }) clock)) b kv (putM m k v) (es.modify j fun e => { e with key := kv k, val := v }) clock := by
  have hl : (es.modify j fun e => { e with key := kv k, val := v }).toList = es.toList.modify j fun e => { e with key := kv k, val := v } := by simp
  have hb : (es.toList.modify j fun e => { e with key := kv k, val := v }).map (·.born) = es.toList.map (·.born) := by
    apply List.ext_getElem?
    intro i
    simp only [List.getElem?_map, List.getElem?_modify]
    by_cases hij : j = i
    · simp only [hij, if_true]; cases es.toList[i]? <;> rfl
    · simp only [hij, if_false]; cases es.toList[i]? <;> rfl
  refine ⟨(MapKept.heap_set h.heap).1, ?_, ?_, ?_, ?_⟩
  · rw [hl, put_at hj h.keys]
    apply List.ext_getElem?
    intro i
    have he := congrArg (fun l => l[i]?) h.ents
    simp only [List.getElem?_map] at he
    simp only [List.getElem?_map, List.getElem?_modify, List.getElem?_set]
    have hjl : j < m.length := (List.getElem?_eq_some_iff.1 hj).1
    by_cases hij : j = i
    · subst hij
      rw [hj] at he
      simp only [if_true, hjl]
      cases hx : es.toList[j]? with
      | none => rw [hx] at he; simp at he
      | some x => simp
    · simp only [hij, if_false]
      cases hx : es.toList[i]? with
      | none => rw [hx] at he; simpa using he
      | some x => rw [hx] at he; simpa using he
  · rw [put_at hj h.keys]
    have : (m.set j (k, v)).map (·.1) = m.map (·.1) := by
      apply List.ext_getElem?
      intro i
      simp only [List.getElem?_map, List.getElem?_set]
      have hjl : j < m.length := (List.getElem?_eq_some_iff.1 hj).1
      have hm := (List.getElem?_eq_some_iff.1 hj).2
      by_cases hij : j = i
      · subst hij; simp [hm, hjl]
      · simp [hij]
    rw [this]; exact h.keys
  · intro e he
    rw [hl] at he
    have : e.born ∈ (es.toList.modify j fun e => { e with key := kv k, val := v }).map (·.born) := List.mem_map.2 ⟨e, he, rfl⟩
    rw [hb] at this
    obtain ⟨e', he', e2⟩ := List.mem_map.1 this
    have := h.born e' he'
    omega
  · rw [hl, hb]; exact h.stamps

theorem run_keep (K : KeyT P kt kv) (k : κ) : (Instr.keyThatStays (kv k) (kv k)).run P w = .ok (kv k) w := by
  simp [Instr.keyThatStays, K.same]

theorem run_update (K : KeyT P kt kv) (ht : P.underlying t = some (.map kt et)) (h : IsMapAt w b kv m) (k : κ) (v : Value) :
    ∃ w', (Instr.mapUpdate t (.map (some b)) (kv k) v).run P w = .ok () w' ∧ IsMapAt w' b kv (putM m k v) ∧ w.grownBy w' (some b) := by
  obtain ⟨es, clock, h⟩ := h
  have hf := K.find k es.toList (m.map (·.1)) w h.keyEq
  rcases findP_spec kv k es.toList m 0 h.ents with ⟨h1, h2⟩ | ⟨j, v0, h1, h2, h3, h4⟩
  · rw [h1] at hf
    have he : putM m k v = m ++ [(k, v)] := by unfold putM; rw [h2]; rfl
    rw [he]
    refine ⟨_, ?_, ⟨_, _, h.pushed k v h2⟩, setBlock_grown h.heap⟩
    simp [Instr.mapUpdate, run_underlying ht, MapKept.run_getObj_map h.heap, K.check, hf, MapKept.run_setObj_map _ h.heap, Result.andThen, ChangeMaps.setBlock]
  · rw [h1] at hf
    have hke : (es[0 + j]?.map (·.key)).getD (kv k) = kv k := by
      have he := congrArg (fun l => l[j]?) h.keyEq
      simp only [List.getElem?_map, h4, Option.map_some, Array.getElem?_toList] at he
      rw [Nat.zero_add]
      cases hx : es[j]? with
      | none => rfl
      | some x => rw [hx] at he; simpa using he
    refine ⟨_, ?_, ⟨_, _, h.turned h4⟩, setBlock_grown h.heap⟩
    have hkeep := run_keep (w := w) K k
    simp only [Nat.zero_add] at hf hke
    simp [Instr.mapUpdate, run_underlying ht, MapKept.run_getObj_map h.heap, K.check, hf, hke, hkeep, MapKept.run_setObj_map _ h.heap, Result.andThen, ChangeMaps.setBlock]

/-- An entry was taken: the map, and the stamp of the key's entry. -/
def EntAt (w : World) (b : Nat) (kv : κ → Value) (m : List (κ × Value)) (k : κ) (s : Nat) : Prop :=
  ∃ (es : Array MapEntry) (clock j : Nat) (v : Value), MapAt w b kv m es clock ∧ m[j]? = some (k, v) ∧ ∃ e : MapEntry, es[j]? = some e ∧ e.born = s
/-- The map in which the key's entry is there. -/
def withM (m : List (κ × Value)) (k : κ) (z : Value) : List (κ × Value) := if (getM m k).isSome then m else m ++ [(k, z)]
theorem EntAt.of_eq {w w' : World} {k : κ} {s : Nat} (h : EntAt w b kv m k s) (e : w'.heap[b]? = w.heap[b]?) : EntAt w' b kv m k s := by
  obtain ⟨es, clock, j, v, h, r⟩ := h
  exact ⟨es, clock, j, v, ⟨e.trans h.heap, h.ents, h.keys, h.born, h.stamps⟩, r⟩
theorem EntAt.isMap {w : World} {k : κ} {s : Nat} (h : EntAt w b kv m k s) : IsMapAt w b kv m := by
  obtain ⟨es, clock, j, v, h, r⟩ := h
  exact ⟨es, clock, h⟩

theorem run_entry (K : KeyT P kt kv) (ht : P.underlying t = some (.map kt et)) {z : Value} (hz : ∀ w, (zeroValue et).run P w = .ok z w) (h : IsMapAt w b kv m) (k : κ) :
    ∃ (w' : World) (s : Nat), (Instr.mapEntry t (.map (some b)) (kv k)).run P w = .ok (.tuple #[(getM m k).getD z, goInt s]) w' ∧ EntAt w' b kv (withM m k z) k s ∧ w.grownBy w' (some b) := by
  obtain ⟨es, clock, h⟩ := h
  have hf := K.find k es.toList (m.map (·.1)) w h.keyEq
  rcases findP_spec kv k es.toList m 0 h.ents with ⟨h1, h2⟩ | ⟨j, v0, h1, h2, h3, h4⟩
  · rw [h1] at hf
    have he : withM m k z = m ++ [(k, z)] := by unfold withM; rw [h2]; rfl
    rw [he, h2]
    refine ⟨_, clock, ?_, ⟨_, _, m.length, z, h.pushed k z h2, by simp, ⟨kv k, z, clock⟩, ?_, rfl⟩, setBlock_grown h.heap⟩
    · simp [Instr.mapEntry, run_underlying ht, MapKept.run_getObj_map h.heap, K.check, hf, hz, MapKept.run_setObj_map _ h.heap, Result.andThen, ChangeMaps.setBlock]
    · have hl : es.size = m.length := by have := congrArg List.length h.ents; simpa using this
      rw [← hl]; simp
  · rw [h1] at hf
    have he : withM m k z = m := by unfold withM; rw [h2]; rfl
    have hp : putM m k v0 = m := by
      rw [put_at h4 h.keys]
      apply List.ext_getElem?
      intro i
      rw [List.getElem?_set]
      have hjl : j < m.length := (List.getElem?_eq_some_iff.1 h4).1
      by_cases hij : j = i
      · subst hij; simp only [if_true, hjl]; exact h4.symm
      · simp [hij]
    have hx : ∃ x, es[j]? = some x ∧ x.key = kv k ∧ x.val = v0 := by
      have he := congrArg (fun l => l[j]?) h.ents
      simp only [List.getElem?_map, h4, Option.map_some, Array.getElem?_toList] at he
      cases hx : es[j]? with
      | none => rw [hx] at he; simp at he
      | some x => rw [hx] at he; simp at he; exact ⟨x, rfl, he.1, he.2⟩
    obtain ⟨x, hx, hx1, hx2⟩ := hx
    have hkeep := run_keep (w := w) K k
    simp only [Nat.zero_add] at hf
    have hmod : (es.modify j fun e => { e with key := kv k }) = es.modify j fun e => { e with key := kv k, val := v0 } := by
      apply Array.ext_getElem?
      intro i
      simp only [Array.getElem?_modify]
      by_cases hij : j = i
      · subst hij; simp [hx, hx2]
      · simp [hij]
    have ht2 := h.turned (v := v0) h4
    rw [he, h2]
    rw [hp] at ht2
    refine ⟨_, x.born, ?_, ⟨_, _, j, v0, ht2, h4, { x with key := kv k, val := v0 }, ?_, rfl⟩, setBlock_grown h.heap⟩
    · simp [Instr.mapEntry, run_underlying ht, MapKept.run_getObj_map h.heap, K.check, hf, hx, hx1, hkeep, MapKept.run_setObj_map _ h.heap, Result.andThen, ChangeMaps.setBlock, hmod]
    · simp [Array.getElem?_modify, hx]

theorem findIdx_stamp : ∀ (l : List MapEntry) (j : Nat) (e : MapEntry), l[j]? = some e → (l.map (·.born)).Nodup → l.findIdx? (fun x => (x.born : Int) == (e.born : Int)) = some j := by
  intro l
  induction l with
  | nil => intro j e h; simp at h
  | cons x l ih =>
    intro j e h hn
    simp only [List.map_cons, List.nodup_cons] at hn
    cases j with
    | zero => simp at h; subst h; simp [List.findIdx?_cons]
    | succ j =>
      simp at h
      have hne : x.born ≠ e.born := fun e1 => hn.1 (e1 ▸ List.mem_map.2 ⟨e, List.mem_of_getElem? h, rfl⟩)
      have hne' : ((x.born : Int) == (e.born : Int)) = false := by simp; omega
      rw [List.findIdx?_cons, hne']
      simp [ih j e h hn.2]

theorem run_entryStore {w : World} {k : κ} {s : Nat} (h : EntAt w b kv m k s) (v : Value) :
    ∃ w', (Instr.entryStore t (.map (some b)) (goInt s) v).run P w = .ok () w' ∧ IsMapAt w' b kv (putM m k v) ∧ w.grownBy w' (some b) := by
  obtain ⟨es, clock, j, v0, h, hj, e, he, hs⟩ := h
  have hf : es.findIdx? (fun x => (x.born : Int) == (s : Int)) = some j := by
    rw [← hs]
    have := findIdx_stamp es.toList j e (by simpa using he) h.stamps
    rw [← this]
    obtain ⟨l⟩ := es
    simp
  have hk : e.key = kv k := by
    have h2 := congrArg (fun l => l[j]?) h.ents
    simp only [List.getElem?_map, hj, Option.map_some, Array.getElem?_toList, he] at h2
    simp at h2; exact h2.1
  have hmod : (es.modify j fun e => { e with val := v }) = es.modify j fun e => { e with key := kv k, val := v } := by
    apply Array.ext_getElem?
    intro i
    simp only [Array.getElem?_modify]
    by_cases hij : j = i
    · subst hij; simp [he, hk]
    · simp [hij]
  refine ⟨_, ?_, ⟨_, _, h.turned (v := v) hj⟩, setBlock_grown h.heap⟩
  simp [Instr.entryStore, MapKept.run_getObj_map h.heap, hf, asInt, asIntOf, goInt, MapKept.run_setObj_map _ h.heap, Result.andThen, ChangeMaps.setBlock, hmod]
end
end Go.Proofs.YtfgfjnlkgadkhaaMapK
