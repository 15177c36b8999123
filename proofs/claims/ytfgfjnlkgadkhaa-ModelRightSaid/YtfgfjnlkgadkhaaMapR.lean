/- Maps that the call itself made, walked by 'for k, v := range m': which pairs have come, in whatever order. Over any program. -/
import Derived.Test.YtfgfjnlkgadkhaaMapK
import Derived.Maps.RangeRun
namespace Go.Proofs.YtfgfjnlkgadkhaaMapK
set_option linter.unusedVariables false
set_option linter.unusedSimpArgs false
set_option linter.unusedSectionVars false
open Go
section
variable {κ : Type} [DecidableEq κ] {P : Program} {t kt et : TypeId} {kv : κ → Value} {w : World} {b r : Nat} {m : List (κ × Value)}
def StampOf (es : Array MapEntry) (m : List (κ × Value)) (p : κ × Value) (s : Nat) : Prop := ∃ (j : Nat) (e : MapEntry), es.toList[j]? = some e ∧ m[j]? = some p ∧ e.born = s
/-- The iterator at block r over the map at block b: the pairs 'done' have come. -/
def IterAt (w : World) (r b : Nat) (kv : κ → Value) (m done : List (κ × Value)) : Prop :=
  ∃ (es : Array MapEntry) (clock : Nat) (seen : Array Nat), MapAt w b kv m es clock ∧ w.heap[r]? = some (.mapIter (some b) clock seen clock) ∧ (done.map (·.1)).Nodup ∧ seen.size = done.length ∧
    (∀ s, s ∈ seen.toList ↔ ∃ p ∈ done, StampOf es m p s) ∧ ∀ p ∈ done, p ∈ m
theorem IterAt.seen {done : List (κ × Value)} (h : IterAt w r b kv m done) : (w.iterSeen r).size = done.length := by
  obtain ⟨es, clock, seen, h1, h2, h3, h4, h5, h6⟩ := h
  unfold World.iterSeen
  rw [h2]; exact h4
theorem IterAt.lt {done : List (κ × Value)} (h : IterAt w r b kv m done) : r < w.heap.size := by
  obtain ⟨es, clock, seen, h1, h2, -⟩ := h
  rcases Nat.lt_or_ge r w.heap.size with hlt | hge
  · exact hlt
  · rw [Array.getElem?_eq_none hge] at h2; cases h2
theorem IterAt.of_eq {w' : World} {done : List (κ × Value)} (h : IterAt w r b kv m done) (e : w'.heap[b]? = w.heap[b]?) (e2 : w'.heap[r]? = w.heap[r]?) : IterAt w' r b kv m done := by
  obtain ⟨es, clock, seen, h1, h2, h3⟩ := h
  exact ⟨es, clock, seen, ⟨e.trans h1.heap, h1.ents, h1.keys, h1.born, h1.stamps⟩, e2.trans h2, h3⟩
theorem iter_start (ht : P.underlying t = some (.map kt et)) (h : IsMapAt w b kv m) :
    ∃ w', (Instr.range t (.map (some b))).run P w = .ok (.pointer (some ⟨w.heap.size, 0, none⟩)) w' ∧ IterAt w' w.heap.size b kv m [] ∧ w.grownBy w' none ∧ w'.heap.size = w.heap.size + 1 := by
  have hlt := h.lt
  obtain ⟨es, clock, h⟩ := h
  refine ⟨_, run_range_map w t kt et b es clock ht h.heap, ⟨es, clock, #[], ⟨(heap_alloc_old _ _ hlt).trans h.heap, h.ents, h.keys, h.born, h.stamps⟩, heap_alloc_new _ _, List.nodup_nil, rfl, ?_, fun p hp => by cases hp⟩, World.grownBy_alloc w _ none, by simp⟩
  intro s; simp
theorem MapAt.pair {es : Array MapEntry} {clock : Nat} (h : MapAt w b kv m es clock) {j : Nat} {e : MapEntry} (hj : es.toList[j]? = some e) : ∃ p, m[j]? = some p ∧ e.key = kv p.1 ∧ e.val = p.2 := by
  have h1 := congrArg (fun l => l[j]?) h.ents
  simp only [List.getElem?_map, hj, Option.map_some] at h1
  cases hm : m[j]? with
  | none => rw [hm] at h1; cases h1
  | some p =>
    rw [hm] at h1
    simp only [Option.map_some, Option.some.injEq, Prod.mk.injEq] at h1
    exact ⟨p, rfl, h1.1, h1.2⟩
theorem MapAt.entry {es : Array MapEntry} {clock : Nat} (h : MapAt w b kv m es clock) {j : Nat} {p : κ × Value} (hj : m[j]? = some p) : ∃ e, es.toList[j]? = some e := by
  have h1 := congrArg (fun l => l[j]?) h.ents
  simp only [List.getElem?_map, hj, Option.map_some] at h1
  cases hm : es.toList[j]? with
  | none => rw [hm] at h1; cases h1
  | some e => exact ⟨e, rfl⟩
theorem nodup_at {l : List κ} (h : l.Nodup) {i j : Nat} {x : κ} (hi : l[i]? = some x) (hj : l[j]? = some x) : i = j := by
  rw [List.getElem?_eq_some_iff] at hi hj
  obtain ⟨h1, h2⟩ := hi
  obtain ⟨h3, h4⟩ := hj
  exact (List.getElem_inj h).1 (h2.trans h4.symm)
theorem nodup_atN {l : List Nat} (h : l.Nodup) {i j : Nat} {x : Nat} (hi : l[i]? = some x) (hj : l[j]? = some x) : i = j := by
  rw [List.getElem?_eq_some_iff] at hi hj
  obtain ⟨h1, h2⟩ := hi
  obtain ⟨h3, h4⟩ := hj
  exact (List.getElem_inj h).1 (h2.trans h4.symm)

theorem iter_next (ty : TypeId) {done : List (κ × Value)} (h : IterAt w r b kv m done) :
    ((∀ p ∈ m, p ∈ done) ∧ (Instr.next (.pointer (some ⟨r, 0, none⟩)) false ty).run P w = .ok (.tuple #[.bool false]) w) ∨
    ∃ p ∈ m, p.1 ∉ done.map (·.1) ∧ ∃ w', (Instr.next (.pointer (some ⟨r, 0, none⟩)) false ty).run P w = .ok (.tuple #[.bool true, kv p.1, p.2]) w' ∧
      (Instr.entry (.pointer (some ⟨r, 0, none⟩))).run P w' = .ok (.tuple #[kv p.1, p.2]) w' ∧ IterAt w' r b kv m (done ++ [p]) ∧ w.grownBy w' (some r) ∧ w'.heap.size = w.heap.size := by
  obtain ⟨es, clock, seen, h1, h2, h3, h4, h5, h6⟩ := h
  have hbr : b ≠ r := by intro e; subst e; rw [h1.heap] at h2; cases h2
  have hk : ∀ {i j : Nat} {p q : κ × Value}, m[i]? = some p → m[j]? = some q → p.1 = q.1 → i = j := by
    intro i j p q hi hj e
    have a1 : (m.map (·.1))[i]? = some p.1 := by rw [List.getElem?_map, hi]; rfl
    have a2 : (m.map (·.1))[j]? = some p.1 := by rw [List.getElem?_map, hj, e]; rfl
    exact nodup_at h1.keys a1 a2
  have hs : ∀ {i j : Nat} {p q : MapEntry}, es.toList[i]? = some p → es.toList[j]? = some q → p.born = q.born → i = j := by
    intro i j p q hi hj e
    have a1 : (es.toList.map (·.born))[i]? = some p.born := by rw [List.getElem?_map, hi]; rfl
    have a2 : (es.toList.map (·.born))[j]? = some p.born := by rw [List.getElem?_map, hj, e]; rfl
    exact nodup_atN h1.stamps a1 a2
  rcases run_next_at (P := P) w ty r b clock clock seen es clock h2 h1.heap h1.born (Nat.le_refl _) with ⟨h7, h8⟩ | ⟨e, he, w1, hw1, h8⟩
  · refine .inl ⟨fun p hp => ?_, h8⟩
    obtain ⟨j, hj⟩ := List.getElem?_of_mem hp
    obtain ⟨e, he⟩ := h1.entry hj
    have hem : e ∈ es.toList := List.mem_of_getElem? he
    by_cases hc : e.born ∈ seen.toList
    · obtain ⟨q, hq, j', e', he', hq', hb'⟩ := (h5 _).1 hc
      have := hs he he' hb'.symm
      subst this
      rw [hj] at hq'
      cases hq'
      exact hq
    · exfalso
      have : e ∈ (leftOf es seen).toList := by
        unfold leftOf
        simp only [Array.toList_filter, List.mem_filter]
        refine ⟨hem, ?_⟩
        simpa using hc
      have h0 : leftOf es seen = #[] := by simpa using h7
      rw [h0] at this
      cases this
  · right
    have hmem : e ∈ es.toList ∧ e.born ∉ seen.toList := by
      unfold leftOf at he
      simp only [Array.toList_filter, List.mem_filter] at he
      exact ⟨he.1, by simpa using he.2⟩
    obtain ⟨j, hj⟩ := List.getElem?_of_mem hmem.1
    obtain ⟨p, hp, k1, k2⟩ := h1.pair hj
    have hw : w1.heap = w.heap := by rcases hw1 with rfl | rfl <;> rfl
    have hr1 : w1.heap[r]? = some (.mapIter (some b) clock seen clock) := by rw [hw]; exact h2
    have hnd : p.1 ∉ done.map (·.1) := by
      intro hin
      obtain ⟨q, hq, e1⟩ := List.mem_map.1 hin
      obtain ⟨i, hi⟩ := List.getElem?_of_mem (h6 q hq)
      have := hk hi hp e1
      subst this
      rw [hp] at hi
      cases hi
      exact hmem.2 ((h5 _).2 ⟨p, hq, i, e, hj, hp, rfl⟩)
    have hg1 : w1.grownBy (ChangeMaps.setBlock w1 r (.mapIter (some b) clock (seen.push e.born) clock)) (some r) := setBlock_grown hr1
    have hg : w.grownBy (ChangeMaps.setBlock w1 r (.mapIter (some b) clock (seen.push e.born) clock)) (some r) := by
      rcases hw1 with rfl | rfl
      · exact hg1
      · exact ⟨hg1.os, hg1.tape, hg1.output, hg1.size, hg1.block⟩
    have hb2 : (ChangeMaps.setBlock w1 r (.mapIter (some b) clock (seen.push e.born) clock)).heap[b]? = some (.map es clock) := (hg.block b (by
      rcases Nat.lt_or_ge b w.heap.size with hlt | hge
      · exact hlt
      · have := h1.heap; rw [Array.getElem?_eq_none hge] at this; cases this) (by intro h0; cases h0; exact hbr rfl)).trans h1.heap
    have hr2 : (ChangeMaps.setBlock w1 r (.mapIter (some b) clock (seen.push e.born) clock)).heap[r]? = some (.mapIter (some b) clock (seen.push e.born) clock) := (MapKept.heap_set hr1).1
    refine ⟨p, List.mem_of_getElem? hp, hnd, _, by rw [h8, k1, k2], by rw [← k1, ← k2]; exact run_entry_at _ r b clock seen es clock e hr2 hb2 hmem.1 h1.stamps, ⟨es, clock, _, ⟨hb2, h1.ents, h1.keys, h1.born, h1.stamps⟩, hr2, ?_, ?_, ?_, ?_⟩, hg, ?_⟩
    · rw [List.map_append]
      exact List.nodup_append.2 ⟨h3, by simp, by intro a ha c hc e1; simp only [List.map_cons, List.map_nil, List.mem_singleton] at hc; subst hc; subst e1; exact hnd ha⟩
    · simp [h4]
    · intro s
      simp only [Array.toList_push, List.mem_append, List.mem_singleton, h5]
      constructor
      · rintro (⟨q, hq, h⟩ | rfl)
        · exact ⟨q, .inl hq, h⟩
        · exact ⟨p, .inr rfl, j, e, hj, hp, rfl⟩
      · rintro ⟨q, hq | rfl, h⟩
        · exact .inl ⟨q, hq, h⟩
        · obtain ⟨i, e', a1, a2, a3⟩ := h
          have := hk a2 hp rfl
          subst this
          rw [hj] at a1
          cases a1
          exact .inr a3.symm
    · intro q hq
      rcases List.mem_append.1 hq with hq | hq
      · exact h6 q hq
      · simp only [List.mem_singleton] at hq; subst hq; exact List.mem_of_getElem? hp
    · simp [ChangeMaps.setBlock, hw]
theorem nodup_le : ∀ (l : List κ), l.Nodup → ∀ m : List κ, l ⊆ m → l.length ≤ m.length
  | [], _, _, _ => Nat.zero_le _
  | x :: l, hn, m, hs => by
    have hn' := List.nodup_cons.1 hn
    have hx : x ∈ m := hs List.mem_cons_self
    have := nodup_le l hn'.2 (m.erase x) fun y hy => (List.mem_erase_of_ne (show y ≠ x from fun e => by subst e; exact hn'.1 hy)).2 (hs (List.mem_cons_of_mem _ hy))
    rw [List.length_erase_of_mem hx] at this
    have h0 := List.length_pos_of_mem hx
    simp only [List.length_cons]
    omega
/-- What has come is part of the map; no more than it holds. -/
theorem IterAt.some_left {done : List (κ × Value)} (h : IterAt w r b kv m done) {p : κ × Value} (hp : p ∈ m) (hn : p.1 ∉ done.map (·.1)) : done.length < m.length := by
  obtain ⟨es, clock, seen, h1, h2, h3, h4, h5, h6⟩ := h
  have hsub : (p :: done).map (·.1) ⊆ m.map (·.1) := by
    intro x hx
    obtain ⟨q, hq, rfl⟩ := List.mem_map.1 hx
    rcases List.mem_cons.1 hq with rfl | hq
    · exact List.mem_map.2 ⟨_, hp, rfl⟩
    · exact List.mem_map.2 ⟨q, h6 q hq, rfl⟩
  have hnd : ((p :: done).map (·.1)).Nodup := List.nodup_cons.2 ⟨hn, h3⟩
  have := nodup_le _ hnd _ hsub
  simp at this
  omega
theorem IterAt.all {done : List (κ × Value)} (h : IterAt w r b kv m done) (ha : ∀ p ∈ m, p ∈ done) : List.Perm done m := by
  obtain ⟨es, clock, seen, h1, h2, h3, h4, h5, h6⟩ := h
  have n1 : done.Nodup := List.Pairwise.of_map _ (fun a c hn e => hn (congrArg Prod.fst e)) h3
  have n2 : m.Nodup := List.Pairwise.of_map _ (fun a c hn e => hn (congrArg Prod.fst e)) h1.keys
  exact (List.perm_ext_iff_of_nodup n1 n2).2 fun p => ⟨h6 p, ha p⟩
end
end Go.Proofs.YtfgfjnlkgadkhaaMapK
