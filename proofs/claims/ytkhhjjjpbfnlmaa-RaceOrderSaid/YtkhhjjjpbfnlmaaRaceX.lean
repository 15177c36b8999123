/- A square of truths in memory, row by row. -/
import Derived.Test.YtkhhjjjpbfnlmaaRaceV
import Derived.Deep.OwnRows
namespace Go.Proofs.Ytkhhjjjpbfnlmaa
set_option linter.unusedVariables false
set_option linter.unusedSimpArgs false
open Go.RowKit Go.Proofs.YtkhhjjjpbfnlmaaMem Go.Proofs.YtkhhjjjpbfnlmaaFlat Go.Proofs.YtkhhjjjpbfnlmaaMapK

def RowAt (w : World) (b : Nat) (e : TypeId) (n : Nat) (f : Nat → Value) : Prop := ∃ cur : Array Value, w.heap[b]? = some (.cells cur e (0, 0)) ∧ ∀ u, u < n → cur[u]? = some (f u)
theorem RowAt.of_eq {w w' : World} {b : Nat} {e : TypeId} {n : Nat} {f : Nat → Value} (h : RowAt w b e n f) (q : w'.heap[b]? = w.heap[b]?) : RowAt w' b e n f :=
  let ⟨cur, h1, h2⟩ := h; ⟨cur, q.trans h1, h2⟩
theorem RowAt.lt {w : World} {b : Nat} {e : TypeId} {n : Nat} {f : Nat → Value} (h : RowAt w b e n f) : b < w.heap.size := by
  obtain ⟨cur, h1, _⟩ := h
  exact (Array.getElem?_eq_some_iff.1 h1).1
theorem RowAt.cell {w : World} {b : Nat} {e : TypeId} {n : Nat} {f : Nat → Value} (h : RowAt w b e n f) {u : Nat} (hu : u < n) : w.cell? ⟨b, u, none⟩ = some (f u) := by
  obtain ⟨cur, h1, h2⟩ := h
  simp only [World.cell?, h1]; exact h2 u hu
theorem RowAt.frozen {w : World} {b : Nat} {e : TypeId} {n : Nat} {f : Nat → Value} (h : RowAt w b e n f) (u : Nat) : w.frozen? ⟨b, u, none⟩ = false := by
  obtain ⟨cur, h1, _⟩ := h
  simp [World.frozen?, h1]
theorem RowAt.set {w : World} {b : Nat} {e : TypeId} {n : Nat} {f : Nat → Value} (h : RowAt w b e n f) (u : Nat) (v : Value) : RowAt (w.setCell ⟨b, u, none⟩ v) b e n (fun k => if k = u then v else f k) := by
  obtain ⟨cur, h1, h2⟩ := h
  refine ⟨cur.setIfInBounds u v, by simp [World.setCell, Array.getElem?_modify, h1], fun k hk => ?_⟩
  show _ = some (if k = u then v else f k)
  have := h2 k hk
  by_cases hku : k = u
  · subst hku
    have hlt := (Array.getElem?_eq_some_iff.1 this).1
    simp [hlt]
  · rw [if_neg hku, Array.getElem?_setIfInBounds_ne (fun e => hku e.symm)]; exact this
theorem RowAt.congr {w : World} {b : Nat} {e : TypeId} {n : Nat} {f g : Nat → Value} (h : RowAt w b e n f) (q : ∀ u, u < n → f u = g u) : RowAt w b e n g :=
  let ⟨cur, h1, h2⟩ := h; ⟨cur, h1, fun u hu => by rw [← q u hu]; exact h2 u hu⟩
theorem RowAt.made (w : World) (e : TypeId) (z : Value) (n : Nat) (cs : Array Value) (hc : ∀ u, u < n → cs[u]? = some z) : RowAt (w.alloc (.cells cs e)) w.heap.size e n (fun _ => z) :=
  ⟨cs, heap_alloc_new _ _, hc⟩

structure MatAt (w : World) (G n R : Nat) (B : Nat → Nat) (v : Nat → Nat → Bool) : Prop where
  outer : RowAt w G 46 n (fun i => if i < R then .slice (some ⟨B i, 0, none⟩) n n else .slice none 0 0)
  inner : ∀ i, i < R → RowAt w (B i) 4 n (fun j => .bool (v i j))
  ne : ∀ i, i < R → B i ≠ G
  apart : ∀ i j, i < R → j < R → i ≠ j → B i ≠ B j
theorem MatAt.below {w w' : World} {G n R : Nat} {B : Nat → Nat} {v : Nat → Nat → Bool} (h : MatAt w G n R B v) (hb : Below w.heap.size w w') : MatAt w' G n R B v :=
  ⟨h.outer.of_eq (hb.block _ h.outer.lt), fun i hi => (h.inner i hi).of_eq (hb.block _ (h.inner i hi).lt), h.ne, h.apart⟩
theorem MatAt.set {w : World} {G n R : Nat} {B : Nat → Nat} {v : Nat → Nat → Bool} (h : MatAt w G n R B v) {i : Nat} (hi : i < R) (j : Nat) (x : Bool) : MatAt (w.setCell ⟨B i, j, none⟩ (.bool x)) G n R B (fun a b => if a = i ∧ b = j then x else v a b) := by
  refine ⟨h.outer.of_eq (Below.heap_setCell w ⟨B i, j, none⟩ _ G (fun e => h.ne i hi e.symm)), fun a ha => ?_, h.ne, h.apart⟩
  by_cases hai : a = i
  · subst hai
    refine ((h.inner a ha).set j (.bool x)).congr fun u hu => ?_
    by_cases huj : u = j <;> simp [huj]
  · refine ((h.inner a ha).of_eq (Below.heap_setCell w ⟨B i, j, none⟩ _ (B a) (h.apart a i ha hi hai))).congr fun u hu => ?_
    simp [hai]
theorem MatAt.newRow {w : World} {G n R : Nat} {B : Nat → Nat} {v : Nat → Nat → Bool} (h : MatAt w G n R B v) (cs : Array Value) (hc : ∀ u, u < n → cs[u]? = some (.bool false)) :
    MatAt ((w.alloc (.cells cs 4)).setCell ⟨G, R, none⟩ (.slice (some ⟨w.heap.size, 0, none⟩) n n)) G n (R + 1) (fun i => if i = R then w.heap.size else B i) (fun a b => if a = R then false else v a b) := by
  have hG := h.outer.lt
  have ho := (h.outer.of_eq (w' := w.alloc (.cells cs 4)) (heap_alloc_old _ _ hG)).set R (.slice (some ⟨w.heap.size, 0, none⟩) n n)
  refine ⟨ho.congr fun u hu => ?_, fun a ha => ?_, fun a ha => ?_, fun a b ha hb hab => ?_⟩
  · by_cases hur : u = R
    · subst hur; simp
    · simp only [hur, if_false]
      by_cases hlt : u < R
      · rw [if_pos hlt, if_pos (by omega)]
      · rw [if_neg hlt, if_neg (by omega)]
  · by_cases har : a = R
    · subst har
      simp only [if_true]
      exact (RowAt.made w 4 (.bool false) n cs hc).of_eq (Below.heap_setCell _ ⟨G, a, none⟩ _ w.heap.size (by simp only; omega))
    · simp only [har, if_false]
      have hra := h.inner a (by omega)
      exact (hra.of_eq (heap_alloc_old _ _ hra.lt)).of_eq (Below.heap_setCell _ ⟨G, R, none⟩ _ (B a) (h.ne a (by omega)))
  · by_cases har : a = R
    · simp only [har, if_true]; omega
    · simp only [har, if_false]; exact h.ne a (by omega)
  · by_cases har : a = R
    · have hbr : ¬ b = R := by omega
      have := (h.inner b (by omega)).lt
      simp only [har, if_true, hbr, if_false]; omega
    · have hra := (h.inner a (by omega)).lt
      by_cases hbr : b = R
      · simp only [har, if_false, hbr, if_true]; omega
      · simp only [har, if_false, hbr]; exact h.apart a b (by omega) (by omega) hab
theorem mat_start (w : World) (n : Nat) (cs : Array Value) (hc : ∀ u, u < n → cs[u]? = some (.slice none 0 0)) : MatAt (w.alloc (.cells cs 46)) w.heap.size n 0 (fun _ => 0) (fun _ _ => false) :=
  ⟨(RowAt.made w 46 _ n cs hc).congr fun u hu => by simp, fun i hi => by omega, fun i hi => by omega, fun i j hi => by omega⟩

theorem make_outer (n : Nat) (hn : n ≤ 1000) (w : World) : (Instr.makeSlice 45 (.int .i64 (n : Int)) (.int .i64 (n : Int))).run Try.prog w = .ok (.slice (some ⟨w.heap.size, 0, none⟩) n n) (w.alloc (.cells (madeCells #[.slice none 0 0] n) 46)) :=
  run_make_row' 45 46 (.slice none 0 0) 24 Try.underlying45 (by kernel_rfl) rfl .i64 .i64 n (by omega) (by omega) w
theorem make_inner (n : Nat) (hn : n ≤ 1000) (w : World) : (Instr.makeSlice 46 (.int .i64 (n : Int)) (.int .i64 (n : Int))).run Try.prog w = .ok (.slice (some ⟨w.heap.size, 0, none⟩) n n) (w.alloc (.cells (madeCells #[.bool false] n) 4)) :=
  run_make_row' 46 4 (.bool false) 1 Try.underlying46 (by kernel_rfl) rfl .i64 .i64 n (by omega) (by omega) w
theorem made_at (z : Value) (n : Nat) : ∀ u, u < n → (madeCells #[z] n)[u]? = some z := by
  intro u hu
  rw [← Array.getElem?_toList, toList_madeCells_one]
  simp [hu]
end Go.Proofs.Ytkhhjjjpbfnlmaa
