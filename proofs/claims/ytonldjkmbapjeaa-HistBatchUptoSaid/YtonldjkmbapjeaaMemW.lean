/- Storing a record of several cells into the middle of a row. Over any program. -/
import Derived.Test.YtonldjkmbapjeaaMemR
import Derived.Test.YtonldjkmbapjeaaRecs
import Derived.Deep.MidRow
namespace Go.Proofs.YtonldjkmbapjeaaMem
set_option linter.unusedVariables false
set_option linter.unusedSimpArgs false
open Go Go.RowKit

theorem setCells_put : ∀ (us : List Value) (w : World) (g off : Nat), w.setCells g off us = putCells w g off us
  | [], _, _, _ => rfl
  | u :: us, w, g, off => setCells_put us _ g (off + 1)
theorem setList_toList : ∀ (us : List Value) (cur : Array Value) (off : Nat), off + us.length ≤ cur.size → (setList cur off us).toList = cur.toList.take off ++ us ++ cur.toList.drop (off + us.length)
  | [], cur, off, h => by simp [setList]
  | u :: us, cur, off, h => by
    simp only [List.length_cons] at h ⊢
    have h1 := setList_toList us (cur.setIfInBounds off u) (off + 1) (by simp; omega)
    simp only [setList]
    rw [h1]
    have hlt : off < cur.size := by omega
    rw [Array.toList_setIfInBounds, List.take_add_one, List.take_set_of_le (Nat.le_refl off), List.drop_set_of_lt (by omega)]
    rw [show off + 1 + us.length = off + (us.length + 1) by omega]
    simp [hlt]
theorem recs_set {α : Type} {f : α → List Value} {s : Nat} (hf : ∀ x, (f x).length = s) : ∀ (l : List α) (q : Nat) (x : α), q < l.length → (l.set q x).flatMap f = (l.flatMap f).take (q * s) ++ f x ++ (l.flatMap f).drop (q * s + s)
  | [], q, x, h => by simp at h
  | y :: l, 0, x, _ => by
    simp only [List.set_cons_zero, List.flatMap_cons, Nat.zero_mul, List.take_zero, List.nil_append, Nat.zero_add]
    rw [List.drop_left' (hf y)]
  | y :: l, q + 1, x, h => by
    have ih := recs_set hf l q x (by simpa using h)
    simp only [List.set_cons_succ, List.flatMap_cons]
    rw [ih, show (q + 1) * s = s + q * s by rw [Nat.succ_mul]; omega]
    have h1 : (f y ++ l.flatMap f).take (s + q * s) = f y ++ (l.flatMap f).take (q * s) := by
      rw [List.take_append, hf, List.take_of_length_le (by rw [hf]; omega), show s + q * s - s = q * s by omega]
    have h2 : (f y ++ l.flatMap f).drop (s + q * s + s) = (l.flatMap f).drop (q * s + s) := by
      rw [List.drop_append, hf, List.drop_eq_nil_of_le (by rw [hf]; omega), show s + q * s + s - s = q * s + s by omega]
      simp
    rw [h1, h2]; simp [List.append_assoc]
theorem owns_there {w : World} {base : Nat} {e : TypeId} {g n cap s q : Nat} {xs : List Value} (h : w.ownsRow base e s (.slice (some ⟨g, 0, none⟩) n cap) n xs) (hq : q < n) : w.there g (q * s) s := by
  intro j hj
  have hc := owns_cap h
  have hlt : q * s + j < cap * s := by
    have h1 : q * s + s ≤ n * s := by rw [← Nat.succ_mul]; exact Nat.mul_le_mul_right s hq
    have h2 : n * s ≤ cap * s := Nat.mul_le_mul_right s hc.2.1
    omega
  obtain ⟨u, hu⟩ := owns_spare h hlt
  exact ⟨by rw [hu]; rfl, h.frozenAt _⟩
theorem owns_setRec {α : Type} {f : α → List Value} {s : Nat} (hf : ∀ x, (f x).length = s) {w : World} {base : Nat} {e : TypeId} {g n cap q : Nat} {l : List α} (h : w.ownsRow base e s (.slice (some ⟨g, 0, none⟩) n cap) n (l.flatMap f)) (hq : q < n) (x : α) (hl : l.length = n) :
    (w.setCells g (q * s) (f x)).ownsRow base e s (.slice (some ⟨g, 0, none⟩) n cap) n ((l.set q x).flatMap f) := by
  rw [setCells_put]
  have hle : q * s + s ≤ n * s := by rw [← Nat.succ_mul]; exact Nat.mul_le_mul_right s hq
  rcases h.2 with ⟨hv, _⟩ | ⟨g', cap', cur, hv, hb, hh, hnc, hm, hs, ht⟩
  · simp at hv
  · simp only [Value.slice.injEq, Option.some.injEq, Addr.mk.injEq, and_true, true_and] at hv
    obtain ⟨rfl, rfl⟩ := hv
    have hle2 : n * s ≤ cap * s := Nat.mul_le_mul_right s hnc
    refine ⟨by rw [recs_length hf, List.length_set, hl], .inr ⟨g, cap, setList cur (q * s) (f x), rfl, hb, putCells_heap (f x) w g _ cur hh, hnc, hm, by rw [setList_size]; exact hs, ?_⟩⟩
    rw [setList_toList (f x) cur (q * s) (by rw [hf, hs]; omega), recs_set hf l q x (by omega), ← ht, hf]
    have e1 : (cur.toList.take (n * s)).take (q * s) = cur.toList.take (q * s) := by rw [List.take_take, Nat.min_eq_left (by omega)]
    have e2 : (cur.toList.take (n * s)).drop (q * s + s) = (cur.toList.drop (q * s + s)).take (n * s - (q * s + s)) := by rw [List.drop_take]
    have hlenT : (cur.toList.take (q * s)).length = q * s := by rw [List.length_take, Array.length_toList, hs]; omega
    have hlenA : (cur.toList.take (q * s) ++ f x).length = q * s + s := by rw [List.length_append, hlenT, hf]
    rw [e1, e2, List.take_append, List.take_of_length_le (by rw [hlenA]; exact hle), hlenA]
end Go.Proofs.YtonldjkmbapjeaaMem
