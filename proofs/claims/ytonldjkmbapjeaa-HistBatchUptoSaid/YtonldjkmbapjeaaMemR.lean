/- Storing a record of several cells into a row. Over any program. -/
import Derived.Test.YtonldjkmbapjeaaMemS
namespace Go.Proofs.YtonldjkmbapjeaaMem
set_option linter.unusedVariables false
set_option linter.unusedSimpArgs false
open Go Go.RowKit

def setList (cur : Array Value) : Nat → List Value → Array Value
  | _, [] => cur
  | off, u :: us => setList (cur.setIfInBounds off u) (off + 1) us
def putCells (w : World) (g : Nat) : Nat → List Value → World
  | _, [] => w
  | off, u :: us => putCells (w.setCell ⟨g, off, none⟩ u) g (off + 1) us
theorem setList_size : ∀ (us : List Value) (cur : Array Value) (off : Nat), (setList cur off us).size = cur.size
  | [], _, _ => rfl
  | u :: us, cur, off => by simp [setList, setList_size us]
theorem putCells_heap {e : TypeId} {fr : Nat × Nat} : ∀ (us : List Value) (w : World) (g off : Nat) (cur : Array Value), w.heap[g]? = some (.cells cur e fr) → (putCells w g off us).heap[g]? = some (.cells (setList cur off us) e fr)
  | [], w, g, off, cur, h => h
  | u :: us, w, g, off, cur, h => putCells_heap us _ g (off + 1) _ (by simp [World.setCell, Array.getElem?_modify, h])
theorem putCells_grown : ∀ (us : List Value) (w : World) (g off : Nat), w.grownBy (putCells w g off us) (some g)
  | [], w, g, off => ⟨rfl, rfl, rfl, Nat.le_refl _, fun _ _ _ => rfl⟩
  | u :: us, w, g, off => by
    have h := putCells_grown us (w.setCell ⟨g, off, none⟩ u) g (off + 1)
    have h0 : w.grownBy (w.setCell ⟨g, off, none⟩ u) (some g) := ⟨rfl, rfl, rfl, by simp [World.setCell], fun k _ hne => Below.heap_setCell w ⟨g, off, none⟩ u k (fun e => hne (by rw [e]))⟩
    exact ⟨h.os.trans h0.os, h.tape.trans h0.tape, h.output.trans h0.output, Nat.le_trans h0.size h.size, fun k hk hne => (h.block k (Nat.lt_of_lt_of_le hk h0.size) hne).trans (h0.block k hk hne)⟩
theorem setList_take : ∀ (us : List Value) (cur : Array Value) (off : Nat), off + us.length ≤ cur.size → (setList cur off us).toList.take (off + us.length) = cur.toList.take off ++ us
  | [], cur, off, _ => by simp [setList]
  | u :: us, cur, off, h => by
    simp only [List.length_cons] at h ⊢
    have h1 := setList_take us (cur.setIfInBounds off u) (off + 1) (by simp; omega)
    rw [show off + (us.length + 1) = off + 1 + us.length by omega]
    simp only [setList]
    rw [h1]
    have hlt : off < cur.size := by omega
    rw [Array.toList_setIfInBounds, List.take_add_one, List.take_set_of_le (Nat.le_refl off)]
    simp [hlt]
/-- A record behind the row's last one. -/
theorem owns_pushR {w : World} {base : Nat} {e : TypeId} {g n cap s : Nat} {xs us : List Value} (h : w.ownsRow base e s (.slice (some ⟨g, 0, none⟩) n cap) n xs) (hn : n < cap) (hu : us.length = s) :
    (putCells w g (n * s) us).ownsRow base e s (.slice (some ⟨g, 0, none⟩) (n + 1) cap) (n + 1) (xs ++ us) := by
  have hl := h.1
  rcases h.2 with ⟨hv, _⟩ | ⟨g', cap', cur, hv, hb, hh, hnc, hm, hs, ht⟩
  · simp at hv
  · simp only [Value.slice.injEq, Option.some.injEq, Addr.mk.injEq, and_true, true_and] at hv
    obtain ⟨rfl, rfl⟩ := hv
    have hle : n * s + s ≤ cap * s := by rw [← Nat.succ_mul]; exact Nat.mul_le_mul_right s hn
    refine ⟨by simp [hl, hu, Nat.succ_mul], .inr ⟨g, cap, setList cur (n * s) us, rfl, hb, putCells_heap us w g _ cur hh, by omega, hm, by rw [setList_size]; exact hs, ?_⟩⟩
    rw [Nat.succ_mul, ← hu, setList_take us cur (n * us.length) (by rw [hu, hs]; exact hle), hu, ht]
end Go.Proofs.YtonldjkmbapjeaaMem
