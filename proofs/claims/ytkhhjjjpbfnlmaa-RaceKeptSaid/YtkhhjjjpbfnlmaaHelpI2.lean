/- weighbridgehelp at slices of numbers, next: a copy with spare room in which there is something; what is written over; whether it is as it was. -/
import Derived.Test.YtkhhjjjpbfnlmaaHelpI
import Derived.OwnWalk
namespace Go.Proofs.Ytkhhjjjpbfnlmaa
set_option linter.unusedVariables false
set_option linter.unusedSimpArgs false
open Go.RowKit Go.Proofs.YtkhhjjjpbfnlmaaMem

theorem EIh : ElT Try.prog 23 3 (.int .i64 0) 1 := ⟨Try.underlying23, ⟨8, by kernel_rfl, by omega⟩, rfl, by omega⟩

/-- A copy, in a block of its own, three more behind it. -/
def OwnedI (w : World) (g n : Nat) (zs : List Int) (f : Int) : Prop := zs.length = n ∧ w.ownsRow 0 3 1 (.slice (some ⟨g, 0, none⟩) (n + 3) (n + 3)) (n + 3) (ints (zs ++ [f, f, f]))
def OwnPostI (w : World) (n : Nat) (zs : List Int) (f : Int) (en : Ending) (w' : World) : Prop := ∃ g, en = .returned (.slice (some ⟨g, 0, none⟩) n (n + 3)) ∧ w.heap.size ≤ g ∧ g < w'.heap.size ∧ OwnedI w' g n zs f ∧ Below w.heap.size w w'

theorem row_of {w : World} {g m cap n : Nat} {xs : List Value} {base : Nat} {e : TypeId} (h : w.ownsRow base e 1 (.slice (some ⟨g, 0, none⟩) m cap) m xs) (hn : n ≤ m) (base' : Nat) (hb : base' ≤ g) : w.ownsRow base' e 1 (.slice (some ⟨g, 0, none⟩) n cap) n (xs.take n) := by
  have hl := h.1
  rcases h.2 with ⟨hv, _⟩ | ⟨g', cap', cur, hv, _, hh, hnc, hm, hs, ht⟩
  · simp at hv
  · simp only [Value.slice.injEq, Option.some.injEq, Addr.mk.injEq, and_true, true_and] at hv
    obtain ⟨rfl, rfl⟩ := hv
    refine ⟨by simp [hl]; omega, .inr ⟨g, cap, cur, rfl, hb, hh, by omega, hm, hs, ?_⟩⟩
    rw [← ht, List.take_take]; congr 1; omega

theorem ints_set' (zs : List Int) (k : Nat) (x : Int) : (ints zs).set k (.int .i64 x) = ints (zs.set k x) := by simp [ints, List.map_set]
theorem grown_both {w w1 w2 : World} {r : Option Nat} (h : w.grownBy w1 r) (h' : w1.grownBy w2 r) : w.grownBy w2 r :=
  ⟨h'.os.trans h.os, h'.tape.trans h.tape, h'.output.trans h.output, Nat.le_trans h.size h'.size, fun k hk hne => (h'.block k (Nat.lt_of_lt_of_le hk h.size) hne).trans (h.block k hk hne)⟩
theorem own_src {w w1 : World} {ao : Option Addr} {xs : List Value} (h : ∀ j u, xs[j]? = some u → ∃ b off, ao = some ⟨b, off, none⟩ ∧ b < w.heap.size ∧ w.cell? ⟨b, off + j, none⟩ = some u) (hb : Below w.heap.size w w1) :
    ∀ ad, ao = some ad → ∀ j u, xs[j]? = some u → w1.cell? (ad.add j) = some u := fun ad he j u hu => by
  obtain ⟨b, off, e, hlt, hcc⟩ := h j u hu
  rw [he] at e; cases e
  have e1 : ((⟨b, off, none⟩ : Addr).add j) = ⟨b, off + j, none⟩ := by unfold Addr.add; split <;> simp_all
  rw [e1]; exact (hb.cell (p := ⟨b, off + j, none⟩) hlt).trans hcc

theorem OwnedI.below {w w' : World} {g n : Nat} {zs : List Int} {f : Int} (h : OwnedI w g n zs f) (hb : Below w.heap.size w w') : OwnedI w' g n zs f := ⟨h.1, owns_below (B := 0) h.2 hb⟩
theorem OwnedI.grown {w w' : World} {g n : Nat} {zs : List Int} {f : Int} {r : Option Nat} (h : OwnedI w g n zs f) (hg : w.grownBy w' r) (hne : r ≠ some g) : OwnedI w' g n zs f :=
  ⟨h.1, owns_grown h.2 hg fun k hk => by cases hk; exact hne⟩
theorem OwnedI.owns {w : World} {g n : Nat} {zs : List Int} {f : Int} (h : OwnedI w g n zs f) : w.ownsRow g 3 1 (.slice (some ⟨g, 0, none⟩) n (n + 3)) n (ints zs) := by
  have h1 := row_of h.2 (n := n) (by omega) g (Nat.le_refl _)
  have e : (ints (zs ++ [f, f, f])).take n = ints zs := by
    rw [ints_append]; exact List.take_left' (by rw [ints_length]; exact h.1)
  rw [e] at h1; exact h1
theorem OwnedI.rd {w : World} {g n : Nat} {zs : List Int} {f : Int} (h : OwnedI w g n zs f) (hf : ∀ z ∈ zs, I64 z) : RdI w (some ⟨g, 0, none⟩) n (n + 3) zs := owns_rdI h.owns hf

/-- What is written over is one row alone. -/
def SpoilPost (w : World) (v : Value) (en : Ending) (w' : World) : Prop := en = .returned (.tuple #[]) ∧ w.grownBy w' v.ownBlock
set_option maxHeartbeats 400000 in
theorem spoilI_any (v : Value) (n base : Nat) (zs : List Int) (w : World) (h : w.ownsRow base 3 1 v n (ints zs)) :
    Calls Try.prog 27 #[v] w (SpoilPost w v) := by
  obtain ⟨ao, cap, rfl⟩ := owns_slice h
  have hcap := owns_cap h
  have hn : n ≤ 9223372036854775807 := by have h1 := hcap.2.1; have h2 := hcap.2.2.1; unfold maxLen at h2; omega
  clear hcap
  go_enter Try.func27, Try.ntmps27
  go_wp2
  go_loopw [3] (fun i wr => ∃ k : Nat, k ≤ n ∧ i = .int .i64 k ∧ (∃ ys : List Int, wr.ownsRow base 3 1 (.slice ao n cap) n (ints ys)) ∧ w.grownBy wr (Value.slice ao n cap).ownBlock) (fun i _ => n - (intOf i).toNat)
  case atStart => exact ⟨0, Nat.zero_le _, rfl, ⟨zs, h⟩, ⟨rfl, rfl, rfl, Nat.le_refl _, fun _ _ _ => rfl⟩⟩
  case round =>
    obtain ⟨k, hk, rfl, ⟨ys, hownr⟩, hgr⟩ := hrel
    clear h
    by_cases hl : k < n
    · obtain ⟨g, cap', hv, hg, hglt⟩ := hownr.form (by omega)
      simp only [Value.slice.injEq] at hv
      obtain ⟨rfl, _, rfl⟩ := hv
      obtain ⟨u, hu⟩ := owns_spare hownr (j := k) (by have := (owns_cap hownr).2.1; omega)
      have hfz := hownr.frozenAt k
      have hp := hownr.stored k (.int .i64 0)
      have HP := Lib.hid hp
      have HG := Lib.hid hgr
      clear hp hgr
      go_wp2
      go_roundw
      case rel => exact ⟨k + 1, by omega, by go_num, ⟨ys.set k 0, by rw [← ints_set']; exact HP.out.1⟩, grown_both HG.out HP.out.2⟩
      case measure => simp [intOf]; omega
    · have hg2 := Lib.hid hgr
      clear hgr
      go_wp2
      go_end0
      exact ⟨rfl, hg2.out⟩

end Go.Proofs.Ytkhhjjjpbfnlmaa
