/- The reference's flows: one packet served. -/
import Derived.Test.YtfgfjnlkgadkhaaRfs2
import Derived.Deep.QuietTactic
import Derived.BigQuiet
namespace Go.Proofs.Ytfgfjnlkgadkhaa
set_option linter.unusedVariables false
set_option linter.unusedSimpArgs false
set_option maxRecDepth 20000
open Go.RowKit Go.Proofs.YtfgfjnlkgadkhaaMem Go.Proofs.YtfgfjnlkgadkhaaMapK

theorem below_drewN (w : World) (n : Nat) : Below w.heap.size w (w.drewN n) := by
  induction n with
  | zero => exact Below.refl _ _
  | succ n ih => exact ih.drew
theorem refServe_any (b : Nat) (id : Int) (x : FlS) (F : Nat → Prop) (w : World) (h : RefAt w b id x F) (ok : x.Ok) :
    Calls Try.prog 68 #[.pointer (some ⟨b, 0, none⟩)] w fun e w' => e = .returned (.tuple #[x.head.val, .int .u64 x.out, .bool x.has]) ∧ RefPost b id x.serve F w w' := by
  cases hl : x.l with
  | nil =>
    have h1 : x.head = Pk.zero := by unfold FlS.head; rw [hl]
    have h2 : x.out = 0 := by unfold FlS.out; rw [hl]
    have h3 : x.has = false := by unfold FlS.has; rw [hl]; rfl
    have h4 : x.serve = x := by unfold FlS.serve; rw [hl]
    rw [h1, h2, h3, h4]
    exact (refServe_none b id x F w h hl).mono fun e w' hh => ⟨hh.1, RefPost.of_below h hh.2⟩
  | cons p rest =>
    have h1 : x.head = p := by unfold FlS.head; rw [hl]
    have h2 : x.out = x.fin p := by unfold FlS.out; rw [hl]
    have h3 : x.has = true := by unfold FlS.has; rw [hl]; rfl
    have h4 : x.serve = { x with finish := x.fin p, start := x.fin p, l := rest } := by unfold FlS.serve; rw [hl]
    rw [h1, h2, h3, h4]
    exact refServe_some b id x F w p rest h ok hl

theorem RfR.cells2 {w : World} {b : Nat} {v most : Int} {l : List FlR} {F : Nat → Prop} (h : RfR w b v most l F) {k : Nat} {e : FlR} (he : l[k]? = some e) :
    ∃ a c, w.cell? ⟨e.b, 3, none⟩ = some (.slice a e.x.l.length c) ∧ w.cell? ⟨e.b, 4, none⟩ = some (.int .u64 e.x.start) := by
  obtain ⟨ao2, cap2, B, -⟩ := h.flows e (List.mem_of_getElem? he)
  have c3 := B.cell 3
  have c4 := B.cell 4
  simp only [List.getElem?_cons_succ, List.getElem?_cons_zero] at c3 c4
  exact ⟨_, _, c3, c4⟩
theorem RfR.setV {w : World} {b : Nat} {v most : Int} {l : List FlR} {F : Nat → Prop} (h : RfR w b v most l F) (x : Int) : RfR (w.setCell ⟨b, 1, none⟩ (.int .u64 x)) b x most l F ∧ Fr F w (w.setCell ⟨b, 1, none⟩ (.int .u64 x)) := by
  have hf : Fr (fun k => k = b) w (w.setCell ⟨b, 1, none⟩ (.int .u64 x)) := Fr.setCell (S := fun k => k = b) (a := ⟨b, 1, none⟩) (Fr.refl _ w) (.inl rfl) _
  obtain ⟨ao, cap, h1, h2, h3⟩ := h.row
  refine ⟨{ row := ⟨ao, cap, h1.set 1 _, owns_fr h2 hf fun k hk => ?_, h3⟩, flows := fun e he => (h.flows e he).fr hf fun k hk e' => (h.sub e he k hk).2 e', hb := h.hb, sub := h.sub, disj := h.disj, lt := h.lt.mono hf.size, ok := h.ok, rise := h.rise }, Fr.setCell (S := F) (a := ⟨b, 1, none⟩) (Fr.refl _ w) (.inl h.hb) _⟩
  cases ao with
  | none => cases hk
  | some a => cases hk; exact (h3 a rfl).2.1
theorem RfR.setMost {w : World} {b : Nat} {v most : Int} {l : List FlR} {F : Nat → Prop} (h : RfR w b v most l F) (x : Int) : RfR (w.setCell ⟨b, 2, none⟩ (.int .u64 x)) b v x l F ∧ Fr F w (w.setCell ⟨b, 2, none⟩ (.int .u64 x)) := by
  have hf : Fr (fun k => k = b) w (w.setCell ⟨b, 2, none⟩ (.int .u64 x)) := Fr.setCell (S := fun k => k = b) (a := ⟨b, 2, none⟩) (Fr.refl _ w) (.inl rfl) _
  obtain ⟨ao, cap, h1, h2, h3⟩ := h.row
  refine ⟨{ row := ⟨ao, cap, h1.set 2 _, owns_fr h2 hf fun k hk => ?_, h3⟩, flows := fun e he => (h.flows e he).fr hf fun k hk e' => (h.sub e he k hk).2 e', hb := h.hb, sub := h.sub, disj := h.disj, lt := h.lt.mono hf.size, ok := h.ok, rise := h.rise }, Fr.setCell (S := F) (a := ⟨b, 2, none⟩) (Fr.refl _ w) (.inl h.hb) _⟩
  cases ao with
  | none => cases hk
  | some a => cases hk; exact (h3 a rfl).2.1

/-- The best place among the first k. -/
def BestR (l : List FlR) (k : Nat) (B : Int) : Prop :=
  (B = -1 ∧ ∀ i e, i < k → l[i]? = some e → e.x.has = false) ∨
  ∃ (j : Nat) (ej : FlR), B = j ∧ j < k ∧ l[j]? = some ej ∧ ej.x.has = true ∧ ∀ i e, i < k → l[i]? = some e → e.x.has = true → ej.x.start < e.x.start ∨ (ej.x.start = e.x.start ∧ j ≤ i)
theorem BestR.zero (l : List FlR) : BestR l 0 (-1) := .inl ⟨rfl, fun i e h => by omega⟩
theorem lt_succ {i k : Nat} (h : i < k + 1) : i < k ∨ i = k := by omega
theorem BestR.no {l : List FlR} {k : Nat} {B : Int} {e : FlR} (h : BestR l k B) (he : l[k]? = some e) (hh : e.x.has = false) : BestR l (k + 1) B := by
  rcases h with ⟨h1, h2⟩ | ⟨j, ej, h1, h2, h3, h4, h5⟩
  · refine .inl ⟨h1, fun i e' hi he' => ?_⟩
    rcases lt_succ hi with hi | rfl
    · exact h2 i e' hi he'
    · rw [he] at he'; cases he'; exact hh
  · refine .inr ⟨j, ej, h1, by omega, h3, h4, fun i e' hi he' hh' => ?_⟩
    rcases lt_succ hi with hi | rfl
    · exact h5 i e' hi he' hh'
    · rw [he] at he'; cases he'; rw [hh] at hh'; cases hh'
theorem BestR.first {l : List FlR} {k : Nat} {B : Int} {e : FlR} (h : BestR l k B) (hB : B < 0) (he : l[k]? = some e) (hh : e.x.has = true) : BestR l (k + 1) k := by
  rcases h with ⟨h1, h2⟩ | ⟨j, ej, h1, h2, h3, h4, h5⟩
  · refine .inr ⟨k, e, rfl, by omega, he, hh, fun i e' hi he' hh' => ?_⟩
    rcases lt_succ hi with hi | rfl
    · rw [h2 i e' hi he'] at hh'; cases hh'
    · rw [he] at he'; cases he'; exact .inr ⟨rfl, Nat.le_refl _⟩
  · omega
theorem BestR.less {l : List FlR} {k j : Nat} {e ej : FlR} (h : BestR l k j) (hj : l[j]? = some ej) (he : l[k]? = some e) (hh : e.x.has = true) (hl : e.x.start < ej.x.start) : BestR l (k + 1) k := by
  rcases h with ⟨h1, h2⟩ | ⟨j', ej', h1, h2, h3, h4, h5⟩
  · omega
  · have : j' = j := by omega
    subst this
    rw [hj] at h3; cases h3
    refine .inr ⟨k, e, rfl, by omega, he, hh, fun i e' hi he' hh' => ?_⟩
    rcases lt_succ hi with hi | rfl
    · have := h5 i e' hi he' hh'; omega
    · rw [he] at he'; cases he'; exact .inr ⟨rfl, Nat.le_refl _⟩
theorem BestR.keep {l : List FlR} {k j : Nat} {e ej : FlR} (h : BestR l k j) (hj : l[j]? = some ej) (he : l[k]? = some e) (hl : ¬ e.x.start < ej.x.start) : BestR l (k + 1) j := by
  rcases h with ⟨h1, h2⟩ | ⟨j', ej', h1, h2, h3, h4, h5⟩
  · omega
  · have : j' = j := by omega
    subst this
    rw [hj] at h3; cases h3
    refine .inr ⟨j', ej, rfl, by omega, hj, h4, fun i e' hi he' hh' => ?_⟩
    rcases lt_succ hi with hi | rfl
    · exact h5 i e' hi he' hh'
    · rw [he] at he'; cases he'; omega
theorem BestR.got {l : List FlR} {k : Nat} {B : Int} (h : BestR l k B) (hB : ¬ B < 0) : ∃ (j : Nat) (ej : FlR), B = j ∧ j < k ∧ l[j]? = some ej ∧ ej.x.has = true := by
  rcases h with ⟨h1, h2⟩ | ⟨j, ej, h1, h2, h3, h4, h5⟩
  · omega
  · exact ⟨j, ej, h1, h2, h3, h4⟩
theorem entR_mem {l : List FlR} {p : Int × Int} (h : p ∈ entR l) : ∃ e ∈ l, e.x.has = true ∧ p = (e.x.start, e.id) := by
  obtain ⟨q, hq, h1, h2⟩ := entL_mem h
  obtain ⟨e, he, rfl⟩ := List.mem_map.1 hq
  exact ⟨e, he, h1, h2⟩
theorem entR_in {l : List FlR} {e : FlR} (he : e ∈ l) (hh : e.x.has = true) : (e.x.start, e.id) ∈ entR l :=
  List.mem_map.2 ⟨e.pl, List.mem_filter.2 ⟨List.mem_map.2 ⟨e, he, rfl⟩, hh⟩, rfl⟩
theorem BestR.none_ {l : List FlR} {B : Int} (h : BestR l l.length B) (hB : B < 0) : entR l = [] := by
  rcases h with ⟨h1, h2⟩ | ⟨j, ej, h1, h2, h3, h4, h5⟩
  · cases hx : entR l with
    | nil => rfl
    | cons p r =>
      obtain ⟨e, he, hh, -⟩ := entR_mem (p := p) (l := l) (by rw [hx]; exact List.mem_cons_self ..)
      obtain ⟨i, hi⟩ := List.getElem?_of_mem he
      have hlt : i < l.length := by
        rcases Nat.lt_or_ge i l.length with h | h
        · exact h
        · rw [List.getElem?_eq_none h] at hi; cases hi
      rw [h2 i e hlt hi] at hh; cases hh
  · omega
theorem rise_lt {l : List FlR} (h : l.Pairwise fun e e' => e.id < e'.id) {i j : Nat} {e e' : FlR} (hi : l[i]? = some e) (hj : l[j]? = some e') (hij : i < j) : e.id < e'.id := by
  have h1 : i < l.length := by
    rcases Nat.lt_or_ge i l.length with h | h
    · exact h
    · rw [List.getElem?_eq_none h] at hi; cases hi
  have h2 : j < l.length := by
    rcases Nat.lt_or_ge j l.length with h | h
    · exact h
    · rw [List.getElem?_eq_none h] at hj; cases hj
  rw [List.getElem?_eq_getElem h1] at hi
  rw [List.getElem?_eq_getElem h2] at hj
  cases hi; cases hj
  exact List.pairwise_iff_getElem.1 h i j h1 h2 hij
theorem BestR.isFirst {l : List FlR} (hr : l.Pairwise fun e e' => e.id < e'.id) {j : Nat} {ej : FlR} (h : BestR l l.length j) (hj : l[j]? = some ej) : IsFirst (entR l) (ej.x.start, ej.id) := by
  rcases h with ⟨h1, h2⟩ | ⟨j', ej', h1, h2, h3, h4, h5⟩
  · omega
  · have : j' = j := by omega
    subst this
    rw [hj] at h3; cases h3
    refine ⟨entR_in (List.mem_of_getElem? hj) h4, fun p hp => ?_⟩
    obtain ⟨e, he, hh, rfl⟩ := entR_mem hp
    obtain ⟨i, hi⟩ := List.getElem?_of_mem he
    have hlt : i < l.length := by
      rcases Nat.lt_or_ge i l.length with h | h
      · exact h
      · rw [List.getElem?_eq_none h] at hi; cases hi
    have hc := h5 i e hlt hi hh
    unfold aheadE aheadB
    simp only [decide_eq_false_iff_not]
    rcases hc with hc | ⟨hc, hle⟩
    · omega
    · rcases Nat.lt_or_ge j' i with hlt' | hge
      · have := rise_lt hr hj hi hlt'; omega
      · have : i = j' := by omega
        subst this
        rw [hj] at hi; cases hi; omega
end Go.Proofs.Ytfgfjnlkgadkhaa
