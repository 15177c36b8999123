/- Several texts in one: Flat FlatI Nest. -/
import Derived.ProofKit
import Derived.Below
import Derived.Carry
import Derived.ChangeOld
import Derived.Deep.Slices
import Derived.Test.YtdjooacjjnjfmaaGreatGa
import Derived.OpenShut
-- How an argument that holds no pointer reads: a whole number, a truth, a struct of such, cell by cell. Over any program.
section
namespace Go.Proofs.YtdjooacjjnjfmaaGreatFlat
set_option linter.unusedVariables false
set_option linter.unusedSimpArgs false
open Go Go.RowKit Go.ChangeShapes Go.WideShapes

/-- A cell's kind. -/
inductive Kd where
  | bool
  | int (k : IntKind)
  deriving DecidableEq

def KdOk : Kd → Value → Prop
  | .bool, c => ∃ b, c = .bool b
  | .int k, c => ∃ n, c = .int k n ∧ (Lit.int k n).wf = true

/-- Cells that are of these kinds, one by one. -/
def FlatOk : List Kd → List Value → Prop
  | [], cs => cs = []
  | k :: ks, cs => ∃ c r, cs = c :: r ∧ KdOk k c ∧ FlatOk ks r

theorem FlatOk.append {ks ls : List Kd} {cs ds : List Value} (h : FlatOk ks cs) (h' : FlatOk ls ds) : FlatOk (ks ++ ls) (cs ++ ds) := by
  induction ks generalizing cs with
  | nil => cases h; exact h'
  | cons k ks ih =>
    obtain ⟨c, r, rfl, hc, hr⟩ := h
    exact ⟨c, r ++ ds, rfl, hc, ih hr⟩
theorem FlatOk.length {ks : List Kd} {cs : List Value} (h : FlatOk ks cs) : cs.length = ks.length := by
  induction ks generalizing cs with
  | nil => cases h; rfl
  | cons k ks ih => obtain ⟨c, r, rfl, hc, hr⟩ := h; simp [ih hr]

def flatFs (P : Program) (go : TypeId → Option (List Kd)) : Nat → List Field → Option (List Kd)
  | _, [] => some []
  | off, f :: fs =>
    if f.offset = off then
      match go f.type with
      | some ks => if P.cellsOf f.type = ks.length then (flatFs P go (off + ks.length) fs).map (ks ++ ·) else none
      | none => none
    else none

def flatK (P : Program) : Nat → TypeId → Option (List Kd)
  | 0, _ => none
  | n + 1, t => match P.underlying t with
    | some .bool => some [.bool]
    | some (.int k) => some [.int k]
    | some (.struct fs) => (flatFs P (flatK P n) 0 fs.toList).bind fun ks => if P.cellsOf t = ks.length then some ks else none
    | _ => none

section
variable {H : Type} {enc : TypeId × Value → H} {P : Program} {w : World} {base : Nat} {spare : Nat → Bool} {held : Bool}

theorem flatFs_ok {go : TypeId → Option (List Kd)} {m : Nat}
    (hgo : ∀ t ks cs x, go t = some ks → DataW.trod enc P w base spare held m t cs = some x → FlatOk ks cs ∧ x.2 = []) :
    ∀ (fs : List Field) (off : Nat) (ks : List Kd) (cs : List Value) (xs : List (DataW H × List MemPlace)), flatFs P go off fs = some ks →
      fs.mapM (fun f => DataW.trod enc P w base spare held m f.type ((cs.drop f.offset).take (P.cellsOf f.type))) = some xs → off + ks.length = cs.length →
      FlatOk ks (cs.drop off) ∧ xs.flatMap (·.2) = []
  | [], off, ks, cs, xs, h, hx, hl => by
    simp only [flatFs, Option.some.injEq] at h
    subst h
    simp at hx
    subst hx
    refine ⟨?_, rfl⟩
    show cs.drop off = []
    apply List.drop_eq_nil_of_le
    simp at hl; omega
  | f :: fs, off, ks, cs, xs, h, hx, hl => by
    simp only [flatFs] at h
    by_cases ho : f.offset = off
    · rw [if_pos ho] at h
      cases hk : go f.type with
      | none => rw [hk] at h; cases h
      | some k1 =>
        rw [hk] at h
        by_cases hc : P.cellsOf f.type = k1.length
        · simp only [hc, if_true] at h
          cases hr : flatFs P go (off + k1.length) fs with
          | none => rw [hr] at h; cases h
          | some k2 =>
            rw [hr] at h
            simp only [Option.map_some, Option.some.injEq] at h
            subst h
            simp only [List.mapM_cons, Option.bind_eq_bind, Option.bind_eq_some_iff, Option.pure_def, Option.some.injEq] at hx
            obtain ⟨x, hx1, ys, hys, rfl⟩ := hx
            obtain ⟨h1, h1'⟩ := hgo _ _ _ _ hk hx1
            obtain ⟨h2, h2'⟩ := flatFs_ok hgo fs (off + k1.length) k2 cs ys hr hys (by simp at hl; omega)
            refine ⟨?_, by simp only [List.flatMap_cons, h1', h2']; rfl⟩
            have e : cs.drop off = (cs.drop off).take k1.length ++ cs.drop (off + k1.length) := by
              rw [← List.drop_drop]; exact (List.take_append_drop _ _).symm
            rw [e]
            rw [ho, hc] at h1
            exact h1.append h2
        · simp [hc] at h
    · rw [if_neg ho] at h; cases h

theorem flatK_ok : ∀ (n m : Nat) (t : TypeId) (ks : List Kd) (cs : List Value) (x : DataW H × List MemPlace), flatK P n t = some ks →
    DataW.trod enc P w base spare held m t cs = some x → FlatOk ks cs ∧ x.2 = []
  | 0, _, _, _, _, _, h, _ => by cases h
  | n + 1, 0, t, ks, cs, x, _, hx => by simp [DataW.trod] at hx
  | n + 1, m + 1, t, ks, cs, x, h, hx => by
    simp only [flatK] at h
    cases hu : P.underlying t with
    | none => rw [hu] at h; cases h
    | some d =>
      rw [hu] at h
      cases d with
      | bool =>
        simp only [Option.some.injEq] at h
        subst h
        obtain ⟨b, rfl, rfl⟩ := DataW.trod_bool hu hx
        exact ⟨⟨_, [], rfl, ⟨_, rfl⟩, rfl⟩, rfl⟩
      | int k =>
        simp only [Option.some.injEq] at h
        subst h
        obtain ⟨a, rfl, rfl, wa⟩ := DataW.trod_int hu hx
        exact ⟨⟨_, [], rfl, ⟨_, rfl, wa⟩, rfl⟩, rfl⟩
      | struct fs =>
        simp only [Option.bind_eq_some_iff] at h
        obtain ⟨ks', hk, h⟩ := h
        by_cases hc : P.cellsOf t = ks'.length
        · rw [if_pos hc] at h
          simp only [Option.some.injEq] at h
          subst h
          unfold DataW.trod at hx
          rw [hu] at hx
          simp only [hc] at hx
          by_cases hl : cs.length = ks'.length
          · simp only [hl, if_true, Option.map_eq_some_iff] at hx
            obtain ⟨xs, hp, rfl⟩ := hx
            have := flatFs_ok (fun t ks cs x => flatK_ok n m t ks cs x) fs.toList 0 ks' cs xs hk hp (by omega)
            simpa using this
          · simp [hl] at hx
        · rw [if_neg hc] at h; cases h
      | _ => simp at h
/-- A struct that came in by value. -/
theorem open_flat {n : Nat} {t : TypeId} {fs : Array Field} {ks : List Kd} {v : Value} {d : DataW H} {p : List MemPlace} {r : Reach} {b0 : Nat} (hs : P.underlying t = some (.struct fs)) (hk : flatK P n t = some ks)
    (hv : Value.okWide P w r b0 t v) (h : DataW.Trod enc P w base spare held t v d p) : ∃ cs : List Value, v = .agg cs.toArray ∧ FlatOk ks cs := by
  obtain ⟨cs, rfl, hc⟩ := okWide_struct hs hv
  obtain ⟨m, hm⟩ := h
  exact ⟨cs.toList, by simp, (flatK_ok n m t ks _ _ hk hm).1⟩

/-- What is known of a slice of such that came in: 'L' is its elements' cells. -/
def IsRows (w : World) (ks : List Kd) (ao : Option Addr) (len cap : Nat) (L : List (List Value)) : Prop :=
  L.length = len ∧ len ≤ cap ∧ cap ≤ maxLen ∧ (ao = none → len = 0 ∧ cap = 0) ∧ (∀ l ∈ L, FlatOk ks l) ∧
  (0 < len → ∃ b off, ao = some ⟨b, off, none⟩ ∧ b < w.heap.size ∧ ∀ i l, L[i]? = some l → ∀ j c, l[j]? = some c → w.cell? ⟨b, off + (i * ks.length + j), none⟩ = some c)

theorem mapM_range_some {α : Type} {f : Nat → Option α} : ∀ (n : Nat), (∀ i, i < n → ∃ y, f i = some y) → ∃ L : List α, L.length = n ∧ ∀ i l, L[i]? = some l → f i = some l
  | 0, _ => ⟨[], rfl, fun i l h => by simp at h⟩
  | n + 1, h => by
    obtain ⟨L, hL, hf⟩ := mapM_range_some n (fun i hi => h i (by omega))
    obtain ⟨y, hy⟩ := h n (by omega)
    refine ⟨L ++ [y], by simp [hL], fun i l hi => ?_⟩
    rw [List.getElem?_append] at hi
    by_cases hlt : i < L.length
    · rw [if_pos hlt] at hi; exact hf i l hi
    · rw [if_neg hlt] at hi
      have : i = L.length := by
        by_cases h0 : i - L.length = 0
        · omega
        · rw [List.getElem?_eq_none (by simp; omega)] at hi; cases hi
      subst this
      simp at hi
      subst hi
      rw [hL]; exact hy

theorem open_flats {n : Nat} {t e : TypeId} {ks : List Kd} {v : Value} {d : DataW H} {p : List MemPlace} {r : Reach} {b0 : Nat} (hs : P.underlying t = some (.slice e)) (hk : flatK P n e = some ks) (hC : P.cellsOf e = ks.length) (hpos : 0 < ks.length)
    (hv : Value.okWide P w r b0 t v) (h : DataW.Trod enc P w base spare held t v d p) : ∃ ao len cap L, v = .slice ao len cap ∧ IsRows w ks ao len cap L := by
  obtain ⟨ao, len, cap, rfl⟩ := okWide_slice hs hv
  obtain ⟨fuel, hf⟩ := h
  refine ⟨ao, len, cap, ?_⟩
  rcases Deep.open_slice hs hf with ⟨hcs, _⟩ | ⟨a, len', cap', m, n', D, Pl, hcs, hb, hl, hm, hmm, hx, hi⟩
  · simp [Value.cells] at hcs
    obtain ⟨rfl, rfl, rfl⟩ := hcs
    exact ⟨[], rfl, rfl, by omega, by unfold maxLen; omega, (fun _ => ⟨rfl, rfl⟩), (fun l hl => by cases hl), fun h => by omega⟩
  · simp [Value.cells] at hcs
    obtain ⟨rfl, rfl, rfl⟩ := hcs
    have hml : len ≤ m := by rw [hmm]; split <;> omega
    obtain ⟨L, hL, hLf⟩ := mapM_range_some (f := fun i => w.cells? base (a.add (i * P.cellsOf e)) (P.cellsOf e)) len (fun i hi' => let ⟨cs', h1, _⟩ := hi i (by omega); ⟨cs', h1⟩)
    have hflat : ∀ (i : Nat) (l : List Value), L[i]? = some l → FlatOk ks l := by
      intro i l hl'
      have hil : i < len := by rw [← hL]; exact (List.getElem?_eq_some_iff.1 hl').1
      obtain ⟨cs', h1, h2⟩ := hi i (by omega)
      have e1 := hLf i l hl'
      simp only [h1, Option.some.injEq] at e1
      subst e1
      exact (flatK_ok n n' e ks _ _ hk h2).1
    refine ⟨L, rfl, hL, hl, hm, (fun h => by cases h), fun l hl' => ?_, fun hpos' => ?_⟩
    · obtain ⟨i, hi', rfl⟩ := List.mem_iff_getElem.1 hl'
      exact hflat i _ (List.getElem?_eq_getElem hi')
    · obtain ⟨b, off, sp⟩ := a
      have hsp : sp = none := by
        obtain ⟨cs', h1, h2⟩ := hi 0 (by omega)
        obtain ⟨_, hlen, hat⟩ := World.cells?_some h1
        have h0 := hat 0 (by omega)
        rw [List.getElem?_eq_getElem (by omega)] at h0
        cases sp with
        | none => rfl
        | some q =>
          exfalso
          simp only [Addr.add, Nat.zero_mul, if_true] at h0
          simp only [World.cell?] at h0
          split at h0 <;> simp at h0
      subst hsp
      refine ⟨b, off, rfl, ?_, fun i l hl' j c hj => ?_⟩
      · obtain ⟨cs', h1, h2⟩ := hi 0 (by omega)
        obtain ⟨_, hlen, hat⟩ := World.cells?_some h1
        have h0 := hat 0 (by omega)
        rw [List.getElem?_eq_getElem (by omega)] at h0
        simp only [Addr.add, Nat.zero_mul, if_true] at h0
        exact World.block_lt_of_cell? w ⟨b, off, none⟩ h0
      · have e1 := hLf i l hl'
        obtain ⟨_, hlen, hat⟩ := World.cells?_some e1
        have hjl : j < P.cellsOf e := by rw [← hlen]; exact (List.getElem?_eq_some_iff.1 hj).1
        have h0 := hat j hjl
        rw [hj] at h0
        rw [← h0, hC]
        congr 1
        simp only [Addr.add]
        split <;> split <;> simp_all <;> omega
end
end Go.Proofs.YtdjooacjjnjfmaaGreatFlat
end

-- A slice of numbers that came in.
section
namespace Go.Proofs.YtdjooacjjnjfmaaGreatMem
set_option linter.unusedVariables false
set_option linter.unusedSimpArgs false
open Go Go.RowKit Go.Proofs.YtdjooacjjnjfmaaGreatFlat

theorem wf_I64 {n : Int} (h : (Lit.int .i64 n).wf = true) : I64 n := i64_of_wf h

theorem rows_ints {L : List (List Value)} (h : ∀ l ∈ L, FlatOk [.int .i64] l) : ∃ zs : List Int, L = zs.map (fun z => [Value.int .i64 z]) ∧ ∀ z ∈ zs, I64 z := by
  induction L with
  | nil => exact ⟨[], rfl, fun z hz => by cases hz⟩
  | cons l L ih =>
    obtain ⟨zs, rfl, hz⟩ := ih fun l hl => h l (List.mem_cons_of_mem _ hl)
    obtain ⟨c, r, rfl, ⟨n, rfl, hw⟩, rfl⟩ := h l (List.mem_cons_self ..)
    refine ⟨n :: zs, rfl, fun z hz' => ?_⟩
    rcases List.mem_cons.1 hz' with rfl | hz'
    · exact wf_I64 hw
    · exact hz z hz'

theorem isRows_rdI {w : World} {ao : Option Addr} {len cap : Nat} {L : List (List Value)} (h : IsRows w [.int .i64] ao len cap L) : ∃ zs, RdI w ao len cap zs := by
  obtain ⟨hl, hc, hm, hn, hf, hat⟩ := h
  obtain ⟨zs, rfl, hz⟩ := rows_ints hf
  simp only [List.length_map] at hl
  refine ⟨zs, hl, hc, hn, by unfold maxLen at hm; omega, hz, fun k hk => ?_⟩
  obtain ⟨b, off, he, hb, hcell⟩ := hat (by omega)
  refine ⟨b, off, he, hb, ?_⟩
  have hk' : k < zs.length := by omega
  have h2 := hcell k [Value.int .i64 (nth zs k)] (by simp [hk', nth_eq hk']) 0 _ rfl
  simpa using h2
end Go.Proofs.YtdjooacjjnjfmaaGreatMem
end

-- How an argument reads whose structs hold slices of plain structs. Over any program.
section
namespace Go.Proofs.YtdjooacjjnjfmaaGreatFlat
set_option linter.unusedVariables false
set_option linter.unusedSimpArgs false
open Go Go.RowKit Go.ChangeShapes Go.WideShapes

/-- A cell's kind: plain, or a slice of plain structs. -/
inductive Kn where
  | k (k : Kd)
  | rows (ks : List Kd)
  deriving DecidableEq
def KnOk (w : World) : Kn → Value → Prop
  | .k k, c => KdOk k c
  | .rows ks, c => ∃ ao len cap L, c = .slice ao len cap ∧ IsRows w ks ao len cap L
def NestOk (w : World) : List Kn → List Value → Prop
  | [], cs => cs = []
  | k :: ks, cs => ∃ c r, cs = c :: r ∧ KnOk w k c ∧ NestOk w ks r
theorem NestOk.append {w : World} {ks ls : List Kn} {cs ds : List Value} (h : NestOk w ks cs) (h' : NestOk w ls ds) : NestOk w (ks ++ ls) (cs ++ ds) := by
  induction ks generalizing cs with
  | nil => cases h; exact h'
  | cons k ks ih =>
    obtain ⟨c, r, rfl, hc, hr⟩ := h
    exact ⟨c, r ++ ds, rfl, hc, ih hr⟩

def nestFs (P : Program) (go : TypeId → Option (List Kn)) : Nat → List Field → Option (List Kn)
  | _, [] => some []
  | off, f :: fs =>
    if f.offset = off then
      match go f.type with
      | some ks => if P.cellsOf f.type = ks.length then (nestFs P go (off + ks.length) fs).map (ks ++ ·) else none
      | none => none
    else none

def nestK (P : Program) : Nat → TypeId → Option (List Kn)
  | 0, _ => none
  | n + 1, t => match P.underlying t with
    | some .bool => some [.k .bool]
    | some (.int k) => some [.k (.int k)]
    | some (.struct fs) => (nestFs P (nestK P n) 0 fs.toList).bind fun ks => if P.cellsOf t = ks.length then some ks else none
    | some (.slice e) => match flatK P n e with
      | some ks => if P.cellsOf e = ks.length ∧ 0 < ks.length then some [.rows ks] else none
      | none => none
    | _ => none

section
variable {H : Type} {enc : TypeId × Value → H} {P : Program} {w : World} {base : Nat} {spare : Nat → Bool} {held : Bool}

theorem rows_of_trod {n : Nat} {t e : TypeId} {ks : List Kd} {fuel : Nat} {cs : List Value} {x : DataW H × List MemPlace} (hs : P.underlying t = some (.slice e)) (hk : flatK P n e = some ks) (hC : P.cellsOf e = ks.length) (hpos : 0 < ks.length)
    (hf : DataW.trod enc P w base spare held fuel t cs = some x) : ∃ ao len cap L, cs = [.slice ao len cap] ∧ IsRows w ks ao len cap L := by
  rcases Deep.open_slice hs hf with ⟨hcs, _⟩ | ⟨a, len, cap, m, n', D, Pl, hcs, hb, hl, hm, hmm, hx, hi⟩
  · subst hcs
    exact ⟨none, 0, 0, [], rfl, rfl, by omega, by unfold maxLen; omega, (fun _ => ⟨rfl, rfl⟩), (fun l hl => by cases hl), fun h => by omega⟩
  · subst hcs
    have hml : len ≤ m := by rw [hmm]; split <;> omega
    obtain ⟨L, hL, hLf⟩ := mapM_range_some (f := fun i => w.cells? base (a.add (i * P.cellsOf e)) (P.cellsOf e)) len (fun i hi' => let ⟨cs', h1, _⟩ := hi i (by omega); ⟨cs', h1⟩)
    have hflat : ∀ (i : Nat) (l : List Value), L[i]? = some l → FlatOk ks l := by
      intro i l hl'
      have hil : i < len := by rw [← hL]; exact (List.getElem?_eq_some_iff.1 hl').1
      obtain ⟨cs', h1, h2⟩ := hi i (by omega)
      have e1 := hLf i l hl'
      simp only [h1, Option.some.injEq] at e1
      subst e1
      exact (flatK_ok n n' e ks _ _ hk h2).1
    refine ⟨some a, len, cap, L, rfl, hL, hl, hm, (fun h => by cases h), fun l hl' => ?_, fun hpos' => ?_⟩
    · obtain ⟨i, hi', rfl⟩ := List.mem_iff_getElem.1 hl'
      exact hflat i _ (List.getElem?_eq_getElem hi')
    · obtain ⟨b, off, sp⟩ := a
      have hsp : sp = none := by
        obtain ⟨cs', h1, h2⟩ := hi 0 (by omega)
        obtain ⟨_, hlen, hat⟩ := World.cells?_some h1
        have h0 := hat 0 (by omega)
        rw [List.getElem?_eq_getElem (by omega)] at h0
        cases sp with
        | none => rfl
        | some q =>
          exfalso
          simp only [Addr.add, Nat.zero_mul, if_true] at h0
          simp only [World.cell?] at h0
          split at h0 <;> simp at h0
      subst hsp
      refine ⟨b, off, rfl, ?_, fun i l hl' j c hj => ?_⟩
      · obtain ⟨cs', h1, h2⟩ := hi 0 (by omega)
        obtain ⟨_, hlen, hat⟩ := World.cells?_some h1
        have h0 := hat 0 (by omega)
        rw [List.getElem?_eq_getElem (by omega)] at h0
        simp only [Addr.add, Nat.zero_mul, if_true] at h0
        exact World.block_lt_of_cell? w ⟨b, off, none⟩ h0
      · have e1 := hLf i l hl'
        obtain ⟨_, hlen, hat⟩ := World.cells?_some e1
        have hjl : j < P.cellsOf e := by rw [← hlen]; exact (List.getElem?_eq_some_iff.1 hj).1
        have h0 := hat j hjl
        rw [hj] at h0
        rw [← h0, hC]
        congr 1
        simp only [Addr.add]
        split <;> split <;> simp_all <;> omega
theorem nestFs_ok {go : TypeId → Option (List Kn)} {m : Nat}
    (hgo : ∀ t ks cs x, go t = some ks → DataW.trod enc P w base spare held m t cs = some x → NestOk w ks cs) :
    ∀ (fs : List Field) (off : Nat) (ks : List Kn) (cs : List Value) (xs : List (DataW H × List MemPlace)), nestFs P go off fs = some ks →
      fs.mapM (fun f => DataW.trod enc P w base spare held m f.type ((cs.drop f.offset).take (P.cellsOf f.type))) = some xs → off + ks.length = cs.length →
      NestOk w ks (cs.drop off)
  | [], off, ks, cs, xs, h, hx, hl => by
    simp only [nestFs, Option.some.injEq] at h
    subst h
    simp at hx
    subst hx
    show cs.drop off = []
    apply List.drop_eq_nil_of_le
    simp at hl; omega
  | f :: fs, off, ks, cs, xs, h, hx, hl => by
    simp only [nestFs] at h
    by_cases ho : f.offset = off
    · rw [if_pos ho] at h
      cases hk : go f.type with
      | none => rw [hk] at h; cases h
      | some k1 =>
        rw [hk] at h
        by_cases hc : P.cellsOf f.type = k1.length
        · simp only [hc, if_true] at h
          cases hr : nestFs P go (off + k1.length) fs with
          | none => rw [hr] at h; cases h
          | some k2 =>
            rw [hr] at h
            simp only [Option.map_some, Option.some.injEq] at h
            subst h
            simp only [List.mapM_cons, Option.bind_eq_bind, Option.bind_eq_some_iff, Option.pure_def, Option.some.injEq] at hx
            obtain ⟨x, hx1, ys, hys, rfl⟩ := hx
            have h1 := hgo _ _ _ _ hk hx1
            have h2 := nestFs_ok hgo fs (off + k1.length) k2 cs ys hr hys (by simp at hl; omega)
            have e : cs.drop off = (cs.drop off).take k1.length ++ cs.drop (off + k1.length) := by
              rw [← List.drop_drop]; exact (List.take_append_drop _ _).symm
            rw [e]
            rw [ho, hc] at h1
            exact h1.append h2
        · simp [hc] at h
    · rw [if_neg ho] at h; cases h

theorem nestK_ok : ∀ (n m : Nat) (t : TypeId) (ks : List Kn) (cs : List Value) (x : DataW H × List MemPlace), nestK P n t = some ks →
    DataW.trod enc P w base spare held m t cs = some x → NestOk w ks cs
  | 0, _, _, _, _, _, h, _ => by cases h
  | n + 1, 0, t, ks, cs, x, _, hx => by simp [DataW.trod] at hx
  | n + 1, m + 1, t, ks, cs, x, h, hx => by
    simp only [nestK] at h
    cases hu : P.underlying t with
    | none => rw [hu] at h; cases h
    | some d =>
      rw [hu] at h
      cases d with
      | bool =>
        simp only [Option.some.injEq] at h
        subst h
        obtain ⟨b, rfl, rfl⟩ := DataW.trod_bool hu hx
        exact ⟨_, [], rfl, ⟨_, rfl⟩, rfl⟩
      | int k =>
        simp only [Option.some.injEq] at h
        subst h
        obtain ⟨a, rfl, rfl, wa⟩ := DataW.trod_int hu hx
        exact ⟨_, [], rfl, ⟨_, rfl, wa⟩, rfl⟩
      | struct fs =>
        simp only [Option.bind_eq_some_iff] at h
        obtain ⟨ks', hk, h⟩ := h
        by_cases hc : P.cellsOf t = ks'.length
        · rw [if_pos hc] at h
          simp only [Option.some.injEq] at h
          subst h
          unfold DataW.trod at hx
          rw [hu] at hx
          simp only [hc] at hx
          by_cases hl : cs.length = ks'.length
          · simp only [hl, if_true, Option.map_eq_some_iff] at hx
            obtain ⟨xs, hp, rfl⟩ := hx
            have := nestFs_ok (fun t ks cs x => nestK_ok n m t ks cs x) fs.toList 0 ks' cs xs hk hp (by omega)
            simpa using this
          · simp [hl] at hx
        · rw [if_neg hc] at h; cases h
      | slice e =>
        dsimp only at h
        cases hk : flatK P n e with
        | none => rw [hk] at h; cases h
        | some k1 =>
          rw [hk] at h
          dsimp only at h
          by_cases hc : P.cellsOf e = k1.length ∧ 0 < k1.length
          · rw [if_pos hc] at h
            simp only [Option.some.injEq] at h
            subst h
            obtain ⟨ao, len, cap, L, rfl, hL⟩ := rows_of_trod hu hk hc.1 hc.2 hx
            exact ⟨_, [], rfl, ⟨ao, len, cap, L, rfl, hL⟩, rfl⟩
          · rw [if_neg hc] at h; cases h
      | _ => simp at h

/-- What is known of a slice of such structs that came in. -/
def IsNest (w : World) (ks : List Kn) (ao : Option Addr) (len cap : Nat) (L : List (List Value)) : Prop :=
  L.length = len ∧ len ≤ cap ∧ cap ≤ maxLen ∧ (ao = none → len = 0 ∧ cap = 0) ∧ (∀ l ∈ L, NestOk w ks l) ∧
  (0 < len → ∃ b off, ao = some ⟨b, off, none⟩ ∧ b < w.heap.size ∧ ∀ i l, L[i]? = some l → ∀ j c, l[j]? = some c → w.cell? ⟨b, off + (i * ks.length + j), none⟩ = some c)
theorem nests_of_trod {n : Nat} {t e : TypeId} {ks : List Kn} {fuel : Nat} {cs : List Value} {x : DataW H × List MemPlace} (hs : P.underlying t = some (.slice e)) (hk : nestK P n e = some ks) (hC : P.cellsOf e = ks.length) (hpos : 0 < ks.length)
    (hf : DataW.trod enc P w base spare held fuel t cs = some x) : ∃ ao len cap L, cs = [.slice ao len cap] ∧ IsNest w ks ao len cap L := by
  rcases Deep.open_slice hs hf with ⟨hcs, _⟩ | ⟨a, len, cap, m, n', D, Pl, hcs, hb, hl, hm, hmm, hx, hi⟩
  · subst hcs
    exact ⟨none, 0, 0, [], rfl, rfl, by omega, by unfold maxLen; omega, (fun _ => ⟨rfl, rfl⟩), (fun l hl => by cases hl), fun h => by omega⟩
  · subst hcs
    have hml : len ≤ m := by rw [hmm]; split <;> omega
    obtain ⟨L, hL, hLf⟩ := mapM_range_some (f := fun i => w.cells? base (a.add (i * P.cellsOf e)) (P.cellsOf e)) len (fun i hi' => let ⟨cs', h1, _⟩ := hi i (by omega); ⟨cs', h1⟩)
    have hflat : ∀ (i : Nat) (l : List Value), L[i]? = some l → NestOk w ks l := by
      intro i l hl'
      have hil : i < len := by rw [← hL]; exact (List.getElem?_eq_some_iff.1 hl').1
      obtain ⟨cs', h1, h2⟩ := hi i (by omega)
      have e1 := hLf i l hl'
      simp only [h1, Option.some.injEq] at e1
      subst e1
      exact nestK_ok n n' e ks _ _ hk h2
    refine ⟨some a, len, cap, L, rfl, hL, hl, hm, (fun h => by cases h), fun l hl' => ?_, fun hpos' => ?_⟩
    · obtain ⟨i, hi', rfl⟩ := List.mem_iff_getElem.1 hl'
      exact hflat i _ (List.getElem?_eq_getElem hi')
    · obtain ⟨b, off, sp⟩ := a
      have hsp : sp = none := by
        obtain ⟨cs', h1, h2⟩ := hi 0 (by omega)
        obtain ⟨_, hlen, hat⟩ := World.cells?_some h1
        have h0 := hat 0 (by omega)
        rw [List.getElem?_eq_getElem (by omega)] at h0
        cases sp with
        | none => rfl
        | some q =>
          exfalso
          simp only [Addr.add, Nat.zero_mul, if_true] at h0
          simp only [World.cell?] at h0
          split at h0 <;> simp at h0
      subst hsp
      refine ⟨b, off, rfl, ?_, fun i l hl' j c hj => ?_⟩
      · obtain ⟨cs', h1, h2⟩ := hi 0 (by omega)
        obtain ⟨_, hlen, hat⟩ := World.cells?_some h1
        have h0 := hat 0 (by omega)
        rw [List.getElem?_eq_getElem (by omega)] at h0
        simp only [Addr.add, Nat.zero_mul, if_true] at h0
        exact World.block_lt_of_cell? w ⟨b, off, none⟩ h0
      · have e1 := hLf i l hl'
        obtain ⟨_, hlen, hat⟩ := World.cells?_some e1
        have hjl : j < P.cellsOf e := by rw [← hlen]; exact (List.getElem?_eq_some_iff.1 hj).1
        have h0 := hat j hjl
        rw [hj] at h0
        rw [← h0, hC]
        congr 1
        simp only [Addr.add]
        split <;> split <;> simp_all <;> omega
/-- A struct that came in by value. -/
theorem open_nest {n : Nat} {t : TypeId} {fs : Array Field} {ks : List Kn} {v : Value} {d : DataW H} {p : List MemPlace} {r : Reach} {b0 : Nat} (hs : P.underlying t = some (.struct fs)) (hk : nestK P n t = some ks)
    (hv : Value.okWide P w r b0 t v) (h : DataW.Trod enc P w base spare held t v d p) : ∃ cs : List Value, v = .agg cs.toArray ∧ NestOk w ks cs := by
  obtain ⟨cs, rfl, hc⟩ := okWide_struct hs hv
  obtain ⟨m, hm⟩ := h
  exact ⟨cs.toList, by simp, nestK_ok n m t ks _ _ hk hm⟩
theorem open_nests {n : Nat} {t e : TypeId} {ks : List Kn} {v : Value} {d : DataW H} {p : List MemPlace} {r : Reach} {b0 : Nat} (hs : P.underlying t = some (.slice e)) (hk : nestK P n e = some ks) (hC : P.cellsOf e = ks.length) (hpos : 0 < ks.length)
    (hv : Value.okWide P w r b0 t v) (h : DataW.Trod enc P w base spare held t v d p) : ∃ ao len cap L, v = .slice ao len cap ∧ IsNest w ks ao len cap L := by
  obtain ⟨ao, len, cap, rfl⟩ := okWide_slice hs hv
  obtain ⟨fuel, hf⟩ := h
  obtain ⟨ao', len', cap', L, e, hL⟩ := nests_of_trod hs hk hC hpos hf
  simp [Value.cells] at e
  obtain ⟨rfl, rfl, rfl⟩ := e
  exact ⟨_, _, _, L, rfl, hL⟩
end
end Go.Proofs.YtdjooacjjnjfmaaGreatFlat
end
