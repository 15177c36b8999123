/- What the bound on an input's bulk gives: how long the slices in it are. -/
import Derived.Test.YtonldjkmbapjeaaRows
import Derived.Test.YtonldjkmbapjeaaNest
namespace Go.Proofs.Ytonldjkmbapjeaa.bulks
set_option linter.unusedVariables false
set_option linter.unusedSimpArgs false
open Go Go.RowKit Go.ChangeShapes Go.WideShapes Go.Proofs.YtonldjkmbapjeaaFlat

theorem one_le {H : Type} (d : DataW H) : 1 ≤ Rows.uptoBulk d := by
  cases d with
  | lit l => cases l <;> simp [Rows.uptoBulk]
  | nil => simp [Rows.uptoBulk]
  | ptr d => simp [Rows.uptoBulk]
  | slice elems spare => simp [Rows.uptoBulk]
  | agg parts => simp [Rows.uptoBulk]
  | iface t d => simp [Rows.uptoBulk]
  | map entries => simp [Rows.uptoBulk]
  | held h => simp [Rows.uptoBulk]
theorem part_le {H : Type} {d : DataW H} {l : List (DataW H)} (h : d ∈ l) : Rows.uptoBulk d ≤ Rows.uptoBulkAll l := by
  induction l with
  | nil => cases h
  | cons x r ih =>
    simp only [Rows.uptoBulkAll]
    cases List.mem_cons.1 h with
    | inl e => subst e; omega
    | inr e => have := ih e; omega
theorem append {H : Type} (l r : List (DataW H)) : Rows.uptoBulkAll (l ++ r) = Rows.uptoBulkAll l + Rows.uptoBulkAll r := by
  induction l with
  | nil => simp [Rows.uptoBulkAll]
  | cons x l ih => simp only [List.cons_append, Rows.uptoBulkAll, ih]; omega
theorem length_le {H : Type} (l : List (DataW H)) : l.length ≤ Rows.uptoBulkAll l := by
  induction l with
  | nil => simp [Rows.uptoBulkAll]
  | cons x r ih => have := one_le x; simp only [Rows.uptoBulkAll, List.length_cons]; omega
theorem slice_le {H : Type} (elems spare : List (DataW H)) : elems.length ≤ Rows.uptoBulk (.slice elems spare) ∧ Rows.uptoBulkAll elems ≤ Rows.uptoBulk (.slice elems spare) := by
  have h1 := length_le elems
  simp only [Rows.uptoBulk]
  omega
theorem bound {H : Type} {l : List (DataW H)} (hk : Rows.uptoSmall H l = true) : Rows.uptoBulkAll l ≤ 1048576 := of_decide_eq_true hk
theorem bound_at {H : Type} {l : List (DataW H)} (hk : Rows.uptoSmall H l = true) {d : DataW H} (hd : d ∈ l) : Rows.uptoBulk d ≤ 1048576 := Nat.le_trans (part_le hd) (bound hk)

/-- Every slice among some cells is at most so long. -/
def Short (N : Nat) (cs : List Value) : Prop := ∀ a len cap, Value.slice a len cap ∈ cs → len ≤ N

section
variable {H : Type} {enc : TypeId × Value → H} {P : Program} {w : World} {base : Nat} {spare : Nat → Bool} {held : Bool}
theorem slice_bulk {t e : TypeId} {fuel : Nat} {ao : Option Addr} {len cap : Nat} {x : DataW H × List MemPlace} (hs : P.underlying t = some (.slice e)) (hf : DataW.trod enc P w base spare held fuel t [.slice ao len cap] = some x) : len ≤ Rows.uptoBulk x.1 := by
  rcases Deep.open_slice hs hf with ⟨hcs, _⟩ | ⟨a, len', cap', m, n', D, Pl, hcs, hb, hl, hm, hmm, hx, hi⟩
  · simp at hcs; omega
  · simp only [List.cons.injEq, Value.slice.injEq, and_true] at hcs
    obtain ⟨_, rfl, _⟩ := hcs
    rw [hx]
    have := (slice_le ((List.range len).map D) ((List.range (m - len)).map fun j => D (len + j))).1
    simpa using this
theorem nestFs_short {go : TypeId → Option (List Kn)} {m : Nat}
    (hgo : ∀ t ks cs x, go t = some ks → DataW.trod enc P w base spare held m t cs = some x → Short (Rows.uptoBulk x.1) cs) :
    ∀ (fs : List Field) (off : Nat) (ks : List Kn) (cs : List Value) (xs : List (DataW H × List MemPlace)), nestFs P go off fs = some ks →
      fs.mapM (fun f => DataW.trod enc P w base spare held m f.type ((cs.drop f.offset).take (P.cellsOf f.type))) = some xs → off + ks.length = cs.length →
      Short (Rows.uptoBulkAll (xs.map (·.1))) (cs.drop off)
  | [], off, ks, cs, xs, h, hx, hl => by
    simp only [nestFs, Option.some.injEq] at h
    subst h
    have : cs.drop off = [] := List.drop_eq_nil_of_le (by simp at hl; omega)
    rw [this]
    intro a len cap hm; cases hm
  | f :: fs, off, ks, cs, xs, h, hx, hl => by
    simp only [nestFs] at h
    by_cases ho : f.offset = off
    · rw [if_pos ho] at h
      cases hk : go f.type with
      | none => rw [hk] at h; cases h
      | some k1 =>
        rw [hk] at h
        by_cases hc : P.cellsOf f.type = k1.length
        · simp only [hc, if_true] at h
          cases hr : nestFs P go (off + k1.length) fs with
          | none => rw [hr] at h; cases h
          | some k2 =>
            rw [hr] at h
            simp only [Option.map_some, Option.some.injEq] at h
            subst h
            simp only [List.mapM_cons, Option.bind_eq_bind, Option.bind_eq_some_iff, Option.pure_def, Option.some.injEq] at hx
            obtain ⟨x, hx1, ys, hys, rfl⟩ := hx
            have h1 := hgo _ _ _ _ hk hx1
            have h2 := nestFs_short hgo fs (off + k1.length) k2 cs ys hr hys (by simp at hl; omega)
            have e : cs.drop off = (cs.drop off).take k1.length ++ cs.drop (off + k1.length) := by
              rw [← List.drop_drop]; exact (List.take_append_drop _ _).symm
            rw [e]
            rw [ho, hc] at h1
            intro a len cap hm
            simp only [List.map_cons, Rows.uptoBulkAll]
            rcases List.mem_append.1 hm with hm | hm
            · have := h1 a len cap hm; omega
            · have := h2 a len cap hm; omega
        · simp [hc] at h
    · rw [if_neg ho] at h; cases h
theorem nestK_short : ∀ (n m : Nat) (t : TypeId) (ks : List Kn) (cs : List Value) (x : DataW H × List MemPlace), nestK P n t = some ks →
    DataW.trod enc P w base spare held m t cs = some x → Short (Rows.uptoBulk x.1) cs
  | 0, _, _, _, _, _, h, _ => by cases h
  | n + 1, 0, t, ks, cs, x, _, hx => by simp [DataW.trod] at hx
  | n + 1, m + 1, t, ks, cs, x, h, hx => by
    simp only [nestK] at h
    cases hu : P.underlying t with
    | none => rw [hu] at h; cases h
    | some d =>
      rw [hu] at h
      cases d with
      | bool =>
        obtain ⟨b, rfl, rfl⟩ := DataW.trod_bool hu hx
        intro a len cap hm; simp at hm
      | int k =>
        obtain ⟨a, rfl, rfl, wa⟩ := DataW.trod_int hu hx
        intro a len cap hm; simp at hm
      | struct fs =>
        simp only [Option.bind_eq_some_iff] at h
        obtain ⟨ks', hk, h⟩ := h
        by_cases hc : P.cellsOf t = ks'.length
        · rw [if_pos hc] at h
          simp only [Option.some.injEq] at h
          subst h
          unfold DataW.trod at hx
          rw [hu] at hx
          simp only [hc] at hx
          by_cases hl : cs.length = ks'.length
          · simp only [hl, if_true, Option.map_eq_some_iff] at hx
            obtain ⟨xs, hp, rfl⟩ := hx
            have h2 := nestFs_short (fun t ks cs x => nestK_short n m t ks cs x) fs.toList 0 ks' cs xs hk hp (by omega)
            intro a len cap hm
            have := h2 a len cap (by simpa using hm)
            simp only [Rows.uptoBulk]; omega
          · simp [hl] at hx
        · rw [if_neg hc] at h; cases h
      | slice e =>
        rcases Deep.open_slice hu hx with ⟨hcs, _⟩ | ⟨a, len', cap', m', n', D, Pl, hcs, _⟩
        · subst hcs; intro a len cap hm; simp at hm; omega
        · subst hcs
          intro a len cap hm
          simp only [List.mem_singleton, Value.slice.injEq] at hm
          obtain ⟨rfl, rfl, rfl⟩ := hm
          exact slice_bulk hu hx
      | _ => simp at h
/-- The slices in the elements of a slice. -/
theorem nests_short {n : Nat} {t e : TypeId} {ks : List Kn} {fuel : Nat} {ao : Option Addr} {len cap : Nat} {L : List (List Value)} {x : DataW H × List MemPlace} (hs : P.underlying t = some (.slice e)) (hk : nestK P n e = some ks) (hC : P.cellsOf e = ks.length)
    (hf : DataW.trod enc P w base spare held fuel t [.slice ao len cap] = some x) (h : IsNest w ks ao len cap L) : ∀ l ∈ L, Short (Rows.uptoBulk x.1) l := by
  intro l hl
  obtain ⟨i, hi', rfl⟩ := List.mem_iff_getElem.1 hl
  obtain ⟨hL, _, _, _, hN, hat⟩ := h
  have hil : i < len := by omega
  obtain ⟨b, off, hao, _, hcell⟩ := hat (by omega)
  rcases Deep.open_slice hs hf with ⟨hcs, _⟩ | ⟨a, len', cap', m, n', D, Pl, hcs, hb, hl', hm, hmm, hx, hi⟩
  · simp at hcs; omega
  · simp only [List.cons.injEq, Value.slice.injEq, and_true] at hcs
    obtain ⟨hca, rfl, rfl⟩ := hcs
    rw [hao] at hca
    simp only [Option.some.injEq] at hca
    subst hca
    have hml : len ≤ m := by rw [hmm]; split <;> omega
    obtain ⟨cs', h1, h2⟩ := hi i (by omega)
    have hsh := nestK_short n n' e ks cs' _ hk h2
    obtain ⟨_, hlen, hat2⟩ := World.cells?_some h1
    have hll : ∀ {ks : List Kn} {l : List Value}, NestOk w ks l → l.length = ks.length := by
      intro ks
      induction ks with
      | nil => intro l h; cases h; rfl
      | cons k ks ih => intro l h; obtain ⟨c, r, rfl, _, hr⟩ := h; simp [ih hr]
    have hlen2 : L[i].length = ks.length := hll (hN _ (List.getElem_mem _))
    have e1 : L[i] = cs' := by
      refine List.ext_getElem (by omega) fun j hj hj' => ?_
      have a1 := hcell i L[i] (List.getElem?_eq_getElem hi') j L[i][j] (List.getElem?_eq_getElem hj)
      have a2 := hat2 j (by omega)
      rw [List.getElem?_eq_getElem hj'] at a2
      have a3 : w.cell? ⟨b, off + (i * ks.length + j), none⟩ = some cs'[j] := by
        rw [← a2, hC]
        congr 1
        simp only [Addr.add]
        split <;> split <;> simp_all <;> omega
      rw [a1] at a3
      simpa using a3
    rw [e1]
    intro a2 len2 cap2 hmem
    have h3 := hsh a2 len2 cap2 hmem
    have h4 : Rows.uptoBulk (D i) ≤ Rows.uptoBulk x.1 := by
      rw [hx]
      refine Nat.le_trans (part_le (l := (List.range len).map D) ?_) (slice_le _ _).2
      exact List.mem_map.2 ⟨i, List.mem_range.2 hil, rfl⟩
    exact Nat.le_trans h3 h4
theorem short_nests {n : Nat} {t e : TypeId} {ks : List Kn} {ao : Option Addr} {len cap : Nat} {L : List (List Value)} {d : DataW H} {p : List MemPlace} {N : Nat} (hs : P.underlying t = some (.slice e)) (hk : nestK P n e = some ks) (hC : P.cellsOf e = ks.length)
    (hf : DataW.Trod enc P w base spare held t (.slice ao len cap) d p) (h : IsNest w ks ao len cap L) (hN : Rows.uptoBulk d ≤ N) : ∀ l ∈ L, Short N l := by
  obtain ⟨fuel, hf⟩ := hf
  intro l hl a len2 cap2 hm
  exact Nat.le_trans (nests_short hs hk hC hf h l hl a len2 cap2 hm) hN
theorem short_nest {n : Nat} {t : TypeId} {ks : List Kn} {cs : List Value} {d : DataW H} {p : List MemPlace} {N : Nat} (hk : nestK P n t = some ks)
    (hf : DataW.Trod enc P w base spare held t (.agg cs.toArray) d p) (hN : Rows.uptoBulk d ≤ N) : Short N cs := by
  obtain ⟨fuel, hf⟩ := hf
  intro a len2 cap2 hm
  exact Nat.le_trans (nestK_short n fuel t ks _ _ hk hf a len2 cap2 (by simpa [Value.cells] using hm)) hN
end
end Go.Proofs.Ytonldjkmbapjeaa.bulks
