/- A set of flows: the entries of those that have packets, in the order in which the map gives them. -/
import Derived.Test.YtfgfjnlkgadkhaaSfq3
import Derived.Test.YtfgfjnlkgadkhaaMapR
namespace Go.Proofs.Ytfgfjnlkgadkhaa
set_option linter.unusedVariables false
set_option linter.unusedSimpArgs false
set_option maxRecDepth 20000
open Go.RowKit Go.Proofs.YtfgfjnlkgadkhaaMem Go.Proofs.YtfgfjnlkgadkhaaMapK

theorem EE : ElT Try.prog 91 95 (.agg #[.int .u64 0, .int .i64 0]) 2 := ⟨Try.underlying91, ⟨16, by kernel_rfl, by omega⟩, rfl, by omega⟩
/-- Entries: a start, a flow's number. -/
def entC : List (Int × Int) → List Value
  | [] => []
  | e :: l => .int .u64 e.1 :: .int .i64 e.2 :: entC l
theorem entC_append (a c : List (Int × Int)) : entC (a ++ c) = entC a ++ entC c := by induction a with
  | nil => rfl
  | cons e a ih => simp [entC, ih]
theorem entC_length (l : List (Int × Int)) : (entC l).length = l.length * 2 := by
  induction l with
  | nil => rfl
  | cons e l ih => simp only [entC, List.length_cons, ih]; omega
theorem entC_one (l : List (Int × Int)) : ∀ u ∈ entC l, u.oneCell' = true := by
  induction l with
  | nil => intro u hu; cases hu
  | cons e l ih =>
    intro u hu
    simp only [entC, List.mem_cons] at hu
    rcases hu with rfl | rfl | hu
    · rfl
    · rfl
    · exact ih u hu
def entL (fs : List (Int × FlS)) : List (Int × Int) := (fs.filter fun e => e.2.has).map fun e => (e.2.start, e.1)
theorem entL_append (a c : List (Int × FlS)) : entL (a ++ c) = entL a ++ entL c := by simp [entL]
def entR (l : List FlR) : List (Int × Int) := entL (l.map FlR.pl)
theorem entR_append (l : List FlR) (e : FlR) : entR (l ++ [e]) = if e.x.has = true then entR l ++ [(e.x.start, e.id)] else entR l := by
  unfold entR
  rw [List.map_append, entL_append]
  have : entL ([e].map FlR.pl) = if e.x.has = true then [(e.x.start, e.id)] else [] := by
    unfold entL
    simp only [List.map_cons, List.map_nil, FlR.pl]
    by_cases h : e.x.has = true
    · simp [h]
    · simp [h]
  rw [this]
  split <;> simp
theorem entR_le (l : List FlR) : (entR l).length ≤ l.length := by
  unfold entR entL
  rw [List.length_map]
  exact Nat.le_trans (List.length_filter_le _ _) (by simp)
theorem FlS.start0_has {x : FlS} (h : x.has = true) : x.start0 = x.start := by
  unfold FlS.start0
  rw [if_neg]
  intro h0
  unfold FlS.has at h
  rw [h0] at h
  cases h

/-- Under way: the flows d have come. -/
structure EntSt (w wr : World) (mb : Nat) (l : List FlR) (v : Value) (d : List FlR) : Prop where
  sub : ∀ e ∈ d, e ∈ l
  it : IterAt wr w.heap.size mb (Value.int .i64) (l.map FlR.ent) (d.map FlR.ent)
  out : wr.ownsRow (w.heap.size + 1) 95 2 v (entR d).length (entC (entR d))
  bel : Below w.heap.size w wr
  size : w.heap.size + 1 ≤ wr.heap.size

theorem SfqR.perm {w : World} {b mb r : Nat} {v most : Int} {l d : List FlR} {F : Nat → Prop} {w1 : World} (h : SfqR w b mb v most l F) (hs : ∀ e ∈ d, e ∈ l) (hi : IterAt w1 r mb (Value.int .i64) (l.map FlR.ent) (d.map FlR.ent))
    (ha : ∀ p ∈ l.map FlR.ent, p ∈ d.map FlR.ent) : List.Perm d l := by
  obtain ⟨es, clock, seen, h1, h2, h3, h4, h5, h6⟩ := hi
  have n1 : d.Nodup := by
    rw [List.map_map] at h3
    exact List.Pairwise.of_map _ (fun a c hn e => hn (congrArg _ e)) h3
  have n2 : l.Nodup := List.Pairwise.of_map _ (fun a c hn e => hn (congrArg _ e)) h.ids
  refine (List.perm_ext_iff_of_nodup n1 n2).2 fun e => ⟨hs e, fun he => ?_⟩
  obtain ⟨e', he', h0⟩ := List.mem_map.1 (ha e.ent (List.mem_map.2 ⟨e, he, rfl⟩))
  have : e'.id = e.id := congrArg Prod.fst h0
  rw [← h.same (hs e' he') he this]
  exact he'

theorem one2 (a c : Int) : ∀ u ∈ (#[.int .u64 a, .int .i64 c] : Array Value).toList, u.oneCell' = true := by
  intro u hu
  simp at hu
  rcases hu with rfl | rfl <;> rfl

set_option maxHeartbeats 1000000 in
theorem entries_any (b : Nat) (s : SfS) (F : Nat → Prop) (w : World) (h : SfsAt w b s F) (hn : s.fs.length ≤ 1000000) :
    Calls Try.prog 47 #[.pointer (some ⟨b, 0, none⟩)] w fun e w' => ∃ v es, e = .returned v ∧ List.Perm es (entL s.fs) ∧ w'.ownsRow w.heap.size 95 2 v es.length (entC es) ∧ Below w.heap.size w w' := by
  obtain ⟨mb, l, hl, h⟩ := h
  have c0 := h.blk.cell 0
  have hbl := h.blk.lt
  have hmb := h.map.lt
  simp only [List.getElem?_cons_succ, List.getElem?_cons_zero] at c0
  obtain ⟨w1, hr1, hi1, hg1, hs1⟩ := iter_start under_mapF h.map
  have hst : EntSt w w1 mb l (.slice none 0 0) [] := ⟨fun e he => (by cases he), hi1, owns_nil _ _ _ _, (Below.refl _ _).grown hg1 (Nat.le_refl _) (by intro q hq; cases hq), by omega⟩
  have hln : l.length ≤ 1000000 := by rw [← hl] at hn; simpa using hn
  have H := Lib.hid h
  rw [← hl]
  clear h hi1 hg1 hn
  go_enter Try.func47, Try.ntmps47
  go_wp2_with fail
  go_loopw [3] (fun v wr => ∃ d, EntSt w wr mb l v d) (fun _ wr => l.length - (wr.iterSeen w.heap.size).size)
  case atStart => exact ⟨[], hst⟩
  case round =>
    obtain ⟨d, hd⟩ := hrel
    rcases iter_next (P := Try.prog) 0 hd.it with ⟨ha, hnx⟩ | ⟨p, hp, hpn, w2, hnx, hen, hi2, hg2, hs2⟩
    · go_wp2_with fail
      go_ret
      exact ⟨_, entR d, rfl, (((H.out.perm hd.sub hd.it ha).map FlR.pl).filter _).map _, owns_base hd.out (Nat.le_succ _), hd.bel⟩
    · obtain ⟨e, he, rfl⟩ := List.mem_map.1 hp
      have hlt := hd.it.some_left hp hpn
      have hseen := hd.it.seen
      have hseen2 := hi2.seen
      simp only [FlR.ent] at hnx hen
      have hb2 : Below w.heap.size w w2 := hd.bel.grown hg2 hd.bel.size (by intro q hq; cases hq; exact Nat.le_refl _)
      have hfl := (H.out.flows e he).below hb2
      have hown2 := owns_grown hd.out hg2 (by intro q hq h0; cases h0; have := (owns_lt hd.out _ hq).1; omega)
      have hsize2 : w.heap.size + 1 ≤ w2.heap.size := by have := hd.size; omega
      have hsub : ∀ e' ∈ d ++ [e], e' ∈ l := by
        intro e' h'
        rcases List.mem_append.1 h' with h' | h'
        · exact hd.sub e' h'
        · simp only [List.mem_singleton] at h'; subst h'; exact he
      have hi3 : IterAt w2 w.heap.size mb (Value.int .i64) (l.map FlR.ent) ((d ++ [e]).map FlR.ent) := by rw [List.map_append]; exact hi2
      have hER := entR_append d e
      have hdl : (entR d).length ≤ d.length := entR_le d
      simp only [List.length_map] at hlt
      have hn2 : (entR d).length + 1 ≤ 1099511627776 := by omega
      have hrb : wr.heap.size ≤ w2.heap.size := by omega
      clear hs2 hs1
      go_wp2_with fail
      refine (start_any _ _ _ _ hfl).mono ?_
      rintro e' w' ⟨rfl, rfl⟩
      cases hx : e.x.has with
      | false =>
        rw [hx, if_neg (by simp)] at hER
        go_wp2
        go_roundw
        case rel => exact ⟨d ++ [e], hsub, hi3, by rw [hER]; exact hown2, hb2, hsize2⟩
        case measure => simp [hseen, hseen2]; omega
      | true =>
        rw [hx, if_pos rfl] at hER
        rw [FlS.start0_has hx]
        go_wp2_with ((at_builtin; refine ap_new w2 #[.int .u64 e.x.start, .int .i64 e.id] EE rfl _ _ rfl (w.heap.size + 1) _ (entR d).length _ rfl hown2 hsize2 1 rfl rfl (one2 _ _) hn2 ?_; intro v' w3 hown3 hg3 hb3 hfr3))
        go_roundw
        case rel =>
          have hmb2 : mb < w2.heap.size := Nat.lt_of_lt_of_le hmb hb2.size
          refine ⟨d ++ [e], hsub, hi3.of_eq (hg3.block mb hmb2 ?_) (hg3.block _ hi3.lt ?_), ?_, hb2.trans (hb3.mono ?_), Nat.le_trans hsize2 hg3.size⟩
          · intro h0; have := (owns_lt hown2 mb h0.symm).1; omega
          · intro h0; have := (owns_lt hown2 _ h0.symm).1; omega
          · rw [hER, entC_append]
            simpa [entC] using hown3
          · omega
        case measure =>
          have := (hi3.of_eq (hg3.block mb (Nat.lt_of_lt_of_le hmb hb2.size) (by intro h0; have := (owns_lt hown2 mb h0.symm).1; omega)) (hg3.block _ hi3.lt (by intro h0; have := (owns_lt hown2 _ h0.symm).1; omega))).seen
          simp [hseen, this]; omega
end Go.Proofs.Ytfgfjnlkgadkhaa
