/- Several texts in one: LineM. -/
import Derived.Test.YtdjooacjjnjfmaaGreatIc
-- LinLine: calls one behind the other, as plain data and in memory.
section
namespace Go.Proofs.YtdjooacjjnjfmaaGreat
set_option linter.unusedVariables false
set_option linter.unusedSimpArgs false
set_option maxRecDepth 20000
open Go.RowKit Go.Proofs.YtdjooacjjnjfmaaGreatMem Go.Proofs.YtdjooacjjnjfmaaGreatMapK Go.Proofs.YtdjooacjjnjfmaaGreatLin H

/-! ### Plain -/
def dL (cs : List CallS) (i : Nat) : CallS := if (callP (nthC cs i)).op = 5 then { callP (nthC cs i) with op := 4 } else callP (nthC cs i)
theorem dL_op (cs : List CallS) (i : Nat) : (dL cs i).op ≠ 5 := by
  unfold dL
  split
  · show (4 : Int) ≠ 5
    omega
  · assumption
theorem dL_ok {cs : List CallS} {i : Nat} (h : (nthC cs i).Ok) : (dL cs i).Ok := by
  have h0 := callP_ok h
  unfold dL
  split
  · exact ⟨small_i64 (by simp), h0.flow, h0.a, h0.b⟩
  · exact h0
def lnD (i : Nat) (d : CallS) (r : RetS) : DoneS := doneM ((i % 3 : Nat) : Int) ((i / 3 : Nat) : Int) (2 * (i : Int)) (2 * (i : Int)) d r
def lnAll (c : Cfg) (cs : List CallS) : Nat → MdS × List DoneS
  | 0 => (.new, [])
  | k + 1 => (((lnAll c cs k).1.doo c (dL cs k)).1, (lnAll c cs k).2 ++ [lnD k (dL cs k) ((lnAll c cs k).1.doo c (dL cs k)).2])
structure LnOk (c : Cfg) (cs : List CallS) (k : Nat) (s : MdS × List DoneS) : Prop where
  len : s.2.length = k
  at_ : ∀ i, i < k → ∃ m : MdS, nthD s.2 i = lnD i (dL cs i) (m.doo c (dL cs i)).2
  ok : MadeOk s.2
  run : runL c .new (partsD s.2) = some s.1
  good : (∀ d ∈ cs, d.Ok) → (1 ≤ c.unit ∧ c.unit ≤ 4611686018427387904) → k ≤ cs.length → s.1.Good k
theorem lnOk (c : Cfg) (cs : List CallS) : ∀ k, LnOk c cs k (lnAll c cs k)
  | 0 => ⟨rfl, fun i hi => by omega, ⟨fun x hx => (by cases hx), List.Pairwise.nil⟩, rfl, fun _ _ _ => MdS.Good.new⟩
  | k + 1 => by
    have ih := lnOk c cs k
    show LnOk c cs (k + 1) (((lnAll c cs k).1.doo c (dL cs k)).1, (lnAll c cs k).2 ++ [lnD k (dL cs k) ((lnAll c cs k).1.doo c (dL cs k)).2])
    generalize lnAll c cs k = s at *
    have hnew : ∀ i, i < k + 1 → ∃ m : MdS, nthD (s.2 ++ [lnD k (dL cs k) (s.1.doo c (dL cs k)).2]) i = lnD i (dL cs i) (m.doo c (dL cs i)).2 := by
      intro i hi
      by_cases e : i = k
      · subst e
        refine ⟨s.1, ?_⟩
        unfold nthD
        rw [List.getD_eq_getElem?_getD, List.getElem?_append_right (by rw [ih.len]; exact Nat.le_refl _), ih.len, Nat.sub_self]
        rfl
      · obtain ⟨m, hm⟩ := ih.at_ i (by omega)
        refine ⟨m, ?_⟩
        rw [← hm]
        unfold nthD
        rw [List.getD_eq_getElem?_getD, List.getElem?_append_left (by rw [ih.len]; omega), List.getD_eq_getElem?_getD]
    refine ⟨by simp [ih.len], hnew, ⟨fun x hx => ?_, ?_⟩, ?_, fun h1 h2 h3 => ?_⟩
    · rcases List.mem_append.1 hx with hx | hx
      · exact ih.ok.1 x hx
      · simp only [List.mem_singleton] at hx
        subst hx
        show ((0 : Int) ≤ ((k % 3 : Nat) : Int) ∧ ((k % 3 : Nat) : Int) < 3) ∧ (0 : Int) ≤ ((k / 3 : Nat) : Int) ∧ (0 : Int) ≤ 2 * (k : Int) ∧ 2 * (k : Int) ≤ 2 * (k : Int)
        omega
    · rw [List.pairwise_append]
      refine ⟨ih.ok.2, by simp, fun x hx y hy => ?_⟩
      simp only [List.mem_singleton] at hy
      subst hy
      obtain ⟨i, hi, rfl⟩ := List.mem_iff_getElem.1 hx
      rw [ih.len] at hi
      obtain ⟨m, hm⟩ := ih.at_ i hi
      rw [nthD_eq (by rw [ih.len]; exact hi)] at hm
      rw [hm]
      show 2 * (i : Int) ≤ 2 * (k : Int) ∧ (((i % 3 : Nat) : Int) = ((k % 3 : Nat) : Int) → ((i / 3 : Nat) : Int) < ((k / 3 : Nat) : Int) ∧ 2 * (i : Int) < 2 * (k : Int))
      omega
    · show runL c .new (partsD (s.2 ++ [_])) = _
      rw [show ∀ a b : List DoneS, partsD (a ++ b) = partsD a ++ partsD b from fun a b => by unfold partsD; rw [List.flatMap_append], runL_append, ih.run, Option.bind_some]
      rw [show ∀ x : DoneS, partsD [x] = partD x from fun x => by unfold partsD; simp]
      exact runL_part c s.1 _ _ _ _ _
    · exact (ih.good h1 h2 (by omega)).doo (by unfold W64; omega) (dL_ok (h1 _ (List.mem_of_getElem? (nthC_eq (by omega)))))
/-- No batch: the parts are the calls. -/
theorem parts_line {l : List DoneS} (h : ∀ d ∈ l, d.op ≠ 5) : partsD l = l.map DoneS.bare := by
  unfold partsD
  induction l with
  | nil => rfl
  | cons d l ih =>
    rw [List.flatMap_cons, ih fun x hx => h x (List.mem_cons_of_mem _ hx), List.map_cons]
    have : partD d = [d.bare] := by
      unfold partD isBat
      rw [if_neg (by simp [h d List.mem_cons_self])]
    rw [this]
    rfl
/-- Where of any two the one is ahead, just their own order may fit. -/
theorem pairO_line {bef : Nat → Nat → Bool} {n : Nat} : ∀ (l : List Nat) (s : Nat), (∀ a b, a < b → b < n → bef a b = true) → (∀ k ∈ l, s ≤ k ∧ k < n) → l.Nodup → l.length = n - s → pairO bef (toI l) = true → l = List.range' s (n - s)
  | [], s, _, _, _, h, _ => by simp only [List.length_nil] at h; rw [← h]; rfl
  | a :: l, s, hb, hk, hn, hl, hp => by
    simp only [List.length_cons] at hl
    have hp' : (((toI l).all fun z => !bef z.toNat ((a : Int)).toNat) && pairO bef (toI l)) = true := hp
    rw [Bool.and_eq_true, List.all_eq_true] at hp'
    obtain ⟨h1, h2⟩ := hp'
    have ha := hk a List.mem_cons_self
    have hn' := List.nodup_cons.1 hn
    have hgt : ∀ k ∈ l, a < k := fun k hkl => by
      have h3 := h1 (k : Int) (by unfold toI; exact List.mem_map.2 ⟨k, hkl, rfl⟩)
      rw [Int.toNat_natCast, Int.toNat_natCast] at h3
      rcases Nat.lt_trichotomy k a with h4 | h4 | h4
      · rw [hb k a h4 ha.2] at h3; simp at h3
      · subst h4; exact absurd hkl hn'.1
      · exact h4
    have hcount := nodup_le (n - (a + 1)) (l := l.map (· - (a + 1))) (by
      rw [List.Nodup, List.pairwise_map]
      refine List.Pairwise.imp_of_mem (fun {x y} hx hy hne e => hne ?_) hn'.2
      have := hgt x hx
      have := hgt y hy
      omega) (fun k hkl => by
      obtain ⟨x, hx, rfl⟩ := List.mem_map.1 hkl
      have h3 := hgt x hx
      have h4 := (hk x (List.mem_cons_of_mem _ hx)).2
      show x - (a + 1) < _
      omega)
    rw [List.length_map] at hcount
    obtain rfl : a = s := by omega
    have ih := pairO_line l (a + 1) hb (fun k hkl => ⟨hgt k hkl, (hk k (List.mem_cons_of_mem _ hkl)).2⟩) hn'.2 (by omega) h2
    rw [ih, show n - a = (n - (a + 1)) + 1 by omega, List.range'_succ]
/-- Calls one behind the other, no batches. -/
def LineL (l : List DoneS) : Prop := ∀ i, i < l.length → (nthD l i).fr = 2 * (i : Int) ∧ (nthD l i).to = 2 * (i : Int) ∧ (nthD l i).op ≠ 5
theorem lineL_of {c : Cfg} {cs : List CallS} {k : Nat} {s : MdS × List DoneS} (h : LnOk c cs k s) : LineL s.2 := fun i hi => by
  obtain ⟨m, hm⟩ := h.at_ i (by rw [← h.len]; exact hi)
  rw [hm]
  exact ⟨rfl, rfl, dL_op cs i⟩
theorem LineL.parts {l : List DoneS} (h : LineL l) : partsD l = l.map DoneS.bare := parts_line fun d hd => by
  obtain ⟨i, hi, rfl⟩ := List.mem_iff_getElem.1 hd
  have := (h i hi).2.2
  rw [nthD_eq hi] at this
  exact this
theorem line_only {c : Cfg} {l : List DoneS} {o : List Int} (hL : LineL l) (h : fitsB c l o = true) : o = toI (List.range l.length) := by
  have hp := hL.parts
  have hlen : (partsD l).length = l.length := by rw [hp, List.length_map]
  unfold fitsB fitO at h
  simp only [Bool.and_eq_true] at h
  obtain ⟨-, h1, h2, -⟩ := h
  obtain ⟨a1, a2, a3⟩ := allIn_iff.1 h1
  have he := toNat_toI fun z hz => (a2 z hz).1
  have hnd : (o.map Int.toNat).Nodup := by
    rw [← he] at a3
    unfold toI at a3
    rw [List.Nodup, List.pairwise_map] at a3
    exact a3.imp fun h e => h (by rw [e])
  rw [← he] at h2
  have hb : ∀ a b, a < b → b < l.length → befB (partsD l) a b = true := fun a b hab hbl => by
    rw [hp, befB_bare]
    show (H.endedB (nthD l a) && decide ((nthD l a).to < (nthD l b).fr) || _) = true
    have q1 := hL a (by omega)
    have q2 := hL b hbl
    rw [show H.endedB (nthD l a) = true from decide_eq_true (by omega), decide_eq_true (by omega)]
    rfl
  have := pairO_line (n := l.length) (o.map Int.toNat) 0 hb (fun k hk => by
    obtain ⟨z, hz, rfl⟩ := List.mem_map.1 hk
    have := a2 z hz
    omega) hnd (by rw [List.length_map, a1, hlen]; omega) h2
  rw [← he, this, List.range_eq_range']
  rfl
/-! ### No model tells less than nothing served -/
theorem bat_n : ∀ (k : Nat) (m : MdS) (ps : List Pk), 0 ≤ m.served → 0 ≤ (m.bat k ps).1.served ∧ (m.bat k ps).2.n = 0
  | 0, m, ps, h => ⟨h, rfl⟩
  | k + 1, m, ps, h => by
    have h1 : 0 ≤ m.one.served := by
      show 0 ≤ (if m.s.has then m.served + 1 else m.served)
      split <;> omega
    unfold MdS.bat
    split
    · exact bat_n k m.one _ h1
    · exact ⟨h1, rfl⟩
theorem doo_n (c : Cfg) (m : MdS) (d : CallS) (h : 0 ≤ m.served) : 0 ≤ (m.doo c d).1.served ∧ 0 ≤ (m.doo c d).2.n := by
  have h1 : 0 ≤ m.one.served := by
    show 0 ≤ (if m.s.has then m.served + 1 else m.served)
    split <;> omega
  unfold MdS.doo
  split
  · exact ⟨h, Int.le_refl _⟩
  split
  · exact ⟨h, Int.le_refl _⟩
  split
  · exact ⟨h, Int.le_refl _⟩
  split
  · refine ⟨h1, ?_⟩
    show 0 ≤ m.oneRet.n
    unfold MdS.oneRet
    split <;> exact Int.le_refl _
  split
  · split
    · obtain ⟨q1, q2⟩ := bat_n d.a.toNat m [] h
      exact ⟨q1, by rw [q2]; exact Int.le_refl _⟩
    · exact ⟨h, Int.le_refl _⟩
  split
  · exact ⟨h, h⟩
  · exact ⟨h, Int.le_refl _⟩
theorem runL_n (c : Cfg) : ∀ (l : List DoneS) (m m' : MdS), 0 ≤ m.served → runL c m l = some m' → ∀ d ∈ l, 0 ≤ d.n
  | [], m, m', _, _, d, hd => by cases hd
  | x :: l, m, m', hm, h, d, hd => by
    have h : (if retB (m.doo c (callD x)).2 x then runL c (m.doo c (callD x)).1 l else none) = some m' := h
    split at h
    · rename_i hr
      obtain ⟨q1, q2⟩ := doo_n c m (callD x) hm
      rcases List.mem_cons.1 hd with rfl | hd
      · unfold retB retEq at hr
        have := of_decide_eq_true hr
        omega
      · exact runL_n c l _ m' q1 h d hd
    · cases h
theorem line_bad {c : Cfg} {l : List DoneS} {k : Nat} (hL : LineL l) (hk : k < l.length) (hn : (nthD l k).n = -1) (o : List Int) : fitsB c l o = false := by
  cases hf : fitsB c l o with
  | false => rfl
  | true =>
    exfalso
    have ho := line_only hL hf
    subst ho
    have hp := hL.parts
    have hlen : (partsD l).length = l.length := by rw [hp, List.length_map]
    unfold fitsB fitO at hf
    simp only [Bool.and_eq_true] at hf
    have hr := hf.2.2.2
    rw [toI_toNat, ← hlen, List.range_eq_range', runS_runL c (partsD l) (partsD l).length 0 .new (by omega), List.drop_zero] at hr
    obtain ⟨m', hm'⟩ := Option.isSome_iff_exists.1 hr
    have := runL_n c (partsD l) .new m' (Int.le_refl _) hm' (nthD l k).bare (by rw [hp]; exact List.mem_map_of_mem (by rw [nthD_eq hk]; exact List.getElem_mem _))
    have this : 0 ≤ (nthD l k).n := this
    omega
theorem line_bad_found {c : Cfg} {l : List DoneS} {k : Nat} (hL : LineL l) (hk : k < l.length) (hn : (nthD l k).n = -1) : foundB c l = none := by
  cases hf : foundB c l with
  | none => rfl
  | some q => have := (found_fits hf).1; rw [line_bad hL hk hn] at this; cases this
theorem line_found {c : Cfg} {cs : List CallS} {k : Nat} {s : MdS × List DoneS} (h : LnOk c cs k s) (hc : c.right = true) (hk : k ≤ 12) : foundB c s.2 = some (List.range k) ∧ fitsB c s.2 (toI (List.range k)) = true := by
  have hL := lineL_of h
  have hlen : (partsD s.2).length = k := by rw [hL.parts, List.length_map, h.len]
  have h1 := made_fits hc h.ok h.run
  rw [hlen] at h1
  obtain ⟨q, hq, -⟩ := fits_found h1 (by omega)
  have h2 := line_only hL (found_fits hq).1
  rw [h.len] at h2
  have h3 := congrArg (fun z => z.map Int.toNat) h2
  simp only [toI_toNat] at h3
  exact ⟨by rw [hq, h3], h1⟩

/-! ### In memory -/
/-- Under way: what is made so far (calls l, in the row v), the model at x, what else is kept (K). -/
structure LnI (w wr : World) (x : Nat) (c : Cfg) (K : Nat → Prop) (m : MdS) (l : List DoneS) (v : Value) : Prop where
  own : OwnDs wr w.heap.size v l
  mdl : ∃ y G, MSim m y ∧ RmAt wr x c y.s y.served G ∧ (∀ k, G k → w.heap.size ≤ k) ∧ (∀ k, v.ownBlock = some k → ¬ G k) ∧ (∀ k, aoK l k → ¬ G k) ∧ (∀ k, K k → ¬ G k)
  kl : ∀ k, K k → k < wr.heap.size
  bel : Below w.heap.size w wr
section
variable {w wr w2 w3 w4 : World} {x : Nat} {c : Cfg} {K K' : Nat → Prop} {m : MdS} {l : List DoneS} {v v' : Value}
theorem LnI.below (h : LnI w wr x c K m l v) (hb : Below wr.heap.size wr w2) (hK : ∀ k, K' k → K k ∨ (wr.heap.size ≤ k ∧ k < w2.heap.size)) : LnI w w2 x c K' m l v := by
  obtain ⟨y, G, h1, h2, h3, h6, h7, h8⟩ := h.mdl
  refine ⟨h.own.below hb, ⟨y, G, h1, h2.below hb, h3, h6, h7, fun k hk hg => ?_⟩, fun k hk => ?_, h.bel.trans (hb.mono h.bel.size)⟩
  · rcases hK k hk with hk | hk
    · exact h8 k hk hg
    · have := h2.lt k hg; omega
  · have := hb.size
    rcases hK k hk with hk | hk
    · have := h.kl k hk; omega
    · exact hk.2
theorem LnI.fr {S : Nat → Prop} (h : LnI w wr x c K m l v) (hf : Fr S wr w2) (hS : ∀ k, S k → K k ∧ w.heap.size ≤ k ∧ v.ownBlock ≠ some k ∧ ¬ aoK l k) : LnI w w2 x c K m l v := by
  obtain ⟨y, G, h1, h2, h3, h6, h7, h8⟩ := h.mdl
  have hz := hf.size
  exact ⟨⟨owns_fr h.own.1 hf fun k hk hs => (hS k hs).2.2.1 hk, fun d hd => ⟨owns_fr (h.own.2 d hd).1 hf fun k hk hs => (hS k hs).2.2.2 ⟨d, hd, hk⟩, (h.own.2 d hd).2⟩⟩,
    ⟨y, G, h1, h2.fr hf fun k hk hs => h8 k (hS k hs).1 hk, h3, h6, h7, h8⟩, fun k hk => Nat.lt_of_lt_of_le (h.kl k hk) hz, h.bel.trans (hf.below (fun k hs => (hS k hs).2.1) h.bel.size)⟩
theorem LnI.doo {k : Nat} (h : LnI w wr x c K m l v) (g : m.Good k) (hk : k ≤ 1000000) (hc : CfgR c) (d : CallS) (hd : d.Ok) :
    Calls Tryz.prog 23 #[.pointer (some ⟨x, 0, none⟩), .agg #[.int .i64 d.op, .int .i64 d.flow, .int .i64 d.a, .int .i64 d.b]] wr fun e w' => ∃ ao cap, e = .returned (.agg #[.int .i64 (m.doo c d).2.e, .slice ao (m.doo c d).2.ps.length cap, .int .i64 (m.doo c d).2.n, .int .u64 (m.doo c d).2.v]) ∧
      w'.ownsRow w.heap.size 59 3 (.slice ao (m.doo c d).2.ps.length cap) (m.doo c d).2.ps.length (pks (m.doo c d).2.ps) ∧
      LnI w w' x c (fun k => K k ∨ (Value.slice ao (m.doo c d).2.ps.length cap).ownBlock = some k) (m.doo c d).1 l v ∧ (∀ k, K k → w'.heap[k]? = wr.heap[k]?) ∧ wr.heap.size ≤ w'.heap.size := by
  obtain ⟨y, G, h1, h2, h3, h6, h7, h8⟩ := h.mdl
  refine (doR_any x c y G d wr h2 ((h1.good g).bat hk) hd hc.unit hc.shards).mono fun e w' hh => ?_
  obtain ⟨ao, cap, G', rfl, row, n3, md, hG, f⟩ := hh
  obtain ⟨s1, s2⟩ := h1.doo c d
  have hz := h.bel.size
  have hz2 := f.size
  rw [← s2] at row ⊢
  have hext : ∀ k, k < wr.heap.size → ¬ G k → ¬ G' k := fun k hk hg hg' => by
    rcases hG k hg' with h9 | h9
    · exact hg h9
    · omega
  refine ⟨ao, cap, rfl, owns_base row hz, ⟨?_, ⟨_, G', s1, md, fun k hk => ?_, fun k hk => hext k (owns_lt h.own.1 k hk).2 (h6 k hk), fun k hk => hext k (aoK_lt h.own hk).2 (h7 k hk), ?_⟩, ?_, h.bel.trans (f.below h3 hz)⟩, fun k hk => f.block k (h.kl k hk) (h8 k hk), hz2⟩
  · exact ⟨owns_fr h.own.1 f h6, fun d hd => ⟨owns_fr (h.own.2 d hd).1 f fun k hk => h7 k ⟨d, hd, hk⟩, (h.own.2 d hd).2⟩⟩
  · rcases hG k hk with hk | hk
    · exact h3 k hk
    · omega
  · rintro k (hk | hk)
    · exact hext k (h.kl k hk) (h8 k hk)
    · cases ao with
      | none => cases hk
      | some a =>
        simp only [Value.ownBlock, Option.some.injEq] at hk
        subst hk
        exact n3 a rfl
  · rintro k (hk | hk)
    · have := h.kl k hk; omega
    · exact (owns_lt row k hk).2
/-- A call more behind the others. -/
theorem LnI.push {n : Nat} {y : DoneS} (h : LnI w wr x c K m l v) (hK : ∀ k, K' k → K k) (hy : OwnK wr w.heap.size y) (hyK : ∀ k, (Value.slice y.ao y.len y.cap).ownBlock = some k → K k) (hn : l.length = n)
    (ho : w4.ownsRow w.heap.size 42 12 v' (n + 1) (doneC l ++ y.cells)) (hg : wr.grownBy w4 v.ownBlock) (hb : Below w.heap.size wr w4) (hfo : FreshOr wr v v') : LnI w w4 x c K' m (l ++ [y]) v' := by
  subst hn
  obtain ⟨ym, G, h1, h2, h3, h6, h7, h8⟩ := h.mdl
  have hf4 : Fr (fun k => v.ownBlock = some k) wr w4 := Fr.grown (Fr.refl _ _) hg fun k hk => .inl hk
  have row4 : ∀ d, OwnK wr w.heap.size d → OwnK w4 w.heap.size d := fun d hd => ⟨owns_grown hd.1 hg (fun k hk => tag_ne h.own.1 hd.1 (by decide) k hk), hd.2⟩
  have z2 := hb.size
  refine ⟨⟨by rw [doneC_snoc]; simpa using ho, fun d hd => ?_⟩, ⟨ym, G, h1, h2.fr hf4 fun k hk hs => h6 k hs hk, h3, fun k hk hgk => ?_, fun k hk => ?_, fun k hk => h8 k (hK k hk)⟩, fun k hk => ?_, h.bel.trans hb⟩
  · rcases List.mem_append.1 hd with hd | hd
    · exact row4 d (h.own.2 d hd)
    · simp only [List.mem_singleton] at hd
      subst hd
      exact row4 _ hy
  · rcases hfo with e | e
    · exact h6 k (by rw [← e]; exact hk) hgk
    · have := e k hk
      have := h2.lt k hgk
      omega
  · obtain ⟨d, hd, hk⟩ := hk
    rcases List.mem_append.1 hd with hd | hd
    · exact h7 k ⟨d, hd, hk⟩
    · simp only [List.mem_singleton] at hd
      subst hd
      exact h8 k (hyK k hk)
  · have := h.kl k (hK k hk)
    omega
end
end Go.Proofs.YtdjooacjjnjfmaaGreat
end
