/- The reference's flows: one taken away. -/
import Derived.Test.YtnanalaienlbpaaGreatRfs5a
import Derived.Deep.RegionLaw
namespace Go.Proofs.YtnanalaienlbpaaGreat
set_option linter.unusedVariables false
set_option linter.unusedSimpArgs false
set_option maxRecDepth 20000
open Go.RowKit Go.Proofs.YtnanalaienlbpaaGreatMem Go.Proofs.YtnanalaienlbpaaGreatMapK

theorem cut_filter {l : List FlR} {id : Int} (hr : l.Pairwise fun e e' => e.id < e'.id) (h : posR l id < l.length) :
    (l.take (posR l id) ++ l.drop (posR l id + 1)).map FlR.pl = (l.map FlR.pl).filter fun e => decide (e.1 ≠ id) := by
  have keep : ∀ {l : List FlR}, (∀ e ∈ l, e.id ≠ id) → (l.map FlR.pl).filter (fun e => decide (e.1 ≠ id)) = l.map FlR.pl := by
    intro l h
    refine List.filter_eq_self.2 fun e he => ?_
    obtain ⟨e0, h0, rfl⟩ := List.mem_map.1 he
    exact decide_eq_true (h e0 h0)
  induction l with
  | nil => simp [posR] at h
  | cons a l ih =>
    rw [List.pairwise_cons] at hr
    unfold posR at h ⊢
    by_cases ha : a.id = id
    · rw [if_pos ha]
      have h1 : ¬ (a.pl.1 ≠ id) := fun h => h ha
      simp only [List.take_zero, List.nil_append, List.map_cons, List.drop_succ_cons, List.drop_zero, Nat.zero_add]
      rw [List.filter_cons, if_neg (by simp [FlR.pl, ha])]
      exact (keep fun e he e1 => by have := hr.1 e he; omega).symm
    · rw [if_neg ha] at h ⊢
      simp only [List.take_succ_cons, List.cons_append, List.map_cons, List.drop_succ_cons]
      rw [List.filter_cons, if_pos (by simp [FlR.pl, ha])]
      exact congrArg _ (ih hr.2 (by simpa using h))
theorem pairwise_cut {α : Type} {R : α → α → Prop} {l : List α} (K : Nat) (h : l.Pairwise R) : (l.take K ++ l.drop (K + 1)).Pairwise R := by
  have h' := h
  rw [← List.take_append_drop K l, List.pairwise_append] at h'
  obtain ⟨p1, p2, p3⟩ := h'
  have hsub : (l.drop (K + 1)).Sublist (l.drop K) := by rw [← List.drop_drop]; exact List.drop_sublist 1 _
  rw [List.pairwise_append]
  exact ⟨p1, p2.sublist hsub, fun a ha c hc => p3 a ha c (hsub.subset hc)⟩
theorem mem_cut {α : Type} {l : List α} {a : α} {K : Nat} (h : a ∈ l.take K ++ l.drop (K + 1)) : a ∈ l := by
  rcases List.mem_append.1 h with h | h
  · exact List.mem_of_mem_take h
  · exact List.mem_of_mem_drop h

/-- The last of taking one away. -/
theorem remove_end {w w9 : World} {b : Nat} {v most : Int} {l : List FlR} {F : Nat → Prop} {fs : List (Int × FlS)} {id : Int} {K K1 n m c9 : Nat} {a9 : Option Addr}
    (h : RfR w b v most l F) (hl : l.map FlR.pl = fs) (hK : posR l id = K) (hn : l.length = n) (hKn : K < n) (hK1 : K + 1 = K1) (hm : n - K1 = m)
    (hown : w9.ownsRow w.heap.size 72 1 (.slice a9 (K + m) c9) (K + m) ((ptrs l).take K ++ (ptrs l).drop K1)) (hb9 : Below w.heap.size w w9) :
    RfsPost b ⟨v, most, fs.filter fun e => decide (e.1 ≠ id)⟩ F w (w9.setCell ⟨b, 0, none⟩ (.slice a9 (K + m) c9)) := by
  subst hK1
  have hlen : (l.take K ++ l.drop (K + 1)).length = K + m := by
    simp only [List.length_append, List.length_take, List.length_drop, hn]
    omega
  have hpt : ptrs (l.take K ++ l.drop (K + 1)) = (ptrs l).take K ++ (ptrs l).drop (K + 1) := by
    unfold ptrs
    rw [List.map_append, List.map_take, List.map_drop]
  rw [← hlen] at hown ⊢
  obtain ⟨hR, hF⟩ := h.rowed (l' := l.take K ++ l.drop (K + 1)) hb9 (by rw [hpt]; exact hown) (fun e he => .inl (mem_cut he)) (pairwise_cut K h.disj) (pairwise_cut K h.rise)
  refine ⟨⟨_, ?_, hR⟩, hF⟩
  rw [← hK, cut_filter h.rise (by rw [hK, hn]; exact hKn), hl]

set_option maxHeartbeats 2000000 in
theorem removeR_any (b : Nat) (t : SfS) (F : Nat → Prop) (id : Int) (w : World) (h : RfsAt w b t F) (hn9 : t.fs.length ≤ 1000000) :
    Calls Tryz.prog 24 #[.pointer (some ⟨b, 0, none⟩), .int .i64 id] w fun e w' => e = .returned (.int .i64 (t.removeE id)) ∧ RfsPost b (t.remove id) F w w' := by
  obtain ⟨l, hl, h⟩ := h
  have hA := at_any b t.v t.most l F id w h
  have H0 := Lib.hid h
  have hle : t.fs.length = l.length := by rw [← hl]; simp
  unfold SfS.remove SfS.removeE
  by_cases hpos : posR l id < l.length
  · obtain ⟨e, he, hid, hg⟩ := posR_at hpos
    have hA1 : atR l id = posR l id := by unfold atR; rw [if_pos hpos]
    rw [hA1] at hA
    have hgF : getF t.fs id = some e.x := by rw [← hl, getF_pl, hg]; rfl
    rw [hgF]
    obtain ⟨ao, cap, c0, c1, c2, hc, hl63, hnil, hat⟩ := h.cells
    obtain ⟨g, rfl, hgl, cg, ci, heb⟩ := hat _ e he
    obtain ⟨a3, c3', d3, d4⟩ := h.cells2 he
    have hbl := h.lt b h.hb
    obtain ⟨ao', cap', h1, h2, h3⟩ := h.row
    have q0 := h1.cell 0
    simp only [List.getElem?_cons_zero] at q0
    have q1 := c0.symm.trans q0
    simp only [Option.some.injEq, Value.slice.injEq] at q1
    obtain ⟨rfl, q2, rfl⟩ := q1
    have hrd := owns_rdS h2 (ptrs_one l)
    obtain ⟨n, hn⟩ : ∃ n, l.length = n := ⟨_, rfl⟩
    obtain ⟨K, hK⟩ : ∃ K, posR l id = K := ⟨_, rfl⟩
    rw [hn] at c0 hc hl63 hpos
    rw [hK] at hA cg hpos
    have HN := Lib.hid hn
    have HK := Lib.hid hK
    have HL := Lib.hid hl
    have H1 := Lib.hid h1
    have HRD := Lib.hid hrd
    have i1 : (K : Int) < (n : Int) := by omega
    have i0 : ¬ (K : Int) < 0 := by omega
    have hn6 : n ≤ 1000000 := by omega
    clear h he hg hgF hA1 hat hnil ci d4 c1 c2 h1 h2 h3 hrd q0 q2 hn hK hl hle
    by_cases hx : e.x.l = []
    · have h0 : e.x.l.length = 0 := by rw [hx]; rfl
      rw [h0] at d3
      simp only [hx, if_true]
      clear hx h0
      have hT1 : ((ptrs l).take K).length = K * 1 := by rw [List.length_take, ptrs_length, HN.out]; omega
      have hT2 : ∀ u ∈ (ptrs l).take K, u.oneCell' = true := fun u hu => ptrs_one l u (List.mem_of_mem_take hu)
      have hT3 : ∀ j u, ((ptrs l).take K)[j]? = some u → ∃ g' off, (some (⟨g, 0, none⟩ : Addr)) = some ⟨g', off, none⟩ ∧ w.cell? ⟨g', off + j, none⟩ = some u := fun j u hu => by
        have hj : j < K := by
          rcases Nat.lt_or_ge j K with h | h
          · exact h
          · rw [List.getElem?_eq_none (by rw [hT1]; omega)] at hu; cases hu
        rw [List.getElem?_take_of_lt hj] at hu
        obtain ⟨g', off, e1, -, hc⟩ := HRD.out.at_ j u hu
        exact ⟨g', off, e1, hc⟩
      have hD1 : ((ptrs l).drop (K + 1)).length = (n - (K + 1)) * 1 := by rw [List.length_drop, ptrs_length, HN.out]; omega
      have hD2 : ∀ u ∈ (ptrs l).drop (K + 1), u.oneCell' = true := fun u hu => ptrs_one l u (List.mem_of_mem_drop hu)
      have HT1 := Lib.hid hT1
      have HT2 := Lib.hid hT2
      have HT3 := Lib.hid hT3
      have HD1 := Lib.hid hD1
      have HD2 := Lib.hid hD2
      clear hT1 hT2 hT3 hD1 hD2
      go_enter Tryz.func24, Tryz.ntmps24
      go_wp2_with fail
      refine hA.mono ?_
      rintro e' w' ⟨rfl, rfl⟩
      go_upto_region 6 with fail
      have i2 : (K : Int) ≤ (cap : Int) := by omega
      go_upto_region 7 with ((at_builtin; refine ap_src w ERf rfl _ _ rfl w.heap.size _ 0 [] rfl (World.ownsRow_nil _ _ _ _) (Nat.le_refl _) (some ⟨g, 0, none⟩) K cap ((ptrs l).take K) rfl (fun h => by cases h) HT1.out HT3.out HT2.out (by omega) ?_; intro v3 w3 hown3 hg3 hb3 hfr3))
      simp only [Nat.zero_add, List.nil_append] at hown3
      obtain ⟨a3', c3'', rfl⟩ := owns_slice hown3
      have c0 := (hb3.cell (p := ⟨b, 0, none⟩) hbl).trans c0
      have fz := (H1.out.below hb3).frozen 0
      have hbl3 : b < w3.heap.size := Nat.lt_of_lt_of_le hbl hb3.size
      have HO3 := Lib.hid hown3
      have HB3 := Lib.hid hb3
      clear hown3 hb3 hg3 hfr3
      have v1 : Value.int .i64 (IntKind.i64.wrap ((K : Int) + 1)) = .int .i64 ((K + 1 : Nat) : Int) := by rw [IntWalk.i64_left, IntWalk.wrap64_in _ (by omega)]; rfl
      generalize hK1 : K + 1 = K1 at *
      have HK1 := Lib.hid hK1
      have j1 : (K1 : Int) ≤ (n : Int) := by omega
      have j2 : (K1 : Int) ≤ (cap : Int) := by omega
      clear hK1
      by_cases hcK : cap = K1
      · have hm : n - K1 = 0 := by omega
        have HM := Lib.hid hm
        have hT4 : ∀ j u, ((ptrs l).drop K1)[j]? = some u → ∃ g' off, (some (⟨g, 0, none⟩ : Addr)) = some ⟨g', off, none⟩ ∧ w3.cell? ⟨g', off + j, none⟩ = some u := fun j u hu => by
          rw [List.eq_nil_of_length_eq_zero (l := (ptrs l).drop K1) (by rw [HD1.out, hm])] at hu; cases hu
        have HT4 := Lib.hid hT4
        clear hT4 hm
        go_wp2_with ((at_builtin; refine ap_src w3 ERf rfl _ _ rfl w.heap.size _ K _ rfl HO3.out HB3.out.size (some ⟨g, 0, none⟩) 0 0 ((ptrs l).drop K1) (by simp [Act.eval, Act.put] <;> omega) (fun h => by cases h) (by rw [HD1.out, HM.out]) HT4.out HD2.out (by omega) ?_; intro v9 w9 hown9 hg9 hb9 hfr9; obtain ⟨a9, c9, rfl⟩ := owns_slice hown9; have c9b := (hb9.cell (p := ⟨b, 0, none⟩) hbl).trans c0; have HT9 := Lib.hid (HB3.out.trans hb9); have fz9 := (H1.out.below HT9.out).frozen 0; have HO9 := Lib.hid hown9; clear hg9 hb9 hown9 hfr9))
        go_ret
        exact ⟨rfl, remove_end H0.out HL.out HK.out HN.out hpos HK1.out HM.out HO9.out HT9.out⟩
      · have hlt : K1 < cap := by omega
        have hT4 : ∀ j u, ((ptrs l).drop K1)[j]? = some u → ∃ g' off, (some (⟨g, K1, none⟩ : Addr)) = some ⟨g', off, none⟩ ∧ w3.cell? ⟨g', off + j, none⟩ = some u := fun j u hu => by
          rw [List.getElem?_drop] at hu
          obtain ⟨g', off, e1, -, hc⟩ := (HRD.out.below HB3.out).at_ (K1 + j) u hu
          simp only [Option.some.injEq, Addr.mk.injEq, and_true] at e1
          obtain ⟨rfl, rfl⟩ := e1
          exact ⟨g, K1, rfl, by rw [Nat.zero_add] at hc; exact hc⟩
        have HT4 := Lib.hid hT4
        clear hT4
        go_wp2_with ((at_builtin; refine ap_src w3 ERf rfl _ _ rfl w.heap.size _ K _ rfl HO3.out HB3.out.size (some ⟨g, K1, none⟩) (n - K1) (cap - K1) ((ptrs l).drop K1) (by simp [Act.eval, Act.put] <;> omega) (fun h => by cases h) HD1.out HT4.out HD2.out (by omega) ?_; intro v9 w9 hown9 hg9 hb9 hfr9; obtain ⟨a9, c9, rfl⟩ := owns_slice hown9; have c9b := (hb9.cell (p := ⟨b, 0, none⟩) hbl).trans c0; have HT9 := Lib.hid (HB3.out.trans hb9); have fz9 := (H1.out.below HT9.out).frozen 0; have HO9 := Lib.hid hown9; clear hg9 hb9 hown9 hfr9))
        go_ret
        exact ⟨rfl, remove_end H0.out HL.out HK.out HN.out hpos HK1.out rfl HO9.out HT9.out⟩
    · have h0 : 0 < e.x.l.length := List.length_pos_iff.2 hx
      have hd : decide ((0 : Int) < (e.x.l.length : Int)) = true := decide_eq_true (by omega)
      simp only [hx, if_false]
      clear hx
      go_enter Tryz.func24, Tryz.ntmps24
      go_wp2_with fail
      refine hA.mono ?_
      rintro e' w' ⟨rfl, rfl⟩
      go_wp2
      go_ret
      exact ⟨rfl, RfsAt.still ⟨l, HL.out, H0.out⟩ (Below.refl _ _)⟩
  · have hg := posR_none hpos
    have hA1 : atR l id = -1 := by unfold atR; rw [if_neg hpos]
    rw [hA1] at hA
    have hgF : getF t.fs id = none := by rw [← hl, getF_pl, hg]; rfl
    rw [hgF]
    clear h hpos hA1 hg
    go_enter Tryz.func24, Tryz.ntmps24
    go_wp2_with fail
    refine hA.mono ?_
    rintro e' w' ⟨rfl, rfl⟩
    go_wp2
    go_ret
    exact ⟨rfl, RfsAt.still ⟨l, hl, H0.out⟩ (Below.refl _ _)⟩
end Go.Proofs.YtnanalaienlbpaaGreat
