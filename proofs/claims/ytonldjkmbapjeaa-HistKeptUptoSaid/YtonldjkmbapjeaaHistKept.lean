/- HistKept: what is handed in is not changed; who writes into the parts that were told changes nothing. -/
import Derived.Test.YtonldjkmbapjeaaHistParts
import Derived.Test.YtonldjkmbapjeaaHelpK2
import Derived.Deep.RegionWith
namespace Go.Proofs.Ytonldjkmbapjeaa
set_option linter.unusedVariables false
set_option linter.unusedSimpArgs false
open Go.RowKit Go.Proofs.YtonldjkmbapjeaaMem Go.Proofs.YtonldjkmbapjeaaFlat

abbrev fK : PkS := ⟨0, 0, 7⟩
/-- A call whose packets lie in a copy with spare room. -/
def keptD (d : DoneS) (g : Nat) : DoneS := { d with ao := some ⟨g, 0, none⟩, cap := d.len + 3 }
structure HK (w : World) (L H : List DoneS) (i : Nat) : Prop where
  len : H.length = L.length
  own : ∀ j, j < L.length → j < i → ∃ g, nthD H j = keptD (nthD L j) g ∧ OwnedK w g (nthD L j).len (nthD L j).l fK
  rest : ∀ j, j < L.length → i ≤ j → nthD H j = nthD L j
theorem HK.below {w w' : World} {L H : List DoneS} {i : Nat} (h : HK w L H i) (hb : Below w.heap.size w w') : HK w' L H i :=
  ⟨h.len, fun j hj hi => let ⟨g, h1, h2⟩ := h.own j hj hi; ⟨g, h1, h2.below hb⟩, h.rest⟩
theorem recs_setOne {α : Type} {f : α → List Value} {s : Nat} (hf : ∀ x, (f x).length = s) (r : Nat) (hr : r < s) (u : Value) : ∀ (l : List α) (q : Nat) (x y : α), l[q]? = some x → (f x).set r u = f y → (l.flatMap f).set (q * s + r) u = (l.set q y).flatMap f
  | [], q, x, y, h, _ => by simp at h
  | z :: l, 0, x, y, h, e => by
    simp only [List.getElem?_cons_zero, Option.some.injEq] at h
    subst h
    simp only [List.flatMap_cons, List.set_cons_zero, Nat.zero_mul, Nat.zero_add]
    rw [List.set_append_left _ _ (by rw [hf]; exact hr), e]
  | z :: l, q + 1, x, y, h, e => by
    simp only [List.getElem?_cons_succ] at h
    have ih := recs_setOne hf r hr u l q x y h e
    simp only [List.flatMap_cons, List.set_cons_succ]
    rw [← ih, List.set_append_right _ _ (by rw [hf, Nat.succ_mul]; omega), hf]
    congr 2; rw [Nat.succ_mul]; omega
theorem nthD_set {l : List DoneS} {q j : Nat} {y : DoneS} (hq : q < l.length) : nthD (l.set q y) j = if j = q then y else nthD l j := by
  simp only [nthD, List.getD_eq_getElem?_getD, List.getElem?_set]
  by_cases e : q = j
  · subst e; simp [hq]
  · have e' : ¬ j = q := fun h => e h.symm
    rw [if_neg e']; simp [e]
theorem HK.bare {w : World} {L H : List DoneS} (h : HK w L H L.length) : H.map DoneS.bare = L.map DoneS.bare := by
  refine List.ext_getElem (by simp [h.len]) fun j h1 h2 => ?_
  simp only [List.length_map] at h1 h2
  obtain ⟨g, e, _⟩ := h.own j h2 h2
  simp only [List.getElem_map]
  rw [← nthD_eq h1, ← nthD_eq h2, e]; rfl
theorem HK.good {w : World} {L H : List DoneS} (h : HK w L H L.length) (hL : ∀ d ∈ L, d.Ok ∧ ∀ p ∈ d.l, p.Ok) : GoodD w H := by
  intro d hd
  obtain ⟨j, hj, rfl⟩ := List.mem_iff_getElem.1 hd
  have hjl : j < L.length := by rw [← h.len]; exact hj
  obtain ⟨g, e, ho⟩ := h.own j hjl hjl
  rw [← nthD_eq hj, e]
  have hm := hL (nthD L j) (by rw [nthD_eq hjl]; exact List.getElem_mem _)
  exact ⟨hm.1, ho.rd hm.2⟩
theorem partD_bare (d : DoneS) : partD d.bare = partD d := rfl
theorem partsD_bare (l : List DoneS) : partsD (l.map DoneS.bare) = partsD l := by
  induction l with
  | nil => rfl
  | cons d l ih => simp only [partsD, List.map_cons, List.flatMap_cons] at ih ⊢; rw [ih, partD_bare]

set_option maxRecDepth 20000 in
set_option maxHeartbeats 4000000 in
theorem HistKept_1 (ao : Option Addr) (n0 cap : Nat) (l : List DoneS) (w : World) (h : RdD w ao n0 cap l) (hs : ∀ d ∈ l, d.len ≤ 1048576) :
    Calls Try.prog 9 #[.slice ao n0 cap] w fun e w' => e = .returned (.bool true) ∧ Below w.heap.size w w' := by
  have hl40 : (someD l).length ≤ 40 := by rw [someD_length]; omega
  have hg := h.good.some
  have HS := Lib.hid (someD_short hs)
  go_enter Try.func9, Try.ntmps9
  go_wp2_with fail
  refine (some_any ao n0 cap l _ h).mono ?_
  rintro e w1 ⟨v, rfl, hown, hb1⟩
  obtain ⟨ph, phc, rfl⟩ := owns_slice hown
  go_wp2_with fail
  refine (some_any ao n0 cap l _ (h.below hb1)).mono ?_
  rintro e w2 ⟨v, rfl, hown2, hb2⟩
  obtain ⟨pg, pgc, rfl⟩ := owns_slice hown2
  generalize someD l = L at *
  obtain ⟨n, hn⟩ : ∃ n, L.length = n := ⟨_, rfl⟩
  rw [hn] at hown hown2 hl40 ⊢
  have L0 := Lib.hid hn
  have hhb : ∀ k, (Value.slice ph n phc).ownBlock = some k → k < w1.heap.size := fun k hk => (owns_lt hown k hk).2
  have HHB := Lib.hid hhb
  have B12 := below_step hb1 hb2
  go_wp2_with fail
  refine (awake_any _).mono ?_
  rintro e w3 ⟨rfl, hb3⟩
  have B3 := below_step B12 hb3
  have HR3 := Lib.hid (owns_below (B := 0) (owns_below (B := 0) hown hb2) hb3)
  have GR3 := Lib.hid (owns_below (B := 0) hown2 hb3)
  have HG := Lib.hid hg
  have hw1 := hb1.size
  clear hown hown2 hhb hg h hs hn hb1 hb2 hb3 B12
  have K0 : HK w3 L L 0 := ⟨rfl, fun j _ hj => absurd hj (Nat.not_lt_zero _), fun j _ _ => rfl⟩
  have HK0 := Lib.hid K0
  clear K0
  go_wp2_with fail
  go_loopw [5] (fun v5 wr => ∃ (i : Nat) (H : List DoneS), i ≤ n ∧ v5 = .int .i64 i ∧ HK wr L H i ∧ wr.ownsRow w.heap.size 31 12 (.slice ph n phc) n (doneC H) ∧ wr.ownsRow w1.heap.size 31 12 (.slice pg n pgc) n (doneC L) ∧ Below w.heap.size w wr) (fun v5 _ => n - (intOf v5).toNat)
  case atStart => exact ⟨0, L, Nat.zero_le _, rfl, HK0.out, HR3.out, GR3.out, B3⟩
  case round =>
    clear B3 HR3 GR3 HK0
    obtain ⟨i, H, hi, rfl, hk, hrow, grow, hbr⟩ := hrel
    by_cases hl : i < n
    · have hiL : i < L.length := by rw [L0.out]; exact hl
      have hiH : i < H.length := by rw [hk.len]; exact hiL
      have hgi := HG.out (nthD L i) (by rw [nthD_eq hiL]; exact List.getElem_mem _)
      have hsi := HS.out (nthD L i) (by rw [nthD_eq hiL]; exact List.getElem_mem _)
      have hrk := hgi.2.below hbr
      obtain ⟨hb, rfl, hbge, hblt, hb7⟩ := owns_at hrow (recs_at doneS_cells H i _ (nthD_some hiH) 7 _ rfl)
      obtain ⟨gb, rfl, gbge, gblt, gb7⟩ := owns_at grow (recs_at doneS_cells L i _ (nthD_some hiL) 7 _ rfl)
      rw [Nat.zero_add] at hb7 gb7
      rw [hk.rest i hiL (Nat.le_refl _)] at hb7
      have hbl := HHB.out hb rfl
      have hfr := hrow.frozenAt (i * 12 + 7)
      have HKH := Lib.hid hk
      have HROW := Lib.hid hrow
      have GROW := Lib.hid grow
      have HRK := Lib.hid hrk
      clear hk hrow grow hrk hgi hfr
      go_wp2_with fail
      refine (ownK3_any _ _ _ (nthD L i).l fK _ HRK.out hsi).mono ?_
      rintro e w5 ⟨g, rfl, hgge, hglt, howned, hb5⟩
      have hrow5 := owns_below (B := 0) HROW.out hb5
      have hst := hrow5.stored (i * 12 + 7) (.slice (some ⟨g, 0, none⟩) (nthD L i).len ((nthD L i).len + 3))
      have hset : (doneC H).set (i * 12 + 7) (.slice (some ⟨g, 0, none⟩) (nthD L i).len ((nthD L i).len + 3)) = doneC (H.set i (keptD (nthD L i) g)) := recs_setOne doneS_cells 7 (by omega) _ H i _ _ (nthD_some hiH) (by rw [HKH.out.rest i hiL (Nat.le_refl _)]; rfl)
      rw [hset] at hst
      have hHB : ∀ k, (Value.slice (some (⟨g, 0, none⟩ : Addr)) ((nthD L i).len + 3) ((nthD L i).len + 3)).ownBlock = some k → k ≠ hb := fun k hk e => tag_ne hrow5 howned.2 (by decide) k hk (by rw [e]; rfl)
      have hK2 : HK (w5.setCell ⟨hb, i * 12 + 7, none⟩ (.slice (some ⟨g, 0, none⟩) (nthD L i).len ((nthD L i).len + 3))) L (H.set i (keptD (nthD L i) g)) (i + 1) := by
        refine ⟨by rw [List.length_set]; exact HKH.out.len, fun j hj hji => ?_, fun j hj hji => ?_⟩
        · rw [nthD_set hiH]
          by_cases e : j = i
          · subst e
            exact ⟨g, by rw [if_pos rfl], howned.1, owns_far howned.2 hHB _⟩
          · rw [if_neg e]
            obtain ⟨g2, h1, h2⟩ := HKH.out.own j hj (by omega)
            have h3 := h2.below hb5
            exact ⟨g2, h1, h3.1, owns_far h3.2 (fun k hk e => tag_ne hrow5 h3.2 (by decide) k hk (by rw [e]; rfl)) _⟩
        · rw [nthD_set hiH, if_neg (by omega)]
          exact HKH.out.rest j hj (by omega)
      have hg2 := owns_far (i := i * 12 + 7) (owns_below (B := 0) GROW.out hb5) (fun k hk e => by have h1 : gb = k := Option.some.inj hk; omega : ∀ k, (Value.slice (some (⟨gb, 0, none⟩ : Addr)) n pgc).ownBlock = some k → k ≠ hb) (.slice (some ⟨g, 0, none⟩) (nthD L i).len ((nthD L i).len + 3))
      have hbb := (hbr.trans (hb5.mono hbr.size)).setCell (p := ⟨hb, i * 12 + 7, none⟩) hbge (.slice (some ⟨g, 0, none⟩) (nthD L i).len ((nthD L i).len + 3))
      have hb75 : w5.cell? ⟨hb, i * 12 + 7, none⟩ = some (.slice (nthD L i).ao (nthD L i).len (nthD L i).cap) := (hb5.cell (p := ⟨hb, i * 12 + 7, none⟩) hblt).trans hb7
      have hfr5 := hrow5.frozenAt (i * 12 + 7)
      have S1 := Lib.hid hst.1
      have S2 := Lib.hid hK2
      have S3 := Lib.hid hg2
      have S4 := Lib.hid hbb
      have hblt5 : hb < w5.heap.size := Nat.lt_of_lt_of_le hblt hb5.size
      clear hst hset hHB hK2 hg2 hbb hrow5 howned hb7 gb7 hb5
      go_wp2
      go_roundw
      case rel => exact ⟨i + 1, _, by omega, by go_num, S2.out, S1.out, S3.out, S4.out⟩
      case measure => simp [intOf]; omega
    · obtain rfl : i = n := by omega
      have hke := hk
      have Li := L0.out
      rw [← Li] at hke
      have hgH : GoodD wr H := hke.good fun d hd => ⟨(HG.out d hd).1, (HG.out d hd).2.ok⟩
      have rdH := owns_rdD hrow (hk.len.trans Li) hgH
      have rdG := owns_rdD grow Li (HG.out.below hbr)
      have hsH : ∀ d ∈ H, d.len ≤ 1048576 := by
        intro d hd
        obtain ⟨j, hj, rfl⟩ := List.mem_iff_getElem.1 hd
        have hjl : j < L.length := by rw [← hk.len]; exact hj
        obtain ⟨g, e, _⟩ := hke.own j hjl hjl
        rw [← nthD_eq hj, e]
        show (nthD L j).len ≤ 1048576
        exact HS.out _ (by rw [nthD_eq hjl]; exact List.getElem_mem _)
      have hparts : partsD H = partsD L := by rw [← partsD_bare H, hke.bare, partsD_bare]
      have HBARE := Lib.hid hke.bare
      have HKE := Lib.hid hke
      have RDH := Lib.hid rdH
      have RDG := Lib.hid rdG
      have HSH := Lib.hid hsH
      have HPA := Lib.hid hparts
      clear hke hgH rdH rdG hsH hparts hk hrow grow hw1 HHB Li
      generalize wr = W0 at *
      go_wp2_with fail
      refine (histParts_any ph i phc H _ RDH.out (by omega) HSH.out).mono ?_
      rintro e w4 ⟨v, lp, rfl, hmap, hown, hb4⟩
      obtain ⟨pp, ppc, rfl⟩ := hown.slice
      have hlpl : lp.length ≤ 1099511627776 := by
        have h1 := congrArg List.length hmap
        rw [List.length_map] at h1
        have h2 := partsD_length (m := 1048576) H (fun d hd => by have h3 := HSH.out d hd; have h4 := ((RDH.out.ok d hd).2).len; omega)
        have h5 : H.length ≤ 40 := by have := RDH.out.len; omega
        have h6 : H.length * (1048576 + 1) ≤ 1099511627776 := Nat.le_trans (Nat.mul_le_mul h5 (Nat.le_refl (1048576 + 1))) (by decide)
        rw [h1]
        exact Nat.le_trans h2 h6
      have LP := Lib.hid hlpl
      clear hlpl
      have hprow := hown.1
      have hany : ∀ d ∈ lp, AnyRow w4 W0.heap.size 49 3 (.slice d.ao d.len d.cap) d.len := fun d hd => ⟨_, (hown.2 d hd).1⟩
      have HPROW := Lib.hid hprow
      have HANY := Lib.hid hany
      have HB4 := Lib.hid hb4
      clear hprow hany hown hmap hb4
      obtain ⟨np, hnp⟩ : ∃ np, lp.length = np := ⟨_, rfl⟩
      rw [hnp] at HPROW LP ⊢
      have HNP := Lib.hid hnp
      clear hnp
      go_wp2_with fail
      go_loopw [7] (fun v7 wr => ∃ k : Nat, k ≤ np ∧ v7 = .int .i64 k ∧ wr.ownsRow W0.heap.size 31 12 (.slice pp np ppc) np (doneC lp) ∧ (∀ d ∈ lp, AnyRow wr W0.heap.size 49 3 (.slice d.ao d.len d.cap) d.len) ∧ Below W0.heap.size W0 wr) (fun v7 _ => np - (intOf v7).toNat)
      case atStart => exact ⟨0, Nat.zero_le _, rfl, HPROW.out, HANY.out, HB4.out⟩
      case round =>
        obtain ⟨k, hk, rfl, hprow, hany, hbp⟩ := hrel
        clear HPROW HANY HB4
        have npb : np ≤ 1099511627776 := LP.out
        by_cases hl2 : k < np
        · have hkl : k < lp.length := by rw [HNP.out]; exact hl2
          have hmem : nthD lp k ∈ lp := by rw [nthD_eq hkl]; exact List.getElem_mem _
          obtain ⟨pb, rfl, pbge, pblt, pb7⟩ := owns_at hprow (recs_at doneS_cells lp k _ (nthD_some hkl) 7 _ rfl)
          rw [Nat.zero_add] at pb7
          have hak := hany _ hmem
          have HAK := Lib.hid hak
          have HANY := Lib.hid hany
          have HPROW := Lib.hid hprow
          clear hany hprow hak
          go_wp2_with fail
          refine (spoilK_any _ _ _ _ HAK.out).mono ?_
          rintro e w6 ⟨rfl, hg6, hany6⟩
          have A6 := Lib.hid (fun d hd => (HANY.out d hd).other hg6 HAK.out hany6)
          obtain ⟨xs, hak'⟩ := HAK.out
          have R6 := Lib.hid (owns_grown HPROW.out hg6 fun q hq e => tag_ne HPROW.out hak' (by decide) q e hq)
          have B6 := Lib.hid (hbp.grown hg6 hbp.size fun q hq => (hak'.lt q hq).1)
          clear hg6 hany6 hak'
          go_wp2
          go_roundw
          case rel => exact ⟨k + 1, by omega, by go_num, R6.out, A6.out, B6.out⟩
          case measure => simp [intOf]; omega
        · obtain rfl : k = np := by omega
          have RP := Lib.hid (show AnyRow wr W0.heap.size 31 12 (.slice pp k ppc) k from ⟨_, hprow⟩)
          clear hany hprow
          go_wp2_with fail
          refine (spoilD_any _ _ _ _ RP.out).mono ?_
          rintro e w7 ⟨rfl, hg7, _⟩
          obtain ⟨xs, hrp⟩ := RP.out
          have hb7 := hbp.grown hg7 hbp.size fun q hq => (hrp.lt q hq).1
          clear hg7 hrp
          have r7 := RDH.out.below hb7
          go_wp2_with fail
          refine (histRight_any ph i phc H _ r7).mono ?_
          rintro e w8 ⟨rfl, hb8⟩
          have r8 := r7.below hb8
          go_wp2_with fail
          refine (histMost_any ph i phc H _ r8 (by omega)).mono ?_
          rintro e w9 ⟨rfl, hb9⟩
          have hb9' : Below W0.heap.size W0 w9 := hb7.trans ((below_step hb8 hb9).mono hb7.size)
          clear r7 r8 hb7 hb8 hb9 hbp
          have HB9 := Lib.hid hb9'
          clear hb9'
          go_wp2_with fail
          go_loopw [8] (fun v8 wr => ∃ k : Nat, k ≤ i ∧ v8 = .int .i64 k ∧ Below W0.heap.size W0 wr) (fun v8 _ => i - (intOf v8).toNat)
          case atStart => exact ⟨0, Nat.zero_le _, rfl, HB9.out⟩
          case round =>
            obtain ⟨k, hk, rfl, hbz⟩ := hrel
            by_cases hl3 : k < i
            · have hkL : k < L.length := by rw [L0.out]; exact hl3
              obtain ⟨g, hge, hgo⟩ := HKE.out.own k hkL hkL
              obtain ⟨hb, ho, rfl, hblt, hbc⟩ := RDH.out.cells hl3
              obtain ⟨gb, go, rfl, gblt, gbc⟩ := RDG.out.cells hl3
              have x7 := hbc wr hbz 7 _ rfl
              have y7 := gbc wr hbz 7 _ rfl
              rw [hge] at x7
              simp only [keptD] at x7
              have Q := Lib.hid fun w' (hs : Below wr.heap.size wr w') => keptK_any g (nthD L k).len (nthD L k).ao (nthD L k).cap (nthD L k).l fK w' (hgo.below (hbz.trans (hs.mono hbz.size))) ((RDG.out.nth hl3).2.below (hbz.trans (hs.mono hbz.size))) (HS.out _ (by rw [nthD_eq hkL]; exact List.getElem_mem _))
              have hbl : hb < wr.heap.size := Nat.lt_of_lt_of_le hblt hbz.size
              have gbl : gb < wr.heap.size := Nat.lt_of_lt_of_le gblt hbz.size
              have kI : (k : Int) < (i : Int) := by omega
              clear hge hgo hbc gbc
              go_wp2_with fail
              go_region_held3 (fun w' => Below wr.heap.size wr w' ∧ (∀ b o, b < wr.heap.size → w'.cell? ⟨b, o, none⟩ = wr.cell? ⟨b, o, none⟩)) (first | exact hs_refl ((Below.refl _ _).drew) | assumption | exact hs_step (by assumption) (by assumption))
                (first | (go_at_call 31; (with_reducible refine (Q.out _ (And.left (by assumption))).mono ?_); rintro e w' ⟨rfl, hb'⟩))
              have hSz := ‹Below wr.heap.size wr _ ∧ _›.1
              go_wp2
              go_roundw
              case rel => exact ⟨k + 1, by omega, by go_num, hbz.trans (hSz.mono hbz.size)⟩
              case measure => simp [intOf]; omega
            · obtain rfl : k = i := by omega
              have rH := RDH.out.below hbz
              have rG := RDG.out.below hbz
              go_wp2_with fail
              refine (sameD_any ph pg k phc pgc H L _ rH rG HBARE.out).mono ?_
              rintro e v1 ⟨rfl, hc1⟩
              have rH1 := rH.below hc1
              have rG1 := rG.below hc1
              go_wp2_with fail
              refine (histParts_any ph k phc H _ rH1 (by omega) HSH.out).mono ?_
              rintro e v2 ⟨v, l3, rfl, hm3, hown3, hc2⟩
              obtain ⟨a3, c3, rfl⟩ := hown3.slice
              have rG2 := rG1.below hc2
              go_wp2_with fail
              refine (refParts_any pg k pgc L _ rG2 (by omega) HS.out).mono ?_
              rintro e v3 ⟨v, l4, rfl, hm4, hown4, hc3⟩
              obtain ⟨a4, c4, rfl⟩ := hown4.slice
              have hmm : l3.map DoneS.bare = l4.map DoneS.bare := by rw [hm3, hm4, HPA.out]
              have hlen : l4.length = l3.length := by have := congrArg List.length hmm; simpa using this.symm
              have X3 := Lib.hid (hown3.below hc3).rd
              have x4 := hown4.rd
              rw [hlen] at x4 ⊢
              have X4 := Lib.hid x4
              have HMM := Lib.hid hmm
              have HBZ := Lib.hid (hbr.trans ((hbz.trans ((below_step hc1 (below_step hc2 hc3)).mono hbz.size)).mono hbr.size))
              clear hm3 hm4 hmm hlen x4 hown3 hown4 rH rG rH1 rG1 rG2 hc1 hc2 hc3 hbz
              go_wp2_with fail
              refine (sameD_any a3 a4 l3.length c3 c4 l3 l4 _ X3.out X4.out HMM.out).mono ?_
              rintro e v5 ⟨rfl, hc5⟩
              go_wp2
              go_ret
              exact ⟨rfl, below_step HBZ.out hc5⟩

theorem HistKept_any (w : World) (ao : Option Addr) (len cap : Nat) (L : List (List Value)) (h : IsNest w doneK ao len cap L) (hs : ∀ l ∈ L, bulks.Short 1048576 l) :
    Calls Try.prog 9 #[.slice ao len cap] w fun e w' => e = .returned (.bool true) ∧ Below w.heap.size w w' := by
  obtain ⟨l, hl⟩ := isNest_rdD h
  exact HistKept_1 ao len cap l w hl (short_dones h hl hs)
end Go.Proofs.Ytonldjkmbapjeaa
