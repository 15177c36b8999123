/- Several texts in one: Rfs7 Itm Itm2 Rfs8 HelpN. -/
import Derived.Test.YtfgfjnlkgadkhaaGreatGe
import Derived.Test.YtfgfjnlkgadkhaaGreatGg
import Derived.Deep.RegionLaw
import Derived.Deep.CutBlock
import Derived.Deep.CutRange
import Derived.WalkLawsBesides
-- The reference's flows: which ones there are.
section
namespace Go.Proofs.YtfgfjnlkgadkhaaGreat
set_option linter.unusedVariables false
set_option linter.unusedSimpArgs false
set_option maxRecDepth 20000
open Go.RowKit Go.Proofs.YtfgfjnlkgadkhaaGreatMem Go.Proofs.YtfgfjnlkgadkhaaGreatMapK

theorem EZ : ElT Tryz.prog 54 3 (.int .i64 0) 1 := ⟨Tryz.underlying54, ⟨8, by kernel_rfl, by omega⟩, rfl, by omega⟩
def idR (l : List FlR) : List Value := (l.map (·.id)).map (Value.int .i64)
theorem idR_take (l : List FlR) {k : Nat} {e : FlR} (h : l[k]? = some e) : idR (l.take (k + 1)) = idR (l.take k) ++ [.int .i64 e.id] := by
  unfold idR
  rw [List.take_add_one, h]
  simp
theorem oneZ (z : Int) : ∀ u ∈ (#[Value.int .i64 z] : Array Value).toList, u.oneCell' = true := by
  intro u hu
  simp only [List.mem_cons, List.not_mem_nil, or_false] at hu
  subst hu; rfl

set_option maxHeartbeats 1000000 in
theorem flowsR_any (b : Nat) (t : SfS) (F : Nat → Prop) (w : World) (h : RfsAt w b t F) (hn6 : t.fs.length ≤ 1000000) :
    Calls Tryz.prog 51 #[.pointer (some ⟨b, 0, none⟩)] w fun e w' => ∃ v, e = .returned v ∧ w'.ownsRow w.heap.size 3 1 v t.fs.length (t.ids.map (Value.int .i64)) ∧ Below w.heap.size w w' := by
  obtain ⟨l, hl, R⟩ := h
  obtain ⟨ao, cap, c0, c1, c2, hc, hl63, hnil, hat⟩ := R.cells
  have hbl := R.lt b R.hb
  have HA := Lib.hid hat
  have hle : t.fs.length = l.length := by rw [← hl]; simp
  have hids : t.ids.map (Value.int .i64) = idR l := by unfold SfS.ids idR; rw [← hl]; simp [FlR.pl, Function.comp_def]
  rw [hids, hle]
  obtain ⟨n, hn⟩ : ∃ n, l.length = n := ⟨_, rfl⟩
  rw [hn] at hc hl63 hnil c0 ⊢
  have hn5 : n ≤ 1000000 := by omega
  have HN := Lib.hid hn
  clear hat R c1 c2 hn hle hids hl
  go_enter Tryz.func51, Tryz.ntmps51
  go_wp2_with fail
  go_loopw [3, 4] (fun v3 v4 wr => ∃ k : Nat, k ≤ n ∧ v4 = .int .i64 k ∧ wr.ownsRow w.heap.size 3 1 v3 k (idR (l.take k)) ∧ Below w.heap.size w wr) (fun _ v4 _ => n - (intOf v4).toNat)
  case atStart => exact ⟨0, Nat.zero_le _, rfl, owns_nil _ _ _ _, Below.refl _ _⟩
  case round =>
    obtain ⟨k, hk, rfl, hown, hbr⟩ := hrel
    have hsz := hbr.size
    have c0 := (hbr.cell (p := ⟨b, 0, none⟩) hbl).trans c0
    by_cases hkn : k < n
    · obtain ⟨e, he⟩ : ∃ e, l[k]? = some e := ⟨l[k]'(by rw [HN.out]; exact hkn), List.getElem?_eq_getElem _⟩
      obtain ⟨g, rfl, hg, cg, ci, heb⟩ := HA.out k e he
      have cg := (hbr.cell (p := ⟨g, k, none⟩) hg).trans cg
      have ci := (hbr.cell (p := ⟨e.b, 0, none⟩) heb).trans ci
      have i1 : (k : Int) < (n : Int) := by omega
      have hn2 : k + 1 ≤ 1099511627776 := by omega
      have HE := Lib.hid (idR_take l he)
      clear he
      go_wp2_with ((at_builtin; refine ap_new wr #[.int .i64 e.id] EZ rfl _ _ rfl w.heap.size _ k _ rfl hown hsz 1 rfl rfl (oneZ _) hn2 ?_; intro v' w3 hown3 hg3 hb3 hfr3))
      go_roundw
      case rel => exact ⟨k + 1, by omega, by go_num, by rw [HE.out]; exact hown3, hbr.trans hb3⟩
      case measure => simp [intOf]; omega
    · obtain rfl : k = n := by omega
      have hT : l.take k = l := List.take_of_length_le (by rw [HN.out]; exact Nat.le_refl _)
      rw [hT] at hown
      clear hT
      go_wp2
      go_ret
      exact ⟨_, rfl, hown, hbr⟩

set_option maxHeartbeats 1000000 in
theorem ahead1_any (x y : Int × Int) (w : World) :
    Calls Tryz.prog 97 #[.agg #[.int .u64 x.1, .int .i64 x.2], .agg #[.int .u64 y.1, .int .i64 y.2]] w fun e w' => e = .returned (.bool (aheadE x y)) ∧ Below w.heap.size w w' := by
  obtain ⟨a, c⟩ := x
  obtain ⟨a', c'⟩ := y
  have hA : aheadE (a, c) (a', c') = (decide (a < a') || (a == a' && decide (c < c'))) := by
    unfold aheadE aheadB
    have e : (a == a') = decide (a = a') := rfl
    rw [e]; simp
  rw [hA]
  rcases Int.lt_trichotomy a a' with h | h | h
  · have d1 : decide (a < a') = true := decide_eq_true h
    go_enter Tryz.func97, Tryz.ntmps97
    go_wp2
    go_ret
    exact ⟨by simp [h], ((Below.refl _ _).alloc (Nat.le_refl _) _).alloc (by simp) _⟩
  · subst h
    have d1 : decide (a < a) = false := decide_eq_false (by omega)
    go_enter Tryz.func97, Tryz.ntmps97
    go_wp2
    go_ret
    exact ⟨by simp, ((Below.refl _ _).alloc (Nat.le_refl _) _).alloc (by simp) _⟩
  · have d1 : decide (a < a') = false := decide_eq_false (by omega)
    have d2 : (a == a') = false := by simp; omega
    go_enter Tryz.func97, Tryz.ntmps97
    go_wp2
    go_ret
    exact ⟨by simp [d2]; omega, ((Below.refl _ _).alloc (Nat.le_refl _) _).alloc (by simp) _⟩
end Go.Proofs.YtfgfjnlkgadkhaaGreat
end

-- The reference's lists of items (ref01's Items): one laid in, in order.
section
namespace Go.Proofs.YtfgfjnlkgadkhaaGreat
set_option linter.unusedVariables false
set_option linter.unusedSimpArgs false
set_option maxRecDepth 20000
open Go.RowKit Go.Proofs.YtfgfjnlkgadkhaaGreatMem Go.Proofs.YtfgfjnlkgadkhaaGreatMapK

def insKE : List (Int × Int) → Int × Int → Nat
  | [], _ => 0
  | e :: l, y => if aheadE e y = true then insKE l y + 1 else 0
def insE (L : List (Int × Int)) (y : Int × Int) : List (Int × Int) := L.take (insKE L y) ++ y :: L.drop (insKE L y)
theorem insKE_le (L : List (Int × Int)) (y : Int × Int) : insKE L y ≤ L.length := by
  induction L with
  | nil => exact Nat.le_refl _
  | cons e l ih => unfold insKE; split <;> simp <;> omega
theorem insKE_lt {L : List (Int × Int)} {y : Int × Int} {k : Nat} (h : k < insKE L y) : aheadE (nthE L k) y = true := by
  induction L generalizing k with
  | nil => simp [insKE] at h
  | cons e l ih =>
    unfold insKE at h
    by_cases he : aheadE e y = true
    · rw [if_pos he] at h
      cases k with
      | zero => exact he
      | succ k => exact ih (k := k) (by omega)
    · rw [if_neg he] at h; omega
theorem insKE_at {L : List (Int × Int)} {y : Int × Int} (h : insKE L y < L.length) : aheadE (nthE L (insKE L y)) y = false := by
  induction L with
  | nil => simp at h
  | cons e l ih =>
    by_cases he : aheadE e y = true
    · have hk : insKE (e :: l) y = insKE l y + 1 := by show (if _ then _ else _) = _; rw [if_pos he]
      rw [hk] at h ⊢
      exact ih (by simpa using h)
    · have hk : insKE (e :: l) y = 0 := by show (if _ then _ else _) = _; rw [if_neg he]
      rw [hk]
      show aheadE e y = false
      simpa using he
theorem insE_perm (L : List (Int × Int)) (y : Int × Int) : (insE L y).Perm (L ++ [y]) := by
  unfold insE
  refine List.perm_middle.trans ?_
  rw [List.take_append_drop]
  exact (List.perm_append_singleton y L).symm
theorem insE_length (L : List (Int × Int)) (y : Int × Int) : (insE L y).length = L.length + 1 := by rw [(insE_perm L y).length_eq]; simp
theorem insE_sorted {L : List (Int × Int)} (y : Int × Int) (h : L.Pairwise fun a c => aheadE c a = false) : (insE L y).Pairwise fun a c => aheadE c a = false := by
  refine pairwise_ins _ h (fun e he => ?_) (fun e he => ?_)
  · obtain ⟨j, hj⟩ := List.getElem?_of_mem he
    have hjK : j < insKE L y := by
      rcases Nat.lt_or_ge j (insKE L y) with h | h
      · exact h
      · rw [List.getElem?_eq_none (by rw [List.length_take]; exact Nat.le_trans (Nat.min_le_left _ _) h)] at hj; cases hj
    rw [List.getElem?_take_of_lt hjK] at hj
    have h1 := insKE_lt hjK
    have h2 : nthE L j = e := by unfold nthE; rw [List.getD_eq_getElem?_getD, hj]; rfl
    rw [h2] at h1
    exact aheadE_asymm h1
  · obtain ⟨j, hj⟩ := List.getElem?_of_mem he
    rw [List.getElem?_drop] at hj
    have hlt : insKE L y + j < L.length := by
      rcases Nat.lt_or_ge (insKE L y + j) L.length with h | h
      · exact h
      · rw [List.getElem?_eq_none h] at hj; cases hj
    have hK := insKE_at (L := L) (y := y) (by omega)
    have hKl : insKE L y < L.length := by omega
    have e1 : nthE L (insKE L y) = L[insKE L y] := by unfold nthE; rw [List.getD_eq_getElem?_getD, List.getElem?_eq_getElem hKl]; rfl
    rw [List.getElem?_eq_getElem hlt] at hj
    cases hj
    rw [e1] at hK
    rcases Nat.eq_zero_or_pos j with rfl | hj0
    · exact hK
    · exact aheadE_negtrans' hK (List.pairwise_iff_getElem.1 h (insKE L y) (insKE L y + j) hKl hlt (by omega))

structure ItAt (base : Nat) (w : World) (c : Nat) (L : List (Int × Int)) : Prop where
  row : ∃ ao cap, Blk w c [.slice ao L.length cap] 123 ∧ w.ownsRow base 47 2 (.slice ao L.length cap) L.length (entC L) ∧ (Value.slice ao L.length cap).ownBlock ≠ some c
  ge : base ≤ c
theorem ItAt.below {base : Nat} {w w' : World} {c : Nat} {L : List (Int × Int)} (h : ItAt base w c L) (hb : Below w.heap.size w w') : ItAt base w' c L := by
  obtain ⟨ao, cap, h1, h2, h3⟩ := h.row
  exact ⟨⟨ao, cap, h1.below hb, owns_below (B := 0) h2 hb, h3⟩, h.ge⟩
theorem it_end {base : Nat} {W w9 : World} {c N c9 : Nat} {a9 : Option Addr} {L L' : List (Int × Int)} (h : ItAt base W c L) (hbs : base ≤ W.heap.size) (hb9 : Below W.heap.size W w9)
    (hown : w9.ownsRow W.heap.size 47 2 (.slice a9 N c9) N (entC L')) (hN : L'.length = N) : ItAt base (w9.setCell ⟨c, 0, none⟩ (.slice a9 N c9)) c L' ∧ Below base W (w9.setCell ⟨c, 0, none⟩ (.slice a9 N c9)) := by
  obtain ⟨ao, cap, h1, h2, h3⟩ := h.row
  have hlt := h1.lt
  have hne : ∀ k, (Value.slice a9 N c9).ownBlock = some k → k ≠ c := fun k hk e => by have := (hown.lt k hk).1; omega
  have hS : Fr (fun k => k = c) w9 (w9.setCell ⟨c, 0, none⟩ (.slice a9 N c9)) := Fr.setCell (S := fun k => k = c) (a := ⟨c, 0, none⟩) (Fr.refl _ _) (.inl rfl) _
  subst hN
  refine ⟨⟨⟨a9, c9, by simpa using (h1.below hb9).set 0 (.slice a9 L'.length c9), owns_base (owns_fr hown hS fun k hk => hne k hk) hbs, fun e => hne c e rfl⟩, h.ge⟩, ?_⟩
  exact (hb9.mono hbs).setCell h.ge _

set_option maxHeartbeats 1000000 in
theorem itAt_any (base c : Nat) (L : List (Int × Int)) (id : Int) (w : World) (h : ItAt base w c L) (hno : ∀ e ∈ L, e.2 ≠ id) :
    Calls Tryz.prog 96 #[.pointer (some ⟨c, 0, none⟩), .int .i64 id] w fun e w' => e = .returned (.int .i64 (-1)) ∧ w = w' := by
  obtain ⟨ao, cap, h1, h2, h3⟩ := h.row
  have c0 := h1.cell 0
  simp only [List.getElem?_cons_zero] at c0
  have hrd := owns_rdS h2 (entC_one L)
  have hlt := h1.lt
  have hl63 := hrd.small
  have hnil := hrd.nil
  have hcap := hrd.le
  have HNO := Lib.hid hno
  obtain ⟨n, hn⟩ : ∃ n, L.length = n := ⟨_, rfl⟩
  rw [hn] at c0 hrd hl63 hnil hcap
  have HN := Lib.hid hn
  clear h h1 h2 h3 hno hn
  go_enter Tryz.func96, Tryz.ntmps96
  go_wp2_with fail
  go_loopw [5] (fun v5 wr => ∃ k : Nat, k ≤ n ∧ v5 = .int .i64 k ∧ w = wr) (fun v5 _ => n - (intOf v5).toNat)
  case atStart => exact ⟨0, Nat.zero_le _, rfl, rfl⟩
  case round =>
    obtain ⟨k, hk, rfl, rfl⟩ := hrel
    by_cases hkn : k < n
    · obtain ⟨b0, o0, rfl, hlt0, hc0⟩ := rds_ent hrd HN.out hkn
      obtain ⟨p0, p1⟩ := hc0 _ (Below.refl _ _)
      have i1 : (k : Int) < (n : Int) := by omega
      have hmem : nthE L k ∈ L := by
        have hk2 : k < L.length := by rw [HN.out]; exact hkn
        unfold nthE; rw [List.getD_eq_getElem?_getD, List.getElem?_eq_getElem hk2]; exact List.getElem_mem hk2
      have q : ((nthE L k).2 == id) = false := by simpa using HNO.out _ hmem
      clear hc0 hmem
      go_wp2
      go_roundw
      case rel => exact ⟨k + 1, by omega, by go_num, by first | rfl | trivial⟩
      case measure => simp [intOf]; omega
    · obtain rfl : k = n := by omega
      go_wp2
      go_ret
      exact ⟨rfl, rfl⟩
end Go.Proofs.YtfgfjnlkgadkhaaGreat
end

-- The reference's lists of items: one laid in, in order (Push).
section
namespace Go.Proofs.YtfgfjnlkgadkhaaGreat
set_option linter.unusedVariables false
set_option linter.unusedSimpArgs false
set_option maxRecDepth 20000
open Go.RowKit Go.Proofs.YtfgfjnlkgadkhaaGreatMem Go.Proofs.YtfgfjnlkgadkhaaGreatMapK

set_option maxHeartbeats 2000000 in
theorem itPush_any (base c : Nat) (L : List (Int × Int)) (y : Int × Int) (w : World) (h : ItAt base w c L) (hbs : base ≤ w.heap.size) (hL6 : L.length ≤ 1000000) (hno : ∀ e ∈ L, e.2 ≠ y.2) :
    Calls Tryz.prog 78 #[.pointer (some ⟨c, 0, none⟩), .agg #[.int .u64 y.1, .int .i64 y.2]] w fun e w' => e = .returned (.bool true) ∧ ItAt base w' c (insE L y) ∧ Below base w w' := by
  have hb1 := below1 w (.cells #[.int .u64 y.1, .int .i64 y.2] 47)
  have Y := Blk.new w [.int .u64 y.1, .int .i64 y.2] 47
  have h1 := h.below hb1
  have hsz1 := hb1.size
  have hB1 := Lib.hid (hb1.mono hbs)
  clear h hb1
  go_enter Tryz.func78, Tryz.ntmps78
  go_upto_region 1 with fail
  generalize hW : w.alloc (.cells #[.int .u64 y.1, .int .i64 y.2] 47) = W at *
  clear hW
  generalize hq : w.heap.size = q at *
  have hbW : base ≤ W.heap.size := Nat.le_trans hbs hsz1
  clear hsz1 hq
  have y0 := Y.cell 0
  have y1 := Y.cell 1
  simp only [List.getElem?_cons_succ, List.getElem?_cons_zero] at y0 y1
  have hyl := Y.lt
  have HY := Lib.hid Y
  clear Y
  go_wp2_with fail
  refine (itAt_any base c L y.2 W h1 hno).mono ?_
  rintro e w' ⟨rfl, rfl⟩
  obtain ⟨ao, cap, B1, R1, N1⟩ := h1.row
  have c0 := B1.cell 0
  simp only [List.getElem?_cons_zero] at c0
  have hrd := owns_rdS R1 (entC_one L)
  have hlt := B1.lt
  have hl63 := hrd.small
  have hnil := hrd.nil
  have hcap := hrd.le
  have hkle := insKE_le L y
  have HK1 := Lib.hid (fun (k : Nat) (hk : k < insKE L y) => insKE_lt hk)
  have HK2 := Lib.hid (insKE_at (L := L) (y := y))
  have HI := Lib.hid h1
  have HRD := Lib.hid hrd
  have HB1 := Lib.hid B1
  have HR1 := Lib.hid R1
  obtain ⟨n, hn⟩ : ∃ n, L.length = n := ⟨_, rfl⟩
  rw [hn] at c0 hrd hl63 hnil hcap hkle hL6 HK2 HRD HR1
  have HN := Lib.hid hn
  obtain ⟨K, hK⟩ : ∃ K, insKE L y = K := ⟨_, rfl⟩
  rw [hK] at hkle HK1 HK2
  have HKK := Lib.hid hK
  clear h1 B1 R1 N1 hno hn hK
  have y0' := y0
  go_upto_block 0 with fail
  go_cut [5] from 12 to 31 (fun v5 wx => v5 = .int .i64 K ∧ Below W.heap.size W wx)
  case first =>
    go_wp2_with fail
    go_loopw [5] (fun v5 wr => ∃ k : Nat, k ≤ K ∧ v5 = .int .i64 k ∧ Below W.heap.size W wr) (fun v5 _ => n - (intOf v5).toNat)
    case atStart => exact ⟨0, Nat.zero_le _, rfl, Below.refl _ _⟩
    case round =>
      obtain ⟨k, hk, rfl, hbr⟩ := hrel
      by_cases hkn : k < n
      · obtain ⟨b0, o0, rfl, hlt0, hc0⟩ := rds_ent hrd HN.out hkn
        have i1 : (k : Int) < (n : Int) := by omega
        have HC0 := Lib.hid hc0
        have hS : ∀ w', Below W.heap.size W w' → (w'.cell? ⟨c, 0, none⟩ = some (.slice (some ⟨b0, o0, none⟩) n cap) ∧ w'.cell? ⟨q, 0, none⟩ = some (.int .u64 y.1) ∧ w'.cell? ⟨q, 1, none⟩ = some (.int .i64 y.2)) ∧ (w'.cell? ⟨b0, o0 + k * 2, none⟩ = some (.int .u64 (nthE L k).1) ∧ w'.cell? ⟨b0, o0 + k * 2 + 1, none⟩ = some (.int .i64 (nthE L k).2)) :=
          fun w' hb => ⟨⟨(hb.cell (p := ⟨c, 0, none⟩) hlt).trans c0, (hb.cell (p := ⟨q, 0, none⟩) hyl).trans y0, (hb.cell (p := ⟨q, 1, none⟩) hyl).trans y1⟩, HC0.out w' hb⟩
        have HS := Lib.hid hS
        have Td := hbr.drew
        have hA := ahead1_any (nthE L k) y
        have HK2' := HK2
        by_cases hkK : k < K
        · have ha : aheadE (nthE L k) y = true := HK1.out k hkK
          rw [ha] at hA
          clear hc0 hS y0 y1 y0' c0 hrd ha
          go_wp2_with fail
          go_region_held3 (fun w' => (w'.cell? ⟨c, 0, none⟩ = some (.slice (some ⟨b0, o0, none⟩) n cap) ∧ w'.cell? ⟨q, 0, none⟩ = some (.int .u64 y.1) ∧ w'.cell? ⟨q, 1, none⟩ = some (.int .i64 y.2)) ∧ (w'.cell? ⟨b0, o0 + k * 2, none⟩ = some (.int .u64 (nthE L k).1) ∧ w'.cell? ⟨b0, o0 + k * 2 + 1, none⟩ = some (.int .i64 (nthE L k).2)))
            (exact HS.out _ Td)
            (first | (go_at_call 97; refine (hA _).mono ?_; rintro e w3 ⟨rfl, hb3⟩; replace Td := Td.trans (hb3.mono Td.size)))
          go_wp2
          go_roundw
          case rel => exact ⟨k + 1, by omega, by go_num, Td⟩
          case measure => simp [intOf]; omega
        · obtain rfl : k = K := by omega
          have ha : aheadE (nthE L k) y = false := HK2.out hkn
          rw [ha] at hA
          clear hc0 hS y0 y1 y0' c0 hrd ha
          go_wp2_with fail
          go_region_held3 (fun w' => (w'.cell? ⟨c, 0, none⟩ = some (.slice (some ⟨b0, o0, none⟩) n cap) ∧ w'.cell? ⟨q, 0, none⟩ = some (.int .u64 y.1) ∧ w'.cell? ⟨q, 1, none⟩ = some (.int .i64 y.2)) ∧ (w'.cell? ⟨b0, o0 + k * 2, none⟩ = some (.int .u64 (nthE L k).1) ∧ w'.cell? ⟨b0, o0 + k * 2 + 1, none⟩ = some (.int .i64 (nthE L k).2)))
            (exact HS.out _ Td)
            (first | (go_at_call 97; refine (hA _).mono ?_; rintro e w3 ⟨rfl, hb3⟩; replace Td := Td.trans (hb3.mono Td.size)))
          go_wp2
          go_meet
          exact ⟨rfl, Td⟩
      · obtain rfl : k = n := by omega
        obtain rfl : K = k := by omega
        have i1 : ¬ (K : Int) < (K : Int) := by omega
        have c0 := (hbr.cell (p := ⟨c, 0, none⟩) hlt).trans c0
        clear y0 y1 y0' hrd
        go_wp2_with fail
        go_region
        go_wp2
        go_meet
        exact ⟨rfl, hbr.drew⟩
  case rest =>
    obtain ⟨rfl, hbc⟩ := hcut
    have HIc := Lib.hid (HI.out.below hbc)
    have c0 := (hbc.cell (p := ⟨c, 0, none⟩) hlt).trans c0
    have y0 := (hbc.cell (p := ⟨q, 0, none⟩) hyl).trans y0
    have y1 := (hbc.cell (p := ⟨q, 1, none⟩) hyl).trans y1
    have hyl := Nat.lt_of_lt_of_le hyl hbc.size
    have hltc := Nat.lt_of_lt_of_le hlt hbc.size
    have hbsc := Nat.le_trans hbW hbc.size
    have HBC := Lib.hid (hB1.out.trans (hbc.mono hbW))
    have hrd := HRD.out.below hbc
    have hR2 := owns_below (B := 0) HR1.out hbc
    have FZ := Lib.hid (HB1.out.below hbc)
    clear hbc y0' HI HK1 HK2 HRD HY
    have hsp : entC L = entC (L.take K) ++ entC (L.drop K) := by rw [← entC_append, List.take_append_drop]
    have hT1 : (entC (L.take K)).length = K * 2 := by rw [entC_length, List.length_take, HN.out]; omega
    have hT3 : ∀ j u, (entC (L.take K))[j]? = some u → ∃ g off, ao = some ⟨g, off, none⟩ ∧ wc.cell? ⟨g, off + j, none⟩ = some u := fun j u hu => by
      have hj : j < (entC (L.take K)).length := by
        rcases Nat.lt_or_ge j (entC (L.take K)).length with h | h
        · exact h
        · rw [List.getElem?_eq_none h] at hu; cases hu
      obtain ⟨g, off, e1, -, hc⟩ := hrd.at_ j u (by rw [hsp, List.getElem?_append_left hj]; exact hu)
      exact ⟨g, off, e1, hc⟩
    have hT4 : ao = none → K = 0 ∧ cap = 0 := fun e => by have := hnil e; omega
    have HT1 := Lib.hid hT1
    have HT3 := Lib.hid hT3
    have HT4 := Lib.hid hT4
    have HRD := Lib.hid hrd
    have HR2 := Lib.hid hR2
    have HSP := Lib.hid hsp
    clear hT1 hT3 hT4 hrd hR2 hsp HR1 HB1
    have i1 : (K : Int) ≤ (cap : Int) := by omega
    go_wp2_with ((at_builtin; refine ap_src wc EI rfl _ _ rfl wc.heap.size _ 0 [] rfl (World.ownsRow_nil _ _ _ _) (Nat.le_refl _) ao K cap (entC (L.take K)) rfl HT4.out HT1.out HT3.out (entC_one _) (by omega) ?_; intro v3 w3 hown3 hg3 hb3 hfr3))
    simp only [Nat.zero_add, List.nil_append] at hown3
    obtain ⟨a3, c3, rfl⟩ := owns_slice hown3
    have hbW3 : Below wc.heap.size wc w3 := hb3
    have c0 : w3.cell? ⟨c, 0, none⟩ = some (.slice ao n cap) := (hbW3.cell (p := ⟨c, 0, none⟩) hltc).trans c0
    have y0 : w3.cell? ⟨q, 0, none⟩ = some (.int .u64 y.1) := (hbW3.cell (p := ⟨q, 0, none⟩) hyl).trans y0
    have y1 : w3.cell? ⟨q, 1, none⟩ = some (.int .i64 y.2) := (hbW3.cell (p := ⟨q, 1, none⟩) hyl).trans y1
    have HO3 : Hid (w3.ownsRow wc.heap.size 47 2 (.slice a3 K c3) K (entC (L.take K))) := Lib.hid hown3
    have HBW := Lib.hid hbW3
    have hltw := Nat.lt_of_lt_of_le hltc hbW3.size
    have hylw := Nat.lt_of_lt_of_le hyl hbW3.size
    clear hown3 hbW3 hg3 hb3 hfr3
    have hD1 : (entC (L.drop K)).length = (n - K) * 2 := by rw [entC_length, List.length_drop, HN.out]
    have HD1 := Lib.hid hD1
    clear hD1
    have hlen : (insE L y).length = K + 1 + (n - K) := by rw [insE_length, HN.out]; omega
    have hent : entC (insE L y) = entC (L.take K) ++ #[Value.int .u64 y.1, .int .i64 y.2].toList ++ entC (L.drop K) := by
      unfold insE; rw [HKK.out, entC_append, List.append_assoc]; rfl
    have HLE := Lib.hid hlen
    have HEN := Lib.hid hent
    clear hlen hent
    by_cases hcK : cap = K
    · have hnK : n - K = 0 := by omega
      have hD3 : ∀ w', Below wc.heap.size wc w' → ∀ j u, (entC (L.drop K))[j]? = some u → ∃ g' off, ao = some ⟨g', off, none⟩ ∧ w'.cell? ⟨g', off + j, none⟩ = some u := fun w' hb j u hu => by
        rw [List.eq_nil_of_length_eq_zero (l := entC (L.drop K)) (by rw [HD1.out, hnK])] at hu; cases hu
      have HD3 := Lib.hid hD3
      have HNK := Lib.hid hnK
      clear hD3 hnK
      go_region_law (first
        | (refine step_ap_new w3 #[.int .u64 y.1, .int .i64 y.2] EI (by rfl) _ _ (by rfl) wc.heap.size _ K _ (by simp [Act.eval, Act.put]) HO3.out HBW.out.size 1 (by simp [Act.eval, Act.put]) (by rfl) (one2 _ _) (by omega) ?_; intro v8 w8 hown8 hg8 hb8 hfr8; obtain ⟨a8, c8, rfl⟩ := owns_slice hown8; have c8b := (hb8.cell (p := ⟨c, 0, none⟩) hltc).trans c0; have HT8 := Lib.hid (HBW.out.trans hb8); have HO8 := Lib.hid hown8; clear hg8 hb8 hown8 hfr8)
        | (refine step_ap_src0 w8 EI (by rfl) _ _ (by rfl) wc.heap.size _ (K + 1) _ (by simp [Act.eval, Act.put]) HO8.out HT8.out.size ao 0 0 (entC (L.drop K)) (by simp [Act.eval, Act.put] <;> omega) (fun _ => ⟨rfl, rfl⟩) (by rw [HD1.out, HNK.out]) (HD3.out _ HT8.out) (entC_one _) (by omega) ?_; intro v9 w9 hown9 hg9 hb9 hfr9; obtain ⟨a9, c9, rfl⟩ := owns_slice hown9; have c9b := (hb9.cell (p := ⟨c, 0, none⟩) hltc).trans c8b; have HT9 := Lib.hid (HT8.out.trans hb9); have fz9 := (FZ.out.below HT9.out).frozen 0; have HO9 := Lib.hid hown9; clear hg9 hb9 hown9 hfr9)
        | fail)
      all_goals
        go_wp2
        go_ret
        have hh := it_end (N := K + 1 + 0) HIc.out hbsc HT9.out (by rw [HEN.out]; exact HO9.out) (by rw [HLE.out, HNK.out])
        exact ⟨rfl, hh.1, HBC.out.trans hh.2⟩
    · have hlt2 : K < cap := by omega
      obtain ⟨g, rfl⟩ : ∃ g, ao = some ⟨g, 0, none⟩ := by
        rcases HR2.out.2 with ⟨hv, _⟩ | ⟨g, _, _, hv, _⟩
        · simp only [Value.slice.injEq] at hv; omega
        · simp only [Value.slice.injEq] at hv; exact ⟨g, hv.1⟩
      have hD3 : ∀ w', Below wc.heap.size wc w' → ∀ j u, (entC (L.drop K))[j]? = some u → ∃ g' off, (some (⟨g, K * 2, none⟩ : Addr)) = some ⟨g', off, none⟩ ∧ w'.cell? ⟨g', off + j, none⟩ = some u := fun w' hb j u hu => by
        obtain ⟨g', off, e1, -, hc⟩ := (HRD.out.below hb).at_ (K * 2 + j) u (by rw [HSP.out, List.getElem?_append_right (by rw [HT1.out]; omega), HT1.out]; rw [show K * 2 + j - K * 2 = j by omega]; exact hu)
        simp only [Option.some.injEq, Addr.mk.injEq, and_true] at e1
        obtain ⟨rfl, rfl⟩ := e1
        exact ⟨g, K * 2, rfl, by rw [Nat.zero_add] at hc; exact hc⟩
      have HD3 := Lib.hid hD3
      clear hD3
      go_region_law (first
        | (refine step_ap_new w3 #[.int .u64 y.1, .int .i64 y.2] EI (by rfl) _ _ (by rfl) wc.heap.size _ K _ (by simp [Act.eval, Act.put]) HO3.out HBW.out.size 1 (by simp [Act.eval, Act.put]) (by rfl) (one2 _ _) (by omega) ?_; intro v8 w8 hown8 hg8 hb8 hfr8; obtain ⟨a8, c8, rfl⟩ := owns_slice hown8; have c8b := (hb8.cell (p := ⟨c, 0, none⟩) hltc).trans c0; have HT8 := Lib.hid (HBW.out.trans hb8); have HO8 := Lib.hid hown8; clear hg8 hb8 hown8 hfr8)
        | (refine step_ap_src0 w8 EI (by rfl) _ _ (by rfl) wc.heap.size _ (K + 1) _ (by simp [Act.eval, Act.put]) HO8.out HT8.out.size (some ⟨g, K * 2, none⟩) (n - K) (cap - K) (entC (L.drop K)) (by simp [Act.eval, Act.put]) (fun h => by cases h) HD1.out (HD3.out _ HT8.out) (entC_one _) (by omega) ?_; intro v9 w9 hown9 hg9 hb9 hfr9; obtain ⟨a9, c9, rfl⟩ := owns_slice hown9; have c9b := (hb9.cell (p := ⟨c, 0, none⟩) hltc).trans c8b; have HT9 := Lib.hid (HT8.out.trans hb9); have fz9 := (FZ.out.below HT9.out).frozen 0; have HO9 := Lib.hid hown9; clear hg9 hb9 hown9 hfr9)
        | fail)
      all_goals
        go_wp2
        go_ret
        have hh := it_end (N := K + 1 + (n - K)) HIc.out hbsc HT9.out (by rw [HEN.out]; exact HO9.out) HLE.out
        exact ⟨rfl, hh.1, HBC.out.trans hh.2⟩
end Go.Proofs.YtfgfjnlkgadkhaaGreat
end

-- The reference's flows: all starts, in order.
section
namespace Go.Proofs.YtfgfjnlkgadkhaaGreat
set_option linter.unusedVariables false
set_option linter.unusedSimpArgs false
set_option maxRecDepth 20000
open Go.RowKit Go.Proofs.YtfgfjnlkgadkhaaGreatMem Go.Proofs.YtfgfjnlkgadkhaaGreatMapK

theorem insE_sortE (M : List (Int × Int)) (y : Int × Int) : insE (sortE M) y = sortE (M ++ [y]) :=
  List.Perm.eq_of_pairwise (le := fun x z => aheadE z x = false) (fun a b _ _ h1 h2 => (aheadE_total h2 h1)) (insE_sorted y (sortE_pairwise M)) (sortE_pairwise _)
    ((insE_perm _ _).trans (((sortE_perm M).append_right _).trans (sortE_perm _).symm))
theorem entR_take (l : List FlR) {k : Nat} {e : FlR} (h : l[k]? = some e) : entR (l.take (k + 1)) = if e.x.has = true then entR (l.take k) ++ [(e.x.start, e.id)] else entR (l.take k) := by
  rw [List.take_add_one, h]
  exact entR_append _ _
theorem entR_no {l : List FlR} (hr : l.Pairwise fun e e' => e.id < e'.id) {k : Nat} {e : FlR} (h : l[k]? = some e) : ∀ p ∈ sortE (entR (l.take k)), p.2 ≠ e.id := by
  intro p hp
  obtain ⟨e', he', -, rfl⟩ := entR_mem ((sortE_perm _).mem_iff.1 hp)
  obtain ⟨j, hj⟩ := List.getElem?_of_mem he'
  have hjk : j < k := by
    rcases Nat.lt_or_ge j k with h | h
    · exact h
    · rw [List.getElem?_eq_none (by rw [List.length_take]; exact Nat.le_trans (Nat.min_le_left _ _) h)] at hj; cases hj
  rw [List.getElem?_take_of_lt hjk] at hj
  have := rise_lt hr hj h hjk
  show e'.id ≠ e.id
  omega
theorem entR_len (l : List FlR) (k : Nat) : (sortE (entR (l.take k))).length ≤ k := by
  rw [sortE_length]
  unfold entR
  refine Nat.le_trans (entL_le _) ?_
  rw [List.length_map, List.length_take]
  exact Nat.min_le_left _ _

set_option maxHeartbeats 1000000 in
theorem startsR_any (b : Nat) (t : SfS) (F : Nat → Prop) (w : World) (h : RfsAt w b t F) (hn6 : t.fs.length ≤ 1000000) :
    Calls Tryz.prog 50 #[.pointer (some ⟨b, 0, none⟩)] w fun e w' => ∃ v, e = .returned v ∧ w'.ownsRow w.heap.size 47 2 v t.starts.length (entC t.starts) ∧ Below w.heap.size w w' := by
  obtain ⟨l, hl, R⟩ := h
  obtain ⟨ao, cap, c0, c1, c2, hc, hl63, hnil, hat⟩ := R.cells
  have hbl := R.lt b R.hb
  have HA := Lib.hid hat
  have HC2 := Lib.hid (fun (k : Nat) (e : FlR) (he : l[k]? = some e) => R.cells2 he)
  have HR := Lib.hid R.rise
  have hle : t.fs.length = l.length := by rw [← hl]; simp
  have hst : t.starts = sortE (entR l) := by unfold SfS.starts entR; rw [hl]
  rw [hst]
  obtain ⟨n, hn⟩ : ∃ n, l.length = n := ⟨_, rfl⟩
  rw [hn] at hc hl63 hnil c0
  have hn5 : n ≤ 1000000 := by omega
  have HN := Lib.hid hn
  clear hat R c1 c2 hn hle hst hl
  go_enter Tryz.func50, Tryz.ntmps50
  go_upto_region 2 with fail
  have hb1 := below1 w (.cells #[.slice none 0 0] 123)
  have I0 : ItAt w.heap.size (w.alloc (.cells #[.slice none 0 0] 123)) w.heap.size [] :=
    ⟨⟨none, 0, Blk.new w [.slice none 0 0] 123, owns_nil _ _ _ _, fun e => by cases e⟩, Nat.le_refl _⟩
  generalize hW : w.alloc (.cells #[.slice none 0 0] 123) = W at *
  clear hW
  have hbq := hb1.size
  have HW := Lib.hid hb1
  generalize hq : w.heap.size = q at *
  clear hb1
  have HQ := Lib.hid hq
  clear hq
  go_wp2_with fail
  go_loopw [4] (fun v4 wr => ∃ k : Nat, k ≤ n ∧ v4 = .int .i64 k ∧ ItAt q wr q (sortE (entR (l.take k))) ∧ Below q w wr ∧ q ≤ wr.heap.size) (fun v4 _ => n - (intOf v4).toNat)
  case atStart => exact ⟨0, Nat.zero_le _, rfl, by rw [show sortE (entR (l.take 0)) = [] by simp [entR, entL, sortE]]; exact I0, HW.out, hbq⟩
  case round =>
    obtain ⟨k, hk, rfl, It, hbr, hsz⟩ := hrel
    clear I0
    have hrd : ∀ {p : Addr} {u : Value} {w' : World}, Below q w w' → p.block < q → w.cell? p = some u → w'.cell? p = some u := fun {p u w'} hb hp hu => (hb.cell hp).trans hu
    have c0r := hrd hbr hbl c0
    by_cases hkn : k < n
    · obtain ⟨e, he⟩ : ∃ e, l[k]? = some e := ⟨l[k]'(by rw [HN.out]; exact hkn), List.getElem?_eq_getElem _⟩
      obtain ⟨g, rfl, hg, cg, ci, heb⟩ := HA.out k e he
      obtain ⟨a3, k3, d3, d4⟩ := HC2.out k e he
      have i1 : (k : Int) < (n : Int) := by omega
      have HT := Lib.hid (entR_take l he)
      have HNO := Lib.hid (entR_no HR.out he)
      have HLN := Lib.hid (entR_len l k)
      have HIt := Lib.hid It
      have cgr := hrd hbr hg cg
      have d3r := hrd hbr heb d3
      have HS : Hid (∀ w', Below q w w' → (w'.cell? ⟨b, 0, none⟩ = some (.slice (some ⟨g, 0, none⟩) n cap) ∧ w'.cell? ⟨g, k, none⟩ = some (.pointer (some ⟨e.b, 0, none⟩))) ∧ (w'.cell? ⟨e.b, 0, none⟩ = some (.int .i64 e.id) ∧ w'.cell? ⟨e.b, 4, none⟩ = some (.int .u64 e.x.start))) :=
        Lib.hid fun w' hb => ⟨⟨hrd hb hbl c0, hrd hb hg cg⟩, hrd hb heb ci, hrd hb heb d4⟩
      clear he It cg ci d3 d4 c0
      cases hlx : e.x.l with
      | nil =>
        have hh : e.x.has = false := by unfold FlS.has; rw [hlx]; rfl
        rw [hlx] at d3r
        have e1 : entR (l.take (k + 1)) = entR (l.take k) := by rw [HT.out, if_neg (by rw [hh]; simp)]
        have HE := Lib.hid e1
        clear e1 hh hlx hrd
        simp only [List.length_nil] at d3r
        go_wp2
        go_roundw
        case rel => exact ⟨k + 1, by omega, by go_num, by rw [HE.out]; exact HIt.out, hbr, hsz⟩
        case measure => simp [intOf]; omega
      | cons p r =>
        have hh : e.x.has = true := by unfold FlS.has; rw [hlx]; rfl
        obtain ⟨m, hm⟩ : ∃ m, e.x.l.length = m := ⟨_, rfl⟩
        have hm0 : (0 : Int) < (m : Int) := by rw [← hm, hlx]; simp
        rw [hm] at d3r
        have e1 : sortE (entR (l.take (k + 1))) = insE (sortE (entR (l.take k))) (e.x.start, e.id) := by rw [HT.out, if_pos hh, insE_sortE]
        have HE := Lib.hid e1
        clear e1 hh hlx hm
        go_upto_region 6 with fail
        have hP := itPush_any q q (sortE (entR (l.take k))) (e.x.start, e.id) wr.drew (HIt.out.below ((Below.refl _ _).drew)) hsz (Nat.le_trans HLN.out (by omega)) HNO.out
        have S0 := HS.out wr.drew hbr.drew
        clear hrd c0r cgr d3r
        go_region_held3 (fun w' => (w'.cell? ⟨b, 0, none⟩ = some (.slice (some ⟨g, 0, none⟩) n cap) ∧ w'.cell? ⟨g, k, none⟩ = some (.pointer (some ⟨e.b, 0, none⟩))) ∧ (w'.cell? ⟨e.b, 0, none⟩ = some (.int .i64 e.id) ∧ w'.cell? ⟨e.b, 4, none⟩ = some (.int .u64 e.x.start)))
          (first | exact S0 | exact HS.out _ Td)
          (first | (go_at_call 78; refine hP.mono ?_; rintro e' w3 ⟨rfl, It3, hb3⟩; have Td := hbr.drew.trans hb3))
        have hsz3 := hb3.size
        go_wp2
        go_roundw
        case rel => exact ⟨k + 1, by omega, by go_num, by rw [HE.out]; exact It3, Td, Nat.le_trans hsz hsz3⟩
        case measure => simp [intOf]; omega
    · obtain rfl : k = n := by omega
      have hT : l.take k = l := List.take_of_length_le (by rw [HN.out]; exact Nat.le_refl _)
      rw [hT] at It
      obtain ⟨ao', cap', B1, R1, -⟩ := It.row
      have x0 := B1.cell 0
      simp only [List.getElem?_cons_zero] at x0
      have hlt1 := B1.lt
      clear hT hrd It B1
      go_wp2
      go_ret
      exact ⟨_, rfl, by rw [HQ.out]; exact R1, by rw [HQ.out]; exact hbr⟩
end Go.Proofs.YtfgfjnlkgadkhaaGreat
end

-- weighbridgehelp at slices of items and of numbers: two that hold the same are held to be the same.
section
namespace Go.Proofs.YtfgfjnlkgadkhaaGreat
set_option linter.unusedVariables false
set_option linter.unusedSimpArgs false
set_option maxRecDepth 20000
open Go.RowKit Go.Proofs.YtfgfjnlkgadkhaaGreatMem

set_option maxHeartbeats 400000 in
theorem plainE1_any (p : Int × Int) (w : World) :
    Calls Tryz.prog 47 #[.agg #[.int .u64 p.1, .int .i64 p.2], .agg #[.int .u64 p.1, .int .i64 p.2]] w fun e w' => e = .returned (.bool true) ∧ Below w.heap.size w w' := by
  go_enter Tryz.func47, Tryz.ntmps47
  go_wp2
  go_ret
  exact ⟨by simp [Act.eval], ((Below.refl _ _).alloc (Nat.le_refl _) _).alloc (by simp) _⟩

set_option maxHeartbeats 1000000 in
theorem sameE_any (a0 a1 : Option Addr) (n c0 c1 : Nat) (l : List (Int × Int)) (w : World) (h0 : RdS w a0 n c0 2 (entC l)) (h1 : RdS w a1 n c1 2 (entC l)) (hl : l.length = n) :
    Calls Tryz.prog 46 #[.slice a0 n c0, .slice a1 n c1, .func (.func 47) #[] #[]] w fun e w' => e = .returned (.bool true) ∧ Below w.heap.size w w' := by
  have s0 := h0.small
  have hb : ((n : Int) != (n : Int)) = false := by simp
  have HL := Lib.hid hl
  clear hl
  go_enter Tryz.func46, Tryz.ntmps46
  go_wp2
  go_loopw [7] (fun i wr => ∃ k : Nat, k ≤ n ∧ i = .int .i64 k ∧ Below w.heap.size w wr) (fun i _ => n - (intOf i).toNat)
  case atStart => exact ⟨0, Nat.zero_le _, rfl, Below.refl _ _⟩
  case round =>
    obtain ⟨k, hk, rfl, hbr⟩ := hrel
    by_cases hl : k < n
    · obtain ⟨b0, o0, rfl, hlt0, hc0⟩ := rds_ent h0 HL.out hl
      obtain ⟨b1, o1, rfl, hlt1, hc1⟩ := rds_ent h1 HL.out hl
      have i1 : (k : Int) < (n : Int) := by omega
      have HC0 := Lib.hid hc0
      have HC1 := Lib.hid hc1
      clear hc0 hc1
      have Td := hbr.drew
      go_wp2_with fail
      go_region_held3 (fun w' => (w'.cell? ⟨b0, o0 + k * 2, none⟩ = some (.int .u64 (nthE l k).1) ∧ w'.cell? ⟨b0, o0 + k * 2 + 1, none⟩ = some (.int .i64 (nthE l k).2)) ∧ (w'.cell? ⟨b1, o1 + k * 2, none⟩ = some (.int .u64 (nthE l k).1) ∧ w'.cell? ⟨b1, o1 + k * 2 + 1, none⟩ = some (.int .i64 (nthE l k).2)))
        (exact ⟨HC0.out _ Td, HC1.out _ Td⟩)
        (first | (go_at_call 47; refine (plainE1_any (nthE l k) _).mono ?_; rintro e w3 ⟨rfl, hb3⟩; replace Td := Td.trans (hb3.mono Td.size)))
      go_wp2
      go_roundw
      case rel => exact ⟨k + 1, by omega, by go_num, Td⟩
      case measure => simp [intOf]; omega
    · have i1 : (n : Int) ≤ (k : Int) := by omega
      go_wp2
      go_ret
      exact ⟨rfl, hbr⟩

set_option maxHeartbeats 400000 in
theorem plainE_any (a0 a1 : Option Addr) (n c0 c1 : Nat) (l : List (Int × Int)) (w : World) (h0 : RdS w a0 n c0 2 (entC l)) (h1 : RdS w a1 n c1 2 (entC l)) (hl : l.length = n) :
    Calls Tryz.prog 19 #[.slice a0 n c0, .slice a1 n c1] w fun e w' => e = .returned (.bool true) ∧ Below w.heap.size w w' := by
  have hs := sameE_any a0 a1 n c0 c1 l
  go_enter Tryz.func19, Tryz.ntmps19
  go_wp2_with fail
  refine (hs _ h0 h1 hl).mono ?_
  rintro e w1 ⟨rfl, hb⟩
  go_wp2
  go_ret
  exact ⟨rfl, hb⟩

set_option maxHeartbeats 400000 in
theorem plainZ1_any (p : Int) (w : World) :
    Calls Tryz.prog 60 #[.int .i64 p, .int .i64 p] w fun e w' => e = .returned (.bool true) ∧ Below w.heap.size w w' := by
  go_enter Tryz.func60, Tryz.ntmps60
  go_wp2
  go_ret
  exact ⟨by simp [Act.eval], Below.refl _ _⟩
def nthZ (l : List Int) (k : Nat) : Int := l.getD k 0
theorem rds_int {w : World} {ao : Option Addr} {n cap : Nat} {l : List Int} (h : RdS w ao n cap 1 (l.map (Value.int .i64))) (hl : l.length = n) {k : Nat} (hk : k < n) :
    ∃ b off, ao = some ⟨b, off, none⟩ ∧ b < w.heap.size ∧ ∀ w', Below w.heap.size w w' → w'.cell? ⟨b, off + k, none⟩ = some (.int .i64 (nthZ l k)) := by
  have hk2 : k < l.length := by omega
  obtain ⟨b, off, e, hb, h0⟩ := h.at_ k (.int .i64 (nthZ l k)) (by rw [List.getElem?_map, List.getElem?_eq_getElem hk2]; simp [nthZ, hk2])
  exact ⟨b, off, e, hb, fun w' hbl => (hbl.cell (p := ⟨b, off + k, none⟩) hb).trans h0⟩

set_option maxHeartbeats 1000000 in
theorem sameZ_any (a0 a1 : Option Addr) (n c0 c1 : Nat) (l : List Int) (w : World) (h0 : RdS w a0 n c0 1 (l.map (Value.int .i64))) (h1 : RdS w a1 n c1 1 (l.map (Value.int .i64))) (hl : l.length = n) :
    Calls Tryz.prog 59 #[.slice a0 n c0, .slice a1 n c1, .func (.func 60) #[] #[]] w fun e w' => e = .returned (.bool true) ∧ Below w.heap.size w w' := by
  have s0 := h0.small
  have hb : ((n : Int) != (n : Int)) = false := by simp
  have HL := Lib.hid hl
  clear hl
  go_enter Tryz.func59, Tryz.ntmps59
  go_wp2
  go_loopw [7] (fun i wr => ∃ k : Nat, k ≤ n ∧ i = .int .i64 k ∧ Below w.heap.size w wr) (fun i _ => n - (intOf i).toNat)
  case atStart => exact ⟨0, Nat.zero_le _, rfl, Below.refl _ _⟩
  case round =>
    obtain ⟨k, hk, rfl, hbr⟩ := hrel
    by_cases hl : k < n
    · obtain ⟨b0, o0, rfl, hlt0, hc0⟩ := rds_int h0 HL.out hl
      obtain ⟨b1, o1, rfl, hlt1, hc1⟩ := rds_int h1 HL.out hl
      have i1 : (k : Int) < (n : Int) := by omega
      have HC0 := Lib.hid hc0
      have HC1 := Lib.hid hc1
      clear hc0 hc1
      have Td := hbr.drew
      go_wp2_with fail
      go_region_held3 (fun w' => w'.cell? ⟨b0, o0 + k, none⟩ = some (.int .i64 (nthZ l k)) ∧ w'.cell? ⟨b1, o1 + k, none⟩ = some (.int .i64 (nthZ l k)))
        (exact ⟨HC0.out _ Td, HC1.out _ Td⟩)
        (first | (go_at_call 60; refine (plainZ1_any (nthZ l k) _).mono ?_; rintro e w3 ⟨rfl, hb3⟩; replace Td := Td.trans (hb3.mono Td.size)))
      go_wp2
      go_roundw
      case rel => exact ⟨k + 1, by omega, by go_num, Td⟩
      case measure => simp [intOf]; omega
    · have i1 : (n : Int) ≤ (k : Int) := by omega
      go_wp2
      go_ret
      exact ⟨rfl, hbr⟩

set_option maxHeartbeats 400000 in
theorem plainZ_any (a0 a1 : Option Addr) (n c0 c1 : Nat) (l : List Int) (w : World) (h0 : RdS w a0 n c0 1 (l.map (Value.int .i64))) (h1 : RdS w a1 n c1 1 (l.map (Value.int .i64))) (hl : l.length = n) :
    Calls Tryz.prog 25 #[.slice a0 n c0, .slice a1 n c1] w fun e w' => e = .returned (.bool true) ∧ Below w.heap.size w w' := by
  have hs := sameZ_any a0 a1 n c0 c1 l
  go_enter Tryz.func25, Tryz.ntmps25
  go_wp2_with fail
  refine (hs _ h0 h1 hl).mono ?_
  rintro e w1 ⟨rfl, hb⟩
  go_wp2
  go_ret
  exact ⟨rfl, hb⟩
end Go.Proofs.YtfgfjnlkgadkhaaGreat
end
