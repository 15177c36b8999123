/- The reference's lists of items (ref01's Items): one laid in, in order. -/
import Derived.Test.YtnanalaienlbpaaGreatRfs7
import Derived.Deep.RegionLaw
import Derived.Deep.CutBlock
import Derived.Deep.CutRange
namespace Go.Proofs.YtnanalaienlbpaaGreat
set_option linter.unusedVariables false
set_option linter.unusedSimpArgs false
set_option maxRecDepth 20000
open Go.RowKit Go.Proofs.YtnanalaienlbpaaGreatMem Go.Proofs.YtnanalaienlbpaaGreatMapK

def insKE : List (Int × Int) → Int × Int → Nat
  | [], _ => 0
  | e :: l, y => if aheadE e y = true then insKE l y + 1 else 0
def insE (L : List (Int × Int)) (y : Int × Int) : List (Int × Int) := L.take (insKE L y) ++ y :: L.drop (insKE L y)
theorem insKE_le (L : List (Int × Int)) (y : Int × Int) : insKE L y ≤ L.length := by
  induction L with
  | nil => exact Nat.le_refl _
  | cons e l ih => unfold insKE; split <;> simp <;> omega
theorem insKE_lt {L : List (Int × Int)} {y : Int × Int} {k : Nat} (h : k < insKE L y) : aheadE (nthE L k) y = true := by
  induction L generalizing k with
  | nil => simp [insKE] at h
  | cons e l ih =>
    unfold insKE at h
    by_cases he : aheadE e y = true
    · rw [if_pos he] at h
      cases k with
      | zero => exact he
      | succ k => exact ih (k := k) (by omega)
    · rw [if_neg he] at h; omega
theorem insKE_at {L : List (Int × Int)} {y : Int × Int} (h : insKE L y < L.length) : aheadE (nthE L (insKE L y)) y = false := by
  induction L with
  | nil => simp at h
  | cons e l ih =>
    by_cases he : aheadE e y = true
    · have hk : insKE (e :: l) y = insKE l y + 1 := by show (if _ then _ else _) = _; rw [if_pos he]
      rw [hk] at h ⊢
      exact ih (by simpa using h)
    · have hk : insKE (e :: l) y = 0 := by show (if _ then _ else _) = _; rw [if_neg he]
      rw [hk]
      show aheadE e y = false
      simpa using he
theorem insE_perm (L : List (Int × Int)) (y : Int × Int) : (insE L y).Perm (L ++ [y]) := by
  unfold insE
  refine List.perm_middle.trans ?_
  rw [List.take_append_drop]
  exact (List.perm_append_singleton y L).symm
theorem insE_length (L : List (Int × Int)) (y : Int × Int) : (insE L y).length = L.length + 1 := by rw [(insE_perm L y).length_eq]; simp
theorem insE_sorted {L : List (Int × Int)} (y : Int × Int) (h : L.Pairwise fun a c => aheadE c a = false) : (insE L y).Pairwise fun a c => aheadE c a = false := by
  refine pairwise_ins _ h (fun e he => ?_) (fun e he => ?_)
  · obtain ⟨j, hj⟩ := List.getElem?_of_mem he
    have hjK : j < insKE L y := by
      rcases Nat.lt_or_ge j (insKE L y) with h | h
      · exact h
      · rw [List.getElem?_eq_none (by rw [List.length_take]; exact Nat.le_trans (Nat.min_le_left _ _) h)] at hj; cases hj
    rw [List.getElem?_take_of_lt hjK] at hj
    have h1 := insKE_lt hjK
    have h2 : nthE L j = e := by unfold nthE; rw [List.getD_eq_getElem?_getD, hj]; rfl
    rw [h2] at h1
    exact aheadE_asymm h1
  · obtain ⟨j, hj⟩ := List.getElem?_of_mem he
    rw [List.getElem?_drop] at hj
    have hlt : insKE L y + j < L.length := by
      rcases Nat.lt_or_ge (insKE L y + j) L.length with h | h
      · exact h
      · rw [List.getElem?_eq_none h] at hj; cases hj
    have hK := insKE_at (L := L) (y := y) (by omega)
    have hKl : insKE L y < L.length := by omega
    have e1 : nthE L (insKE L y) = L[insKE L y] := by unfold nthE; rw [List.getD_eq_getElem?_getD, List.getElem?_eq_getElem hKl]; rfl
    rw [List.getElem?_eq_getElem hlt] at hj
    cases hj
    rw [e1] at hK
    rcases Nat.eq_zero_or_pos j with rfl | hj0
    · exact hK
    · exact aheadE_negtrans' hK (List.pairwise_iff_getElem.1 h (insKE L y) (insKE L y + j) hKl hlt (by omega))

structure ItAt (base : Nat) (w : World) (c : Nat) (L : List (Int × Int)) : Prop where
  row : ∃ ao cap, Blk w c [.slice ao L.length cap] 99 ∧ w.ownsRow base 39 2 (.slice ao L.length cap) L.length (entC L) ∧ (Value.slice ao L.length cap).ownBlock ≠ some c
  ge : base ≤ c
theorem ItAt.below {base : Nat} {w w' : World} {c : Nat} {L : List (Int × Int)} (h : ItAt base w c L) (hb : Below w.heap.size w w') : ItAt base w' c L := by
  obtain ⟨ao, cap, h1, h2, h3⟩ := h.row
  exact ⟨⟨ao, cap, h1.below hb, owns_below (B := 0) h2 hb, h3⟩, h.ge⟩
theorem it_end {base : Nat} {W w9 : World} {c N c9 : Nat} {a9 : Option Addr} {L L' : List (Int × Int)} (h : ItAt base W c L) (hbs : base ≤ W.heap.size) (hb9 : Below W.heap.size W w9)
    (hown : w9.ownsRow W.heap.size 39 2 (.slice a9 N c9) N (entC L')) (hN : L'.length = N) : ItAt base (w9.setCell ⟨c, 0, none⟩ (.slice a9 N c9)) c L' ∧ Below base W (w9.setCell ⟨c, 0, none⟩ (.slice a9 N c9)) := by
  obtain ⟨ao, cap, h1, h2, h3⟩ := h.row
  have hlt := h1.lt
  have hne : ∀ k, (Value.slice a9 N c9).ownBlock = some k → k ≠ c := fun k hk e => by have := (hown.lt k hk).1; omega
  have hS : Fr (fun k => k = c) w9 (w9.setCell ⟨c, 0, none⟩ (.slice a9 N c9)) := Fr.setCell (S := fun k => k = c) (a := ⟨c, 0, none⟩) (Fr.refl _ _) (.inl rfl) _
  subst hN
  refine ⟨⟨⟨a9, c9, by simpa using (h1.below hb9).set 0 (.slice a9 L'.length c9), owns_base (owns_fr hown hS fun k hk => hne k hk) hbs, fun e => hne c e rfl⟩, h.ge⟩, ?_⟩
  exact (hb9.mono hbs).setCell h.ge _

set_option maxHeartbeats 1000000 in
theorem itAt_any (base c : Nat) (L : List (Int × Int)) (id : Int) (w : World) (h : ItAt base w c L) (hno : ∀ e ∈ L, e.2 ≠ id) :
    Calls Tryz.prog 78 #[.pointer (some ⟨c, 0, none⟩), .int .i64 id] w fun e w' => e = .returned (.int .i64 (-1)) ∧ w = w' := by
  obtain ⟨ao, cap, h1, h2, h3⟩ := h.row
  have c0 := h1.cell 0
  simp only [List.getElem?_cons_zero] at c0
  have hrd := owns_rdS h2 (entC_one L)
  have hlt := h1.lt
  have hl63 := hrd.small
  have hnil := hrd.nil
  have hcap := hrd.le
  have HNO := Lib.hid hno
  obtain ⟨n, hn⟩ : ∃ n, L.length = n := ⟨_, rfl⟩
  rw [hn] at c0 hrd hl63 hnil hcap
  have HN := Lib.hid hn
  clear h h1 h2 h3 hno hn
  go_enter Tryz.func78, Tryz.ntmps78
  go_wp2_with fail
  go_loopw [5] (fun v5 wr => ∃ k : Nat, k ≤ n ∧ v5 = .int .i64 k ∧ w = wr) (fun v5 _ => n - (intOf v5).toNat)
  case atStart => exact ⟨0, Nat.zero_le _, rfl, rfl⟩
  case round =>
    obtain ⟨k, hk, rfl, rfl⟩ := hrel
    by_cases hkn : k < n
    · obtain ⟨b0, o0, rfl, hlt0, hc0⟩ := rds_ent hrd HN.out hkn
      obtain ⟨p0, p1⟩ := hc0 _ (Below.refl _ _)
      have i1 : (k : Int) < (n : Int) := by omega
      have hmem : nthE L k ∈ L := by
        have hk2 : k < L.length := by rw [HN.out]; exact hkn
        unfold nthE; rw [List.getD_eq_getElem?_getD, List.getElem?_eq_getElem hk2]; exact List.getElem_mem hk2
      have q : ((nthE L k).2 == id) = false := by simpa using HNO.out _ hmem
      clear hc0 hmem
      go_wp2
      go_roundw
      case rel => exact ⟨k + 1, by omega, by go_num, by first | rfl | trivial⟩
      case measure => simp [intOf]; omega
    · obtain rfl : k = n := by omega
      go_wp2
      go_ret
      exact ⟨rfl, rfl⟩
end Go.Proofs.YtnanalaienlbpaaGreat
