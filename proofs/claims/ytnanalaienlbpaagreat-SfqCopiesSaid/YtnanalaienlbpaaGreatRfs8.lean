/- The reference's flows: all starts, in order. -/
import Derived.Test.YtnanalaienlbpaaGreatItm2
import Derived.Test.YtnanalaienlbpaaGreatRfs3
namespace Go.Proofs.YtnanalaienlbpaaGreat
set_option linter.unusedVariables false
set_option linter.unusedSimpArgs false
set_option maxRecDepth 20000
open Go.RowKit Go.Proofs.YtnanalaienlbpaaGreatMem Go.Proofs.YtnanalaienlbpaaGreatMapK

theorem insE_sortE (M : List (Int × Int)) (y : Int × Int) : insE (sortE M) y = sortE (M ++ [y]) :=
  List.Perm.eq_of_pairwise (le := fun x z => aheadE z x = false) (fun a b _ _ h1 h2 => (aheadE_total h2 h1)) (insE_sorted y (sortE_pairwise M)) (sortE_pairwise _)
    ((insE_perm _ _).trans (((sortE_perm M).append_right _).trans (sortE_perm _).symm))
theorem entR_take (l : List FlR) {k : Nat} {e : FlR} (h : l[k]? = some e) : entR (l.take (k + 1)) = if e.x.has = true then entR (l.take k) ++ [(e.x.start, e.id)] else entR (l.take k) := by
  rw [List.take_add_one, h]
  exact entR_append _ _
theorem entR_no {l : List FlR} (hr : l.Pairwise fun e e' => e.id < e'.id) {k : Nat} {e : FlR} (h : l[k]? = some e) : ∀ p ∈ sortE (entR (l.take k)), p.2 ≠ e.id := by
  intro p hp
  obtain ⟨e', he', -, rfl⟩ := entR_mem ((sortE_perm _).mem_iff.1 hp)
  obtain ⟨j, hj⟩ := List.getElem?_of_mem he'
  have hjk : j < k := by
    rcases Nat.lt_or_ge j k with h | h
    · exact h
    · rw [List.getElem?_eq_none (by rw [List.length_take]; exact Nat.le_trans (Nat.min_le_left _ _) h)] at hj; cases hj
  rw [List.getElem?_take_of_lt hjk] at hj
  have := rise_lt hr hj h hjk
  show e'.id ≠ e.id
  omega
theorem entR_len (l : List FlR) (k : Nat) : (sortE (entR (l.take k))).length ≤ k := by
  rw [sortE_length]
  unfold entR
  refine Nat.le_trans (entL_le _) ?_
  rw [List.length_map, List.length_take]
  exact Nat.min_le_left _ _

set_option maxHeartbeats 1000000 in
theorem startsR_any (b : Nat) (t : SfS) (F : Nat → Prop) (w : World) (h : RfsAt w b t F) (hn6 : t.fs.length ≤ 1000000) :
    Calls Tryz.prog 35 #[.pointer (some ⟨b, 0, none⟩)] w fun e w' => ∃ v, e = .returned v ∧ w'.ownsRow w.heap.size 39 2 v t.starts.length (entC t.starts) ∧ Below w.heap.size w w' := by
  obtain ⟨l, hl, R⟩ := h
  obtain ⟨ao, cap, c0, c1, c2, hc, hl63, hnil, hat⟩ := R.cells
  have hbl := R.lt b R.hb
  have HA := Lib.hid hat
  have HC2 := Lib.hid (fun (k : Nat) (e : FlR) (he : l[k]? = some e) => R.cells2 he)
  have HR := Lib.hid R.rise
  have hle : t.fs.length = l.length := by rw [← hl]; simp
  have hst : t.starts = sortE (entR l) := by unfold SfS.starts entR; rw [hl]
  rw [hst]
  obtain ⟨n, hn⟩ : ∃ n, l.length = n := ⟨_, rfl⟩
  rw [hn] at hc hl63 hnil c0
  have hn5 : n ≤ 1000000 := by omega
  have HN := Lib.hid hn
  clear hat R c1 c2 hn hle hst hl
  go_enter Tryz.func35, Tryz.ntmps35
  go_upto_region 2 with fail
  have hb1 := below1 w (.cells #[.slice none 0 0] 99)
  have I0 : ItAt w.heap.size (w.alloc (.cells #[.slice none 0 0] 99)) w.heap.size [] :=
    ⟨⟨none, 0, Blk.new w [.slice none 0 0] 99, owns_nil _ _ _ _, fun e => by cases e⟩, Nat.le_refl _⟩
  generalize hW : w.alloc (.cells #[.slice none 0 0] 99) = W at *
  clear hW
  have hbq := hb1.size
  have HW := Lib.hid hb1
  generalize hq : w.heap.size = q at *
  clear hb1
  have HQ := Lib.hid hq
  clear hq
  go_wp2_with fail
  go_loopw [4] (fun v4 wr => ∃ k : Nat, k ≤ n ∧ v4 = .int .i64 k ∧ ItAt q wr q (sortE (entR (l.take k))) ∧ Below q w wr ∧ q ≤ wr.heap.size) (fun v4 _ => n - (intOf v4).toNat)
  case atStart => exact ⟨0, Nat.zero_le _, rfl, by rw [show sortE (entR (l.take 0)) = [] by simp [entR, entL, sortE]]; exact I0, HW.out, hbq⟩
  case round =>
    obtain ⟨k, hk, rfl, It, hbr, hsz⟩ := hrel
    clear I0
    have hrd : ∀ {p : Addr} {u : Value} {w' : World}, Below q w w' → p.block < q → w.cell? p = some u → w'.cell? p = some u := fun {p u w'} hb hp hu => (hb.cell hp).trans hu
    have c0r := hrd hbr hbl c0
    by_cases hkn : k < n
    · obtain ⟨e, he⟩ : ∃ e, l[k]? = some e := ⟨l[k]'(by rw [HN.out]; exact hkn), List.getElem?_eq_getElem _⟩
      obtain ⟨g, rfl, hg, cg, ci, heb⟩ := HA.out k e he
      obtain ⟨a3, k3, d3, d4⟩ := HC2.out k e he
      have i1 : (k : Int) < (n : Int) := by omega
      have HT := Lib.hid (entR_take l he)
      have HNO := Lib.hid (entR_no HR.out he)
      have HLN := Lib.hid (entR_len l k)
      have HIt := Lib.hid It
      have cgr := hrd hbr hg cg
      have d3r := hrd hbr heb d3
      have HS : Hid (∀ w', Below q w w' → (w'.cell? ⟨b, 0, none⟩ = some (.slice (some ⟨g, 0, none⟩) n cap) ∧ w'.cell? ⟨g, k, none⟩ = some (.pointer (some ⟨e.b, 0, none⟩))) ∧ (w'.cell? ⟨e.b, 0, none⟩ = some (.int .i64 e.id) ∧ w'.cell? ⟨e.b, 4, none⟩ = some (.int .u64 e.x.start))) :=
        Lib.hid fun w' hb => ⟨⟨hrd hb hbl c0, hrd hb hg cg⟩, hrd hb heb ci, hrd hb heb d4⟩
      clear he It cg ci d3 d4 c0
      cases hlx : e.x.l with
      | nil =>
        have hh : e.x.has = false := by unfold FlS.has; rw [hlx]; rfl
        rw [hlx] at d3r
        have e1 : entR (l.take (k + 1)) = entR (l.take k) := by rw [HT.out, if_neg (by rw [hh]; simp)]
        have HE := Lib.hid e1
        clear e1 hh hlx hrd
        simp only [List.length_nil] at d3r
        go_wp2
        go_roundw
        case rel => exact ⟨k + 1, by omega, by go_num, by rw [HE.out]; exact HIt.out, hbr, hsz⟩
        case measure => simp [intOf]; omega
      | cons p r =>
        have hh : e.x.has = true := by unfold FlS.has; rw [hlx]; rfl
        obtain ⟨m, hm⟩ : ∃ m, e.x.l.length = m := ⟨_, rfl⟩
        have hm0 : (0 : Int) < (m : Int) := by rw [← hm, hlx]; simp
        rw [hm] at d3r
        have e1 : sortE (entR (l.take (k + 1))) = insE (sortE (entR (l.take k))) (e.x.start, e.id) := by rw [HT.out, if_pos hh, insE_sortE]
        have HE := Lib.hid e1
        clear e1 hh hlx hm
        go_upto_region 6 with fail
        have hP := itPush_any q q (sortE (entR (l.take k))) (e.x.start, e.id) wr.drew (HIt.out.below ((Below.refl _ _).drew)) hsz (Nat.le_trans HLN.out (by omega)) HNO.out
        have S0 := HS.out wr.drew hbr.drew
        clear hrd c0r cgr d3r
        go_region_held3 (fun w' => (w'.cell? ⟨b, 0, none⟩ = some (.slice (some ⟨g, 0, none⟩) n cap) ∧ w'.cell? ⟨g, k, none⟩ = some (.pointer (some ⟨e.b, 0, none⟩))) ∧ (w'.cell? ⟨e.b, 0, none⟩ = some (.int .i64 e.id) ∧ w'.cell? ⟨e.b, 4, none⟩ = some (.int .u64 e.x.start)))
          (first | exact S0 | exact HS.out _ Td)
          (first | (go_at_call 57; refine hP.mono ?_; rintro e' w3 ⟨rfl, It3, hb3⟩; have Td := hbr.drew.trans hb3))
        have hsz3 := hb3.size
        go_wp2
        go_roundw
        case rel => exact ⟨k + 1, by omega, by go_num, by rw [HE.out]; exact It3, Td, Nat.le_trans hsz hsz3⟩
        case measure => simp [intOf]; omega
    · obtain rfl : k = n := by omega
      have hT : l.take k = l := List.take_of_length_le (by rw [HN.out]; exact Nat.le_refl _)
      rw [hT] at It
      obtain ⟨ao', cap', B1, R1, -⟩ := It.row
      have x0 := B1.cell 0
      simp only [List.getElem?_cons_zero] at x0
      have hlt1 := B1.lt
      clear hT hrd It B1
      go_wp2
      go_ret
      exact ⟨_, rfl, by rw [HQ.out]; exact R1, by rw [HQ.out]; exact hbr⟩
end Go.Proofs.YtnanalaienlbpaaGreat
