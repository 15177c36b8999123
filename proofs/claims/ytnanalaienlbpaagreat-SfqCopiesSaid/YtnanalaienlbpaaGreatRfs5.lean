/- The reference's flows: one added. -/
import Derived.Test.YtnanalaienlbpaaGreatRfs5a
import Derived.Deep.RegionLaw
import Derived.Deep.CutBlock
import Derived.Deep.CutRange
namespace Go.Proofs.YtnanalaienlbpaaGreat
set_option linter.unusedVariables false
set_option linter.unusedSimpArgs false
set_option maxRecDepth 20000
open Go.RowKit Go.Proofs.YtnanalaienlbpaaGreatMem Go.Proofs.YtnanalaienlbpaaGreatMapK

set_option maxHeartbeats 2000000 in
theorem addR_any (b : Nat) (t : SfS) (F : Nat → Prop) (id r most : Int) (w : World) (h : RfsAt w b t F) (hn9 : t.fs.length ≤ 1000000) (hr : W64 r) :
    Calls Tryz.prog 21 #[.pointer (some ⟨b, 0, none⟩), .int .i64 id, .int .u64 r, .int .i64 most] w fun e w' => e = .returned (.bool (!(getF t.fs id).isSome)) ∧ RfsPost b (t.addR id r most) F w w' := by
  obtain ⟨l, hl, h⟩ := h
  have hA := at_any b t.v t.most l F id w h
  have H0 := Lib.hid h
  unfold SfS.addR
  by_cases hpos : posR l id < l.length
  · obtain ⟨e, he, hid, hg⟩ := posR_at hpos
    have hA1 : atR l id = posR l id := by unfold atR; rw [if_pos hpos]
    rw [hA1] at hA
    have hgF : getF t.fs id = some e.x := by rw [← hl, getF_pl, hg]; rfl
    rw [hgF]
    have i1 : (0 : Int) ≤ ((posR l id : Nat) : Int) := by omega
    generalize posR l id = k at *
    clear h hpos hA1 he hg
    go_enter Tryz.func21, Tryz.ntmps21
    go_wp2_with fail
    refine hA.mono ?_
    rintro e' w' ⟨rfl, rfl⟩
    go_wp2
    go_ret
    exact ⟨rfl, RfsAt.still ⟨l, hl, H0.out⟩ (Below.refl _ _)⟩
  · have hg := posR_none hpos
    have hA1 : atR l id = -1 := by unfold atR; rw [if_neg hpos]
    rw [hA1] at hA
    have hgF : getF t.fs id = none := by rw [← hl, getF_pl, hg]; rfl
    rw [hgF]
    have hF := h.lt
    obtain ⟨ao, cap, c0, c1, c2, hc, hl63, hnil, hat⟩ := h.cells
    have hbl := h.lt b h.hb
    have HA := Lib.hid hat
    have HL := Lib.hid hl
    have hle : t.fs.length = l.length := by rw [← hl]; simp
    have hkle : insK t.fs id ≤ l.length := by rw [← hle]; exact insK_le _ _
    have HK1 := Lib.hid (fun (k : Nat) (e : FlR) (hk : k < insK t.fs id) (he : l[k]? = some e) => insK_lt (e := e.pl) hk (by rw [← hl]; simp [he]))
    have HK2 := Lib.hid (fun (e : FlR) (he : l[insK t.fs id]? = some e) => insK_at (e := e.pl) (id := id) (fs := t.fs) (by rw [← hl] at he ⊢; simp [he]))
    obtain ⟨n, hn⟩ : ∃ n, l.length = n := ⟨_, rfl⟩
    have hn6 : n ≤ 1000000 := by omega
    rw [hn] at c0 hc hl63 hnil hkle
    have HN := Lib.hid hn
    obtain ⟨K, hK⟩ : ∃ K, insK t.fs id = K := ⟨_, rfl⟩
    rw [hK] at hkle HK1 HK2
    have HKK := Lib.hid hK
    clear h hpos hA1 hg hat hl hle hn hK c1 c2
    go_enter Tryz.func21, Tryz.ntmps21
    go_wp2_with fail
    refine hA.mono ?_
    rintro e' w' ⟨rfl, rfl⟩
    go_upto_block 0 with fail
    go_cut [9] from 15 to 37 (fun v9 wx => v9 = .int .i64 K ∧ wx = w)
    case first =>
      go_wp2_with fail
      go_loopw [9] (fun v9 wr => ∃ k : Nat, k ≤ K ∧ v9 = .int .i64 k ∧ w = wr) (fun v9 _ => n - (intOf v9).toNat)
      case atStart => exact ⟨0, Nat.zero_le _, rfl, rfl⟩
      case round =>
        obtain ⟨k, hk, rfl, rfl⟩ := hrel
        by_cases hkK : k < K
        · obtain ⟨e, he⟩ : ∃ e, l[k]? = some e := ⟨l[k]'(by rw [HN.out]; omega), List.getElem?_eq_getElem _⟩
          obtain ⟨g, rfl, hg, cg, ci, heb⟩ := HA.out k e he
          have i1 : (k : Int) < (n : Int) := by omega
          have i2 : e.id < id := HK1.out k e hkK he
          clear he
          go_wp2
          go_roundw
          case rel => exact ⟨k + 1, by omega, by go_num, by first | rfl | trivial⟩
          case measure => simp [intOf]; omega
        · obtain rfl : k = K := by omega
          by_cases hkn : k < n
          · obtain ⟨e, he⟩ : ∃ e, l[k]? = some e := ⟨l[k]'(by rw [HN.out]; omega), List.getElem?_eq_getElem _⟩
            obtain ⟨g, rfl, hg, cg, ci, heb⟩ := HA.out k e he
            have i1 : (k : Int) < (n : Int) := by omega
            have i2 : id ≤ e.id := HK2.out e he
            have i3 : decide (e.id < id) = false := decide_eq_false (by omega)
            clear he
            go_wp2
            go_meet
            exact ⟨rfl, rfl⟩
          · have i1 : ¬ (k : Int) < (n : Int) := by omega
            go_wp2
            go_meet
            exact ⟨rfl, rfl⟩
    case rest =>
      obtain ⟨rfl, rfl⟩ := hcut
      obtain ⟨ao', cap', h1, h2, h3⟩ := H0.out.row
      have q0 := h1.cell 0
      simp only [List.getElem?_cons_zero] at q0
      have q1 := c0.symm.trans q0
      simp only [Option.some.injEq, Value.slice.injEq] at q1
      obtain ⟨rfl, q2, rfl⟩ := q1
      have hrd := owns_rdS h2 (ptrs_one l)
      have hT1 : ((ptrs l).take K).length = K * 1 := by rw [List.length_take, ptrs_length, HN.out]; omega
      have hT2 : ∀ u ∈ (ptrs l).take K, u.oneCell' = true := fun u hu => ptrs_one l u (List.mem_of_mem_take hu)
      have hT3 : ∀ j u, ((ptrs l).take K)[j]? = some u → ∃ g off, ao = some ⟨g, off, none⟩ ∧ wc.cell? ⟨g, off + j, none⟩ = some u := fun j u hu => by
        have hj : j < K := by
          rcases Nat.lt_or_ge j K with h | h
          · exact h
          · rw [List.getElem?_eq_none (by rw [hT1]; omega)] at hu; cases hu
        rw [List.getElem?_take_of_lt hj] at hu
        obtain ⟨g, off, e1, -, hc⟩ := hrd.at_ j u hu
        exact ⟨g, off, e1, hc⟩
      have hT4 : ao = none → K = 0 ∧ cap = 0 := fun e => by have := hnil e; omega
      have HT1 := Lib.hid hT1
      have HT2 := Lib.hid hT2
      have HT3 := Lib.hid hT3
      have HT4 := Lib.hid hT4
      have HRD := Lib.hid hrd
      have H1 := Lib.hid h1
      have H2 := Lib.hid h2
      have H3 := Lib.hid h3
      clear hT1 hT2 hT3 hT4 hrd h1 h2 h3 q0 q2
      have i1 : (K : Int) ≤ (cap : Int) := by omega
      go_wp2_with ((at_builtin; refine ap_src wc ERf rfl _ _ rfl wc.heap.size _ 0 [] rfl (World.ownsRow_nil _ _ _ _) (Nat.le_refl _) ao K cap ((ptrs l).take K) rfl HT4.out HT1.out HT3.out HT2.out (by omega) ?_; intro v3 w3 hown3 hg3 hb3 hfr3))
      simp only [Nat.zero_add, List.nil_append] at hown3
      obtain ⟨a3, c3, rfl⟩ := owns_slice hown3
      have hbW : Below wc.heap.size wc w3.drew := hb3.drew
      have BW := Lib.hid (H1.out.below hbW)
      have c0 : w3.drew.cell? ⟨b, 0, none⟩ = some (.slice ao n cap) := (hbW.cell (p := ⟨b, 0, none⟩) hbl).trans c0
      have HO3 : Hid (w3.drew.ownsRow wc.heap.size 72 1 (.slice a3 K c3) K ((ptrs l).take K)) := Lib.hid hown3
      have hblW : b < w3.drew.heap.size := Nat.lt_of_lt_of_le hbl hbW.size
      have HBW := Lib.hid hbW
      clear hown3 hbW hg3 hb3 hfr3
      have hD1 : ((ptrs l).drop K).length = (n - K) * 1 := by rw [List.length_drop, ptrs_length, HN.out]; omega
      have hD2 : ∀ u ∈ (ptrs l).drop K, u.oneCell' = true := fun u hu => ptrs_one l u (List.mem_of_mem_drop hu)
      have HD1 := Lib.hid hD1
      have HD2 := Lib.hid hD2
      have HGN := Lib.hid hgF
      clear hD1 hD2 hgF
      by_cases hcK : cap = K
      · have hnK : n - K = 0 := by omega
        have hD3 : ∀ w', Below wc.heap.size wc w' → ∀ j u, ((ptrs l).drop K)[j]? = some u → ∃ g' off, ao = some ⟨g', off, none⟩ ∧ w'.cell? ⟨g', off + j, none⟩ = some u := fun w' hb j u hu => by
          rw [List.eq_nil_of_length_eq_zero (l := (ptrs l).drop K) (by rw [HD1.out, hnK])] at hu; cases hu
        have HD3 := Lib.hid hD3
        have HNK := Lib.hid hnK
        clear hD3 hnK
        go_region_law (first
          | (go_simp; go_at_call 44; refine (refNew_any id r most _).mono ?_; rintro e w7 ⟨c7, rfl, hf7, hb7⟩; have c7b := (hb7.cell (p := ⟨b, 0, none⟩) hblW).trans c0; have hblW7 := Nat.lt_of_lt_of_le hblW hb7.size; have HB7 := Lib.hid hb7; have HF7 := Lib.hid hf7; clear hb7 hf7)
          | (refine step_ap_new0 w7 #[.pointer (some ⟨c7, 0, none⟩)] ERf (by rfl) _ _ (by rfl) wc.heap.size _ K _ (by simp [Act.eval, Act.put]) (owns_below (B := 0) HO3.out HB7.out) (Nat.le_trans HBW.out.size HB7.out.size) 1 (by simp [Act.eval, Act.put]) (by rfl) (by simp [Value.oneCell']) (by omega) ?_; intro v8 w8 hown8 hg8 hb8 hfr8; obtain ⟨a8, c8, rfl⟩ := owns_slice hown8; have c8b := (hb8.cell (p := ⟨b, 0, none⟩) hbl).trans c7b; have HT8 := Lib.hid ((HBW.out.trans (HB7.out.mono HBW.out.size)).trans hb8); have HG8 := Lib.hid hg8; have HB8 := Lib.hid hb8; have HO8 := Lib.hid hown8; have HFR8 := Lib.hid hfr8; clear hg8 hb8 hown8 hfr8)
          | (refine step_ap_src0 w8 ERf (by rfl) _ _ (by rfl) wc.heap.size _ (K + 1) _ (by simp [Act.eval, Act.put]) HO8.out HT8.out.size ao 0 0 ((ptrs l).drop K) (by simp [Act.eval, Act.put] <;> omega) (fun _ => ⟨rfl, rfl⟩) (by rw [HD1.out, HNK.out]) (HD3.out _ HT8.out) HD2.out (by omega) ?_; intro v9 w9 hown9 hg9 hb9 hfr9; obtain ⟨a9, c9, rfl⟩ := owns_slice hown9; have c9b := (hb9.cell (p := ⟨b, 0, none⟩) hbl).trans c8b; have HT9 := Lib.hid (HT8.out.trans hb9); have fz9 := (H1.out.below HT9.out).frozen 0; have HG9 := Lib.hid hg9; have HO9 := Lib.hid hown9; have HFR9 := Lib.hid hfr9; clear hg9 hb9 hown9 hfr9)
          | fail)
        all_goals
          go_wp2
          go_ret
          exact ⟨rfl, add_end H0.out HL.out HGN.out HKK.out HN.out HNK.out hr HBW.out HO3.out HB7.out HF7.out HG8.out HFR8.out HG9.out HFR9.out HO9.out HT9.out⟩
      · have hlt : K < cap := by omega
        obtain ⟨g, rfl⟩ : ∃ g, ao = some ⟨g, 0, none⟩ := by
          rcases H2.out.2 with ⟨hv, _⟩ | ⟨g, _, _, hv, _⟩
          · simp only [Value.slice.injEq] at hv; omega
          · simp only [Value.slice.injEq] at hv; exact ⟨g, hv.1⟩
        have hD3 : ∀ w', Below wc.heap.size wc w' → ∀ j u, ((ptrs l).drop K)[j]? = some u → ∃ g' off, (some (⟨g, K, none⟩ : Addr)) = some ⟨g', off, none⟩ ∧ w'.cell? ⟨g', off + j, none⟩ = some u := fun w' hb j u hu => by
          rw [List.getElem?_drop] at hu
          obtain ⟨g', off, e1, -, hc⟩ := (HRD.out.below hb).at_ (K + j) u hu
          simp only [Option.some.injEq, Addr.mk.injEq, and_true] at e1
          obtain ⟨rfl, rfl⟩ := e1
          exact ⟨g, K, rfl, by rw [Nat.zero_add] at hc; exact hc⟩
        have HD3 := Lib.hid hD3
        clear hD3
        go_region_law (first
          | (go_simp; go_at_call 44; refine (refNew_any id r most _).mono ?_; rintro e w7 ⟨c7, rfl, hf7, hb7⟩; have c7b := (hb7.cell (p := ⟨b, 0, none⟩) hblW).trans c0; have hblW7 := Nat.lt_of_lt_of_le hblW hb7.size; have HB7 := Lib.hid hb7; have HF7 := Lib.hid hf7; clear hb7 hf7)
          | (refine step_ap_new0 w7 #[.pointer (some ⟨c7, 0, none⟩)] ERf (by rfl) _ _ (by rfl) wc.heap.size _ K _ (by simp [Act.eval, Act.put]) (owns_below (B := 0) HO3.out HB7.out) (Nat.le_trans HBW.out.size HB7.out.size) 1 (by simp [Act.eval, Act.put]) (by rfl) (by simp [Value.oneCell']) (by omega) ?_; intro v8 w8 hown8 hg8 hb8 hfr8; obtain ⟨a8, c8, rfl⟩ := owns_slice hown8; have c8b := (hb8.cell (p := ⟨b, 0, none⟩) hbl).trans c7b; have HT8 := Lib.hid ((HBW.out.trans (HB7.out.mono HBW.out.size)).trans hb8); have HG8 := Lib.hid hg8; have HB8 := Lib.hid hb8; have HO8 := Lib.hid hown8; have HFR8 := Lib.hid hfr8; clear hg8 hb8 hown8 hfr8)
          | (refine step_ap_src0 w8 ERf (by rfl) _ _ (by rfl) wc.heap.size _ (K + 1) _ (by simp [Act.eval, Act.put]) HO8.out HT8.out.size (some ⟨g, K, none⟩) (n - K) (cap - K) ((ptrs l).drop K) (by simp [Act.eval, Act.put]) (fun h => by cases h) HD1.out (HD3.out _ HT8.out) HD2.out (by omega) ?_; intro v9 w9 hown9 hg9 hb9 hfr9; obtain ⟨a9, c9, rfl⟩ := owns_slice hown9; have c9b := (hb9.cell (p := ⟨b, 0, none⟩) hbl).trans c8b; have HT9 := Lib.hid (HT8.out.trans hb9); have fz9 := (H1.out.below HT9.out).frozen 0; have HG9 := Lib.hid hg9; have HO9 := Lib.hid hown9; have HFR9 := Lib.hid hfr9; clear hg9 hb9 hown9 hfr9)
          | fail)
        all_goals
          go_wp2
          go_ret
          exact ⟨rfl, add_end H0.out HL.out HGN.out HKK.out HN.out rfl hr HBW.out HO3.out HB7.out HF7.out HG8.out HFR8.out HG9.out HFR9.out HO9.out HT9.out⟩
end Go.Proofs.YtnanalaienlbpaaGreat
