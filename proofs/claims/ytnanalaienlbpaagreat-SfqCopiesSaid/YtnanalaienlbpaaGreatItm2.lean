/- The reference's lists of items: one laid in, in order (Push). -/
import Derived.Test.YtnanalaienlbpaaGreatItm
namespace Go.Proofs.YtnanalaienlbpaaGreat
set_option linter.unusedVariables false
set_option linter.unusedSimpArgs false
set_option maxRecDepth 20000
open Go.RowKit Go.Proofs.YtnanalaienlbpaaGreatMem Go.Proofs.YtnanalaienlbpaaGreatMapK

set_option maxHeartbeats 2000000 in
theorem itPush_any (base c : Nat) (L : List (Int × Int)) (y : Int × Int) (w : World) (h : ItAt base w c L) (hbs : base ≤ w.heap.size) (hL6 : L.length ≤ 1000000) (hno : ∀ e ∈ L, e.2 ≠ y.2) :
    Calls Tryz.prog 57 #[.pointer (some ⟨c, 0, none⟩), .agg #[.int .u64 y.1, .int .i64 y.2]] w fun e w' => e = .returned (.bool true) ∧ ItAt base w' c (insE L y) ∧ Below base w w' := by
  have hb1 := below1 w (.cells #[.int .u64 y.1, .int .i64 y.2] 39)
  have Y := Blk.new w [.int .u64 y.1, .int .i64 y.2] 39
  have h1 := h.below hb1
  have hsz1 := hb1.size
  have hB1 := Lib.hid (hb1.mono hbs)
  clear h hb1
  go_enter Tryz.func57, Tryz.ntmps57
  go_upto_region 1 with fail
  generalize hW : w.alloc (.cells #[.int .u64 y.1, .int .i64 y.2] 39) = W at *
  clear hW
  generalize hq : w.heap.size = q at *
  have hbW : base ≤ W.heap.size := Nat.le_trans hbs hsz1
  clear hsz1 hq
  have y0 := Y.cell 0
  have y1 := Y.cell 1
  simp only [List.getElem?_cons_succ, List.getElem?_cons_zero] at y0 y1
  have hyl := Y.lt
  have HY := Lib.hid Y
  clear Y
  go_wp2_with fail
  refine (itAt_any base c L y.2 W h1 hno).mono ?_
  rintro e w' ⟨rfl, rfl⟩
  obtain ⟨ao, cap, B1, R1, N1⟩ := h1.row
  have c0 := B1.cell 0
  simp only [List.getElem?_cons_zero] at c0
  have hrd := owns_rdS R1 (entC_one L)
  have hlt := B1.lt
  have hl63 := hrd.small
  have hnil := hrd.nil
  have hcap := hrd.le
  have hkle := insKE_le L y
  have HK1 := Lib.hid (fun (k : Nat) (hk : k < insKE L y) => insKE_lt hk)
  have HK2 := Lib.hid (insKE_at (L := L) (y := y))
  have HI := Lib.hid h1
  have HRD := Lib.hid hrd
  have HB1 := Lib.hid B1
  have HR1 := Lib.hid R1
  obtain ⟨n, hn⟩ : ∃ n, L.length = n := ⟨_, rfl⟩
  rw [hn] at c0 hrd hl63 hnil hcap hkle hL6 HK2 HRD HR1
  have HN := Lib.hid hn
  obtain ⟨K, hK⟩ : ∃ K, insKE L y = K := ⟨_, rfl⟩
  rw [hK] at hkle HK1 HK2
  have HKK := Lib.hid hK
  clear h1 B1 R1 N1 hno hn hK
  have y0' := y0
  go_upto_block 0 with fail
  go_cut [5] from 12 to 31 (fun v5 wx => v5 = .int .i64 K ∧ Below W.heap.size W wx)
  case first =>
    go_wp2_with fail
    go_loopw [5] (fun v5 wr => ∃ k : Nat, k ≤ K ∧ v5 = .int .i64 k ∧ Below W.heap.size W wr) (fun v5 _ => n - (intOf v5).toNat)
    case atStart => exact ⟨0, Nat.zero_le _, rfl, Below.refl _ _⟩
    case round =>
      obtain ⟨k, hk, rfl, hbr⟩ := hrel
      by_cases hkn : k < n
      · obtain ⟨b0, o0, rfl, hlt0, hc0⟩ := rds_ent hrd HN.out hkn
        have i1 : (k : Int) < (n : Int) := by omega
        have HC0 := Lib.hid hc0
        have hS : ∀ w', Below W.heap.size W w' → (w'.cell? ⟨c, 0, none⟩ = some (.slice (some ⟨b0, o0, none⟩) n cap) ∧ w'.cell? ⟨q, 0, none⟩ = some (.int .u64 y.1) ∧ w'.cell? ⟨q, 1, none⟩ = some (.int .i64 y.2)) ∧ (w'.cell? ⟨b0, o0 + k * 2, none⟩ = some (.int .u64 (nthE L k).1) ∧ w'.cell? ⟨b0, o0 + k * 2 + 1, none⟩ = some (.int .i64 (nthE L k).2)) :=
          fun w' hb => ⟨⟨(hb.cell (p := ⟨c, 0, none⟩) hlt).trans c0, (hb.cell (p := ⟨q, 0, none⟩) hyl).trans y0, (hb.cell (p := ⟨q, 1, none⟩) hyl).trans y1⟩, HC0.out w' hb⟩
        have HS := Lib.hid hS
        have Td := hbr.drew
        have hA := ahead1_any (nthE L k) y
        have HK2' := HK2
        by_cases hkK : k < K
        · have ha : aheadE (nthE L k) y = true := HK1.out k hkK
          rw [ha] at hA
          clear hc0 hS y0 y1 y0' c0 hrd ha
          go_wp2_with fail
          go_region_held3 (fun w' => (w'.cell? ⟨c, 0, none⟩ = some (.slice (some ⟨b0, o0, none⟩) n cap) ∧ w'.cell? ⟨q, 0, none⟩ = some (.int .u64 y.1) ∧ w'.cell? ⟨q, 1, none⟩ = some (.int .i64 y.2)) ∧ (w'.cell? ⟨b0, o0 + k * 2, none⟩ = some (.int .u64 (nthE L k).1) ∧ w'.cell? ⟨b0, o0 + k * 2 + 1, none⟩ = some (.int .i64 (nthE L k).2)))
            (exact HS.out _ Td)
            (first | (go_at_call 79; refine (hA _).mono ?_; rintro e w3 ⟨rfl, hb3⟩; replace Td := Td.trans (hb3.mono Td.size)))
          go_wp2
          go_roundw
          case rel => exact ⟨k + 1, by omega, by go_num, Td⟩
          case measure => simp [intOf]; omega
        · obtain rfl : k = K := by omega
          have ha : aheadE (nthE L k) y = false := HK2.out hkn
          rw [ha] at hA
          clear hc0 hS y0 y1 y0' c0 hrd ha
          go_wp2_with fail
          go_region_held3 (fun w' => (w'.cell? ⟨c, 0, none⟩ = some (.slice (some ⟨b0, o0, none⟩) n cap) ∧ w'.cell? ⟨q, 0, none⟩ = some (.int .u64 y.1) ∧ w'.cell? ⟨q, 1, none⟩ = some (.int .i64 y.2)) ∧ (w'.cell? ⟨b0, o0 + k * 2, none⟩ = some (.int .u64 (nthE L k).1) ∧ w'.cell? ⟨b0, o0 + k * 2 + 1, none⟩ = some (.int .i64 (nthE L k).2)))
            (exact HS.out _ Td)
            (first | (go_at_call 79; refine (hA _).mono ?_; rintro e w3 ⟨rfl, hb3⟩; replace Td := Td.trans (hb3.mono Td.size)))
          go_wp2
          go_meet
          exact ⟨rfl, Td⟩
      · obtain rfl : k = n := by omega
        obtain rfl : K = k := by omega
        have i1 : ¬ (K : Int) < (K : Int) := by omega
        have c0 := (hbr.cell (p := ⟨c, 0, none⟩) hlt).trans c0
        clear y0 y1 y0' hrd
        go_wp2_with fail
        go_region
        go_wp2
        go_meet
        exact ⟨rfl, hbr.drew⟩
  case rest =>
    obtain ⟨rfl, hbc⟩ := hcut
    have HIc := Lib.hid (HI.out.below hbc)
    have c0 := (hbc.cell (p := ⟨c, 0, none⟩) hlt).trans c0
    have y0 := (hbc.cell (p := ⟨q, 0, none⟩) hyl).trans y0
    have y1 := (hbc.cell (p := ⟨q, 1, none⟩) hyl).trans y1
    have hyl := Nat.lt_of_lt_of_le hyl hbc.size
    have hltc := Nat.lt_of_lt_of_le hlt hbc.size
    have hbsc := Nat.le_trans hbW hbc.size
    have HBC := Lib.hid (hB1.out.trans (hbc.mono hbW))
    have hrd := HRD.out.below hbc
    have hR2 := owns_below (B := 0) HR1.out hbc
    have FZ := Lib.hid (HB1.out.below hbc)
    clear hbc y0' HI HK1 HK2 HRD HY
    have hsp : entC L = entC (L.take K) ++ entC (L.drop K) := by rw [← entC_append, List.take_append_drop]
    have hT1 : (entC (L.take K)).length = K * 2 := by rw [entC_length, List.length_take, HN.out]; omega
    have hT3 : ∀ j u, (entC (L.take K))[j]? = some u → ∃ g off, ao = some ⟨g, off, none⟩ ∧ wc.cell? ⟨g, off + j, none⟩ = some u := fun j u hu => by
      have hj : j < (entC (L.take K)).length := by
        rcases Nat.lt_or_ge j (entC (L.take K)).length with h | h
        · exact h
        · rw [List.getElem?_eq_none h] at hu; cases hu
      obtain ⟨g, off, e1, -, hc⟩ := hrd.at_ j u (by rw [hsp, List.getElem?_append_left hj]; exact hu)
      exact ⟨g, off, e1, hc⟩
    have hT4 : ao = none → K = 0 ∧ cap = 0 := fun e => by have := hnil e; omega
    have HT1 := Lib.hid hT1
    have HT3 := Lib.hid hT3
    have HT4 := Lib.hid hT4
    have HRD := Lib.hid hrd
    have HR2 := Lib.hid hR2
    have HSP := Lib.hid hsp
    clear hT1 hT3 hT4 hrd hR2 hsp HR1 HB1
    have i1 : (K : Int) ≤ (cap : Int) := by omega
    go_wp2_with ((at_builtin; refine ap_src wc EI rfl _ _ rfl wc.heap.size _ 0 [] rfl (World.ownsRow_nil _ _ _ _) (Nat.le_refl _) ao K cap (entC (L.take K)) rfl HT4.out HT1.out HT3.out (entC_one _) (by omega) ?_; intro v3 w3 hown3 hg3 hb3 hfr3))
    simp only [Nat.zero_add, List.nil_append] at hown3
    obtain ⟨a3, c3, rfl⟩ := owns_slice hown3
    have hbW3 : Below wc.heap.size wc w3 := hb3
    have c0 : w3.cell? ⟨c, 0, none⟩ = some (.slice ao n cap) := (hbW3.cell (p := ⟨c, 0, none⟩) hltc).trans c0
    have y0 : w3.cell? ⟨q, 0, none⟩ = some (.int .u64 y.1) := (hbW3.cell (p := ⟨q, 0, none⟩) hyl).trans y0
    have y1 : w3.cell? ⟨q, 1, none⟩ = some (.int .i64 y.2) := (hbW3.cell (p := ⟨q, 1, none⟩) hyl).trans y1
    have HO3 : Hid (w3.ownsRow wc.heap.size 39 2 (.slice a3 K c3) K (entC (L.take K))) := Lib.hid hown3
    have HBW := Lib.hid hbW3
    have hltw := Nat.lt_of_lt_of_le hltc hbW3.size
    have hylw := Nat.lt_of_lt_of_le hyl hbW3.size
    clear hown3 hbW3 hg3 hb3 hfr3
    have hD1 : (entC (L.drop K)).length = (n - K) * 2 := by rw [entC_length, List.length_drop, HN.out]
    have HD1 := Lib.hid hD1
    clear hD1
    have hlen : (insE L y).length = K + 1 + (n - K) := by rw [insE_length, HN.out]; omega
    have hent : entC (insE L y) = entC (L.take K) ++ #[Value.int .u64 y.1, .int .i64 y.2].toList ++ entC (L.drop K) := by
      unfold insE; rw [HKK.out, entC_append, List.append_assoc]; rfl
    have HLE := Lib.hid hlen
    have HEN := Lib.hid hent
    clear hlen hent
    by_cases hcK : cap = K
    · have hnK : n - K = 0 := by omega
      have hD3 : ∀ w', Below wc.heap.size wc w' → ∀ j u, (entC (L.drop K))[j]? = some u → ∃ g' off, ao = some ⟨g', off, none⟩ ∧ w'.cell? ⟨g', off + j, none⟩ = some u := fun w' hb j u hu => by
        rw [List.eq_nil_of_length_eq_zero (l := entC (L.drop K)) (by rw [HD1.out, hnK])] at hu; cases hu
      have HD3 := Lib.hid hD3
      have HNK := Lib.hid hnK
      clear hD3 hnK
      go_region_law (first
        | (refine step_ap_new w3 #[.int .u64 y.1, .int .i64 y.2] EI (by rfl) _ _ (by rfl) wc.heap.size _ K _ (by simp [Act.eval, Act.put]) HO3.out HBW.out.size 1 (by simp [Act.eval, Act.put]) (by rfl) (one2 _ _) (by omega) ?_; intro v8 w8 hown8 hg8 hb8 hfr8; obtain ⟨a8, c8, rfl⟩ := owns_slice hown8; have c8b := (hb8.cell (p := ⟨c, 0, none⟩) hltc).trans c0; have HT8 := Lib.hid (HBW.out.trans hb8); have HO8 := Lib.hid hown8; clear hg8 hb8 hown8 hfr8)
        | (refine step_ap_src0 w8 EI (by rfl) _ _ (by rfl) wc.heap.size _ (K + 1) _ (by simp [Act.eval, Act.put]) HO8.out HT8.out.size ao 0 0 (entC (L.drop K)) (by simp [Act.eval, Act.put] <;> omega) (fun _ => ⟨rfl, rfl⟩) (by rw [HD1.out, HNK.out]) (HD3.out _ HT8.out) (entC_one _) (by omega) ?_; intro v9 w9 hown9 hg9 hb9 hfr9; obtain ⟨a9, c9, rfl⟩ := owns_slice hown9; have c9b := (hb9.cell (p := ⟨c, 0, none⟩) hltc).trans c8b; have HT9 := Lib.hid (HT8.out.trans hb9); have fz9 := (FZ.out.below HT9.out).frozen 0; have HO9 := Lib.hid hown9; clear hg9 hb9 hown9 hfr9)
        | fail)
      all_goals
        go_wp2
        go_ret
        have hh := it_end (N := K + 1 + 0) HIc.out hbsc HT9.out (by rw [HEN.out]; exact HO9.out) (by rw [HLE.out, HNK.out])
        exact ⟨rfl, hh.1, HBC.out.trans hh.2⟩
    · have hlt2 : K < cap := by omega
      obtain ⟨g, rfl⟩ : ∃ g, ao = some ⟨g, 0, none⟩ := by
        rcases HR2.out.2 with ⟨hv, _⟩ | ⟨g, _, _, hv, _⟩
        · simp only [Value.slice.injEq] at hv; omega
        · simp only [Value.slice.injEq] at hv; exact ⟨g, hv.1⟩
      have hD3 : ∀ w', Below wc.heap.size wc w' → ∀ j u, (entC (L.drop K))[j]? = some u → ∃ g' off, (some (⟨g, K * 2, none⟩ : Addr)) = some ⟨g', off, none⟩ ∧ w'.cell? ⟨g', off + j, none⟩ = some u := fun w' hb j u hu => by
        obtain ⟨g', off, e1, -, hc⟩ := (HRD.out.below hb).at_ (K * 2 + j) u (by rw [HSP.out, List.getElem?_append_right (by rw [HT1.out]; omega), HT1.out]; rw [show K * 2 + j - K * 2 = j by omega]; exact hu)
        simp only [Option.some.injEq, Addr.mk.injEq, and_true] at e1
        obtain ⟨rfl, rfl⟩ := e1
        exact ⟨g, K * 2, rfl, by rw [Nat.zero_add] at hc; exact hc⟩
      have HD3 := Lib.hid hD3
      clear hD3
      go_region_law (first
        | (refine step_ap_new w3 #[.int .u64 y.1, .int .i64 y.2] EI (by rfl) _ _ (by rfl) wc.heap.size _ K _ (by simp [Act.eval, Act.put]) HO3.out HBW.out.size 1 (by simp [Act.eval, Act.put]) (by rfl) (one2 _ _) (by omega) ?_; intro v8 w8 hown8 hg8 hb8 hfr8; obtain ⟨a8, c8, rfl⟩ := owns_slice hown8; have c8b := (hb8.cell (p := ⟨c, 0, none⟩) hltc).trans c0; have HT8 := Lib.hid (HBW.out.trans hb8); have HO8 := Lib.hid hown8; clear hg8 hb8 hown8 hfr8)
        | (refine step_ap_src0 w8 EI (by rfl) _ _ (by rfl) wc.heap.size _ (K + 1) _ (by simp [Act.eval, Act.put]) HO8.out HT8.out.size (some ⟨g, K * 2, none⟩) (n - K) (cap - K) (entC (L.drop K)) (by simp [Act.eval, Act.put]) (fun h => by cases h) HD1.out (HD3.out _ HT8.out) (entC_one _) (by omega) ?_; intro v9 w9 hown9 hg9 hb9 hfr9; obtain ⟨a9, c9, rfl⟩ := owns_slice hown9; have c9b := (hb9.cell (p := ⟨c, 0, none⟩) hltc).trans c8b; have HT9 := Lib.hid (HT8.out.trans hb9); have fz9 := (FZ.out.below HT9.out).frozen 0; have HO9 := Lib.hid hown9; clear hg9 hb9 hown9 hfr9)
        | fail)
      all_goals
        go_wp2
        go_ret
        have hh := it_end (N := K + 1 + (n - K)) HIc.out hbsc HT9.out (by rw [HEN.out]; exact HO9.out) HLE.out
        exact ⟨rfl, hh.1, HBC.out.trans hh.2⟩
end Go.Proofs.YtnanalaienlbpaaGreat
