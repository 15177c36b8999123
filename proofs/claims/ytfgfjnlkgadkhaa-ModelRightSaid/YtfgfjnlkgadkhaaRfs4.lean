/- The reference's flows: one packet served, the walk. -/
import Derived.Test.YtfgfjnlkgadkhaaRfs3
namespace Go.Proofs.Ytfgfjnlkgadkhaa
set_option linter.unusedVariables false
set_option linter.unusedSimpArgs false
set_option maxRecDepth 20000
open Go.RowKit Go.Proofs.YtfgfjnlkgadkhaaMem Go.Proofs.YtfgfjnlkgadkhaaMapK

theorem drewN_drewN (w : World) (n m : Nat) : (w.drewN n).drewN m = w.drewN (n + m) := by
  induction m with
  | zero => rfl
  | succ m ih => show ((w.drewN n).drewN m).drew = _; rw [ih]; rfl
theorem RfsAt.serve_eq {l : List FlR} {t : SfS} (hl : l.map FlR.pl = t.fs) : entL t.fs = entR l := by unfold entR; rw [hl]

set_option maxHeartbeats 2000000 in
theorem serveR_any (b : Nat) (t : SfS) (F : Nat → Prop) (w : World) (h : RfsAt w b t F) :
    Calls Try.prog 54 #[.pointer (some ⟨b, 0, none⟩)] w fun e w' => e = .returned (.tuple #[t.head.val, .bool t.has]) ∧ RfsPost b t.serve F w w' := by
  obtain ⟨l, hl, h⟩ := h
  have hF := h.lt
  have hb0 := below1 w (.cells #[.int .i64 0, .int .i64 0, .int .i64 0] 55)
  have h0 := h.below hb0
  have B0 := Blk.new w [.int .i64 0, .int .i64 0, .int .i64 0] 55
  have hbb := h.hb
  generalize hW0 : w.alloc (.cells #[.int .i64 0, .int .i64 0, .int .i64 0] 55) = w0 at *
  obtain ⟨ao, cap, c0, c1, c2, hc, hl63, hnil, hat⟩ := h0.cells
  have hbl := h0.lt b h0.hb
  have HA := Lib.hid hat
  have HL := Lib.hid hl
  have H0 := Lib.hid h0
  have HB := Lib.hid B0
  obtain ⟨n, hn⟩ : ∃ n, l.length = n := ⟨_, rfl⟩
  rw [hn] at c0 hc hl63 hnil
  have HN := Lib.hid hn
  clear hat hl h h0 B0 hn
  go_enter Try.func54, Try.ntmps54
  go_upto_region 1 with fail
  clear hW0
  go_wp2_with fail
  go_loopw [4, 5] (fun v4 v5 wr => ∃ (k : Nat) (B : Int), k ≤ n ∧ v5 = .int .i64 k ∧ v4 = .int .i64 B ∧ BestR l k B ∧ ∃ q, wr = w0.drewN q) (fun _ v5 _ => n - (intOf v5).toNat)
  case atStart => exact ⟨0, -1, Nat.zero_le _, rfl, rfl, BestR.zero l, 0, rfl⟩
  case round =>
    obtain ⟨k, B, hk, rfl, rfl, hB, q, hq⟩ := hrel
    have HQ := Lib.hid hq
    have hbq := below_drewN w0 q
    rw [← hq] at hbq
    have HBQ := Lib.hid hbq
    have c0 := (hbq.cell (p := ⟨b, 0, none⟩) hbl).trans c0
    have c1 := (hbq.cell (p := ⟨b, 1, none⟩) hbl).trans c1
    have c2 := (hbq.cell (p := ⟨b, 2, none⟩) hbl).trans c2
    have hbl := Nat.lt_of_lt_of_le hbl hbq.size
    clear hq hbq
    by_cases hkn : k < n
    · obtain ⟨e, he⟩ : ∃ e, l[k]? = some e := ⟨l[k]'(by rw [HN.out]; exact hkn), List.getElem?_eq_getElem _⟩
      obtain ⟨g, rfl, hg, cg, ci, heb⟩ := HA.out k e he
      obtain ⟨a3, c3', d3, d4⟩ := H0.out.cells2 he
      have cg := (HBQ.out.cell (p := ⟨g, k, none⟩) hg).trans cg
      have d3 := (HBQ.out.cell (p := ⟨e.b, 3, none⟩) heb).trans d3
      have d4 := (HBQ.out.cell (p := ⟨e.b, 4, none⟩) heb).trans d4
      have i1 : (k : Int) < (n : Int) := by omega
      have HE := Lib.hid he
      have HBR := Lib.hid hB
      clear he hB ci
      cases hh : e.x.has with
      | false =>
        have hl0 : e.x.l.length = 0 := by
          unfold FlS.has at hh
          simp only [Bool.not_eq_false', List.isEmpty_iff] at hh
          rw [hh]; rfl
        rw [hl0] at d3
        have HH := Lib.hid hh
        clear hh hl0
        go_wp2_with fail
        go_quiet (fail)
        go_wp2
        go_roundw
        case rel => exact ⟨k + 1, B, by omega, by go_num, rfl, HBR.out.no HE.out HH.out, q + nq, by rw [HQ.out]; exact drewN_drewN _ _ _⟩
        case measure => simp [intOf]; omega
      | true =>
        have hl0 : 0 < e.x.l.length := by
          unfold FlS.has at hh
          simp only [Bool.not_eq_true', List.isEmpty_eq_false_iff] at hh
          exact List.length_pos_iff.2 hh
        have hd : decide ((0 : Int) < (e.x.l.length : Int)) = true := decide_eq_true (by omega)
        have HH := Lib.hid hh
        clear hh
        by_cases hB0 : B < 0
        · have hd2 : decide (B < 0) = true := decide_eq_true hB0
          go_wp2_with fail
          go_quiet (fail)
          go_wp2
          go_roundw
          case rel => exact ⟨k + 1, k, by omega, by go_num, rfl, HBR.out.first hB0 HE.out HH.out, q + nq, by rw [HQ.out]; exact drewN_drewN _ _ _⟩
          case measure => simp [intOf]; omega
        · obtain ⟨j, ej, rfl, hjk, hj, hjh⟩ := HBR.out.got hB0
          have hd2 : decide ((j : Int) < 0) = false := decide_eq_false hB0
          have j1 : (j : Int) < (n : Int) := by omega
          obtain ⟨g', e', hg', cj, -, hejb⟩ := HA.out j ej hj
          simp only [Option.some.injEq, Addr.mk.injEq, and_true] at e'
          subst e'
          obtain ⟨a5, c5', -, d5⟩ := H0.out.cells2 hj
          have cj := (HBQ.out.cell (p := ⟨g, j, none⟩) hg').trans cj
          have d5 := (HBQ.out.cell (p := ⟨ej.b, 4, none⟩) hejb).trans d5
          have HJ := Lib.hid hj
          clear hj
          by_cases hlt : e.x.start < ej.x.start
          · have hd3 : decide (e.x.start < ej.x.start) = true := decide_eq_true hlt
            go_wp2_with fail
            go_quiet (fail)
            go_wp2
            go_roundw
            case rel => exact ⟨k + 1, k, by omega, by go_num, rfl, HBR.out.less HJ.out HE.out HH.out hlt, q + nq, by rw [HQ.out]; exact drewN_drewN _ _ _⟩
            case measure => simp [intOf]; omega
          · have hd3 : decide (e.x.start < ej.x.start) = false := decide_eq_false hlt
            go_wp2_with fail
            go_quiet (fail)
            go_wp2
            go_roundw
            case rel => exact ⟨k + 1, j, by omega, by go_num, rfl, HBR.out.keep HJ.out HE.out (Int.not_lt.2 hlt), q + nq, by rw [HQ.out]; exact drewN_drewN _ _ _⟩
            case measure => simp [intOf]; omega
    · obtain rfl : k = n := by omega
      have HR := Lib.hid (H0.out.below HBQ.out)
      have BR := Lib.hid (HB.out.below HBQ.out)
      have HBR := Lib.hid hB
      have hbw0 : b ≠ w.heap.size := by have := hF b hbb; omega
      have hbr := Lib.hid (hb0.trans (HBQ.out.mono hb0.size))
      clear hB hnil
      by_cases hB0 : B < 0
      · have hd2 : decide (B < 0) = true := decide_eq_true hB0
        have he : entL t.fs = [] := by rw [RfsAt.serve_eq HL.out]; exact (show BestR l l.length B by rw [HN.out]; exact HBR.out).none_ hB0
        have e1 : t.head = Pk.zero := by unfold SfS.head; rw [if_pos he]
        have e2 : t.has = false := by unfold SfS.has; rw [he]; rfl
        have e3 : t.serve = { t with v := max t.v t.most } := by unfold SfS.serve; rw [if_pos he]
        have E1 := Lib.hid e1
        have E2 := Lib.hid e2
        have E3 := Lib.hid e3
        clear e1 e2 e3 he
        have hcase : (t.v < t.most ∧ max t.v t.most = t.most) ∨ (t.most ≤ t.v ∧ max t.v t.most = t.v) := by omega
        have z1 : wr.frozen? ⟨b, 1, none⟩ = false := by obtain ⟨ao, cap, h1, -⟩ := HR.out.row; exact h1.frozen 1
        rcases hcase with ⟨hv, hm⟩ | ⟨hv, hm⟩
        · have HM := Lib.hid hm
          clear hm
          go_wp2_with fail
          go_region
          obtain ⟨hR2, hF2⟩ := HR.out.setV t.most
          replace hR2 := hR2.below (Below.refl _ _).drew
          replace hF2 := hF2.drew
          have B2 := (BR.out.set_far (a := ⟨b, 1, none⟩) (fun e => hbw0 e.symm) (.int .u64 t.most)).drew
          generalize (wr.setCell ⟨b, 1, none⟩ (.int .u64 t.most)).drew = W2 at *
          have y0 := B2.cell 0
          have y1 := B2.cell 1
          have y2 := B2.cell 2
          have x0 := B2.frozen 0
          have x1 := B2.frozen 1
          have x2 := B2.frozen 2
          simp only [List.getElem?_cons_succ, List.getElem?_cons_zero] at y0 y1 y2
          have HR2 := Lib.hid hR2
          have HF2 := Lib.hid hF2
          clear hR2 hF2 B2 c0 c1 c2 z1
          go_wp2
          refine bodyPost_ret (v := .tuple #[.agg #[.int .i64 0, .int .i64 0, .int .i64 0], .bool false]) (by simp [results, Try.results54, go_sem, y0, y1, y2, x0, x1, x2]) rfl ⟨by rw [E1.out, E2.out]; rfl, ?_⟩
          rw [E3.out, HM.out]
          have hS : Fr (fun k => k = w.heap.size) W2 (((W2.setCell ⟨w.heap.size, 0, none⟩ (.int .i64 0)).setCell ⟨w.heap.size, 1, none⟩ (.int .i64 0)).setCell ⟨w.heap.size, 2, none⟩ (.int .i64 0)) :=
            Fr.setCell (S := fun k => k = w.heap.size) (a := ⟨w.heap.size, 2, none⟩) (Fr.setCell (S := fun k => k = w.heap.size) (a := ⟨w.heap.size, 1, none⟩) (Fr.setCell (S := fun k => k = w.heap.size) (a := ⟨w.heap.size, 0, none⟩) (Fr.refl _ _) (.inl rfl) _) (.inl rfl) _) (.inl rfl) _
          have hT : Fr F w (((W2.setCell ⟨w.heap.size, 0, none⟩ (.int .i64 0)).setCell ⟨w.heap.size, 1, none⟩ (.int .i64 0)).setCell ⟨w.heap.size, 2, none⟩ (.int .i64 0)) :=
            (((Fr.after_below hbr.out HF2.out).setCell (a := ⟨w.heap.size, 0, none⟩) (.inr (Nat.le_refl _)) _).setCell (a := ⟨w.heap.size, 1, none⟩) (.inr (Nat.le_refl _)) _).setCell (a := ⟨w.heap.size, 2, none⟩) (.inr (Nat.le_refl _)) _
          refine ⟨⟨l, HL.out, (HR2.out.fr hS fun k hk e => ?_).mono (fun k hk => .inl hk) (hF.ext hT.size)⟩, hT⟩
          have := hF k hk
          omega
        · have HM := Lib.hid hm
          clear hm
          go_wp2_with fail
          go_region
          obtain ⟨hR2, hF2⟩ := HR.out.setV t.v
          replace hR2 := hR2.below (Below.refl _ _).drew
          replace hF2 := hF2.drew
          have B2 := (BR.out.set_far (a := ⟨b, 1, none⟩) (fun e => hbw0 e.symm) (.int .u64 t.v)).drew
          generalize (wr.setCell ⟨b, 1, none⟩ (.int .u64 t.v)).drew = W2 at *
          have y0 := B2.cell 0
          have y1 := B2.cell 1
          have y2 := B2.cell 2
          have x0 := B2.frozen 0
          have x1 := B2.frozen 1
          have x2 := B2.frozen 2
          simp only [List.getElem?_cons_succ, List.getElem?_cons_zero] at y0 y1 y2
          have HR2 := Lib.hid hR2
          have HF2 := Lib.hid hF2
          clear hR2 hF2 B2 c0 c1 c2 z1
          go_wp2
          refine bodyPost_ret (v := .tuple #[.agg #[.int .i64 0, .int .i64 0, .int .i64 0], .bool false]) (by simp [results, Try.results54, go_sem, y0, y1, y2, x0, x1, x2]) rfl ⟨by rw [E1.out, E2.out]; rfl, ?_⟩
          rw [E3.out, HM.out]
          have hS : Fr (fun k => k = w.heap.size) W2 (((W2.setCell ⟨w.heap.size, 0, none⟩ (.int .i64 0)).setCell ⟨w.heap.size, 1, none⟩ (.int .i64 0)).setCell ⟨w.heap.size, 2, none⟩ (.int .i64 0)) :=
            Fr.setCell (S := fun k => k = w.heap.size) (a := ⟨w.heap.size, 2, none⟩) (Fr.setCell (S := fun k => k = w.heap.size) (a := ⟨w.heap.size, 1, none⟩) (Fr.setCell (S := fun k => k = w.heap.size) (a := ⟨w.heap.size, 0, none⟩) (Fr.refl _ _) (.inl rfl) _) (.inl rfl) _) (.inl rfl) _
          have hT : Fr F w (((W2.setCell ⟨w.heap.size, 0, none⟩ (.int .i64 0)).setCell ⟨w.heap.size, 1, none⟩ (.int .i64 0)).setCell ⟨w.heap.size, 2, none⟩ (.int .i64 0)) :=
            (((Fr.after_below hbr.out HF2.out).setCell (a := ⟨w.heap.size, 0, none⟩) (.inr (Nat.le_refl _)) _).setCell (a := ⟨w.heap.size, 1, none⟩) (.inr (Nat.le_refl _)) _).setCell (a := ⟨w.heap.size, 2, none⟩) (.inr (Nat.le_refl _)) _
          refine ⟨⟨l, HL.out, (HR2.out.fr hS fun k hk e => ?_).mono (fun k hk => .inl hk) (hF.ext hT.size)⟩, hT⟩
          have := hF k hk
          omega
      · obtain ⟨j, ej, rfl, hjk, hj, hjh⟩ := HBR.out.got hB0
        have hd2 : decide ((j : Int) < 0) = false := decide_eq_false hB0
        have hfi : IsFirst (entR l) (ej.x.start, ej.id) := (show BestR l l.length j by rw [HN.out]; exact HBR.out).isFirst HR.out.rise hj
        have hm := List.mem_of_getElem? hj
        have hne : entL t.fs ≠ [] := fun e0 => by rw [RfsAt.serve_eq HL.out] at e0; have := hfi.1; rw [e0] at this; cases this
        have hfirst : t.first = (ej.x.start, ej.id) := by
          unfold SfS.first
          rw [RfsAt.serve_eq HL.out] at hne ⊢
          exact (minK_isFirst hne).unique hfi
        have hget : getF t.fs ej.id = some ej.x := by
          rw [← HL.out, getF_pl]
          cases hg : getR l ej.id with
          | none => exact absurd rfl (getR_none.1 hg ej hm)
          | some e' => obtain ⟨h3, h4⟩ := getR_some hg; rw [HR.out.same h3 hm h4]; rfl
        have e1 : t.head = ej.x.head := by unfold SfS.head; rw [if_neg hne, hfirst]; simp only; rw [hget]
        have e2 : t.has = true := by
          unfold SfS.has
          cases hx : entL t.fs with
          | nil => exact absurd hx hne
          | cons _ _ => rfl
        have e3 : t.serve = ⟨ej.x.start, max t.most ej.x.out, setF t.fs ej.id ej.x.serve⟩ := by unfold SfS.serve; rw [if_neg hne, hfirst]; simp only; rw [hget]
        have E1 := Lib.hid e1
        have E2 := Lib.hid e2
        have E3 := Lib.hid e3
        have hok := HR.out.ok ej hm
        obtain ⟨g, rfl, hg, cg, -, hejb⟩ := HA.out j ej hj
        have cg := (HBQ.out.cell (p := ⟨g, j, none⟩) hg).trans cg
        obtain ⟨a3, c3', -, d4⟩ := H0.out.cells2 hj
        have d4 := (HBQ.out.cell (p := ⟨ej.b, 4, none⟩) hejb).trans d4
        have j1 : (j : Int) < (k : Int) := by omega
        obtain ⟨ao2, cap2, h1, -, h3⟩ := HR.out.row
        have q0 := h1.cell 0
        simp only [List.getElem?_cons_zero] at q0
        have q1 := c0.symm.trans q0
        simp only [Option.some.injEq, Value.slice.injEq] at q1
        have hgb : g ≠ b := (h3 _ q1.1.symm).2.1
        have z1 : wr.frozen? ⟨b, 1, none⟩ = false := h1.frozen 1
        have c04 : (wr.setCell ⟨b, 1, none⟩ (.int .u64 ej.x.start)).cell? ⟨b, 0, none⟩ = some (.slice (some ⟨g, 0, none⟩) k cap) := by
          have := (h1.set 1 (.int .u64 ej.x.start)).cell 0
          simp only [List.set_cons_succ, List.set_cons_zero, List.getElem?_cons_zero] at this
          rw [this, ← q1.1, ← q1.2.2, HN.out]
        have c24 : (wr.setCell ⟨b, 1, none⟩ (.int .u64 ej.x.start)).cell? ⟨b, 2, none⟩ = some (.int .u64 t.most) := by
          have := (h1.set 1 (.int .u64 ej.x.start)).cell 2
          simpa using this
        clear e1 e2 e3 hfirst hget hne hfi h1 h3 q0 q1
        go_upto_region 11 with fail
        obtain ⟨hR4, hF4⟩ := HR.out.setV ej.x.start
        have B4 := BR.out.set_far (a := ⟨b, 1, none⟩) (fun e => hbw0 e.symm) (.int .u64 ej.x.start)
        have hF5 := Fr.after_below hbr.out hF4
        have cg : (wr.setCell ⟨b, 1, none⟩ (.int .u64 ej.x.start)).cell? ⟨g, j, none⟩ = some (.pointer (some ⟨ej.b, 0, none⟩)) := by rw [World.cell?_of_block (a := ⟨g, j, none⟩) (Below.heap_setCell wr ⟨b, 1, none⟩ _ g hgb)]; exact cg
        generalize wr.setCell ⟨b, 1, none⟩ (.int .u64 ej.x.start) = W4 at *
        have HR4 := Lib.hid hR4
        clear hR4 z1 d4 c0 c1 c2
        go_wp2_with fail
        refine (refServe_any ej.b ej.id ej.x ej.G _ (HR4.out.flows ej hm) hok).mono ?_
        unfold Pk.val
        rintro e5 w5 ⟨rfl, hp5⟩
        obtain ⟨hR5, hF6⟩ := HR4.out.turned hm hp5 (FlS.serve_ok hok)
        have hnw : ¬ ej.G w.heap.size := fun hk => by have := hF _ (HR4.out.sub ej hm _ hk).1; omega
        have B5 := B4.of_eq (hp5.2.block _ B4.lt hnw)
        have hb6 := below1 w5 (.cells #[.int .i64 ej.x.head.flow, .int .i64 ej.x.head.len, .int .i64 ej.x.head.mark] 55)
        have hR6 := hR5.below hb6
        have Br := B5.below hb6
        have Bp := Blk.new w5 [.int .i64 ej.x.head.flow, .int .i64 ej.x.head.len, .int .i64 ej.x.head.mark] 55
        have hF7 := hF5.trans hF6 fun _ _ h => h
        have hF8 := hF7.then_below hb6
        have hs5 := hF5.size
        have hs6 := hF6.size
        have hs7 := hF8.size
        have hcase : (t.most < ej.x.out ∧ max t.most ej.x.out = ej.x.out) ∨ (ej.x.out ≤ t.most ∧ max t.most ej.x.out = t.most) := by omega
        go_upto_region 12 with fail
        have hbx : w5.heap.size < (w5.alloc (.cells #[.int .i64 ej.x.head.flow, .int .i64 ej.x.head.len, .int .i64 ej.x.head.mark] 55)).heap.size := by simp
        have hlw := B5.lt
        have hl45 : W4.heap.size ≤ w5.heap.size := hs6
        have hlw4 := B4.lt
        generalize hB6 : w5.heap.size = b6 at *
        have HB6 := Lib.hid hB6
        clear hB6
        generalize w5.alloc (.cells #[.int .i64 ej.x.head.flow, .int .i64 ej.x.head.len, .int .i64 ej.x.head.mark] 55) = W6 at *
        obtain ⟨ao6, cap6, r6, -⟩ := hR6.row
        have k2 := r6.cell 2
        have z2 := r6.frozen 2
        have hl6 := r6.lt
        simp only [List.getElem?_cons_succ, List.getElem?_cons_zero] at k2
        have HR6 := Lib.hid hR6
        have hbb6 : b ≠ b6 := by have := hF b hbb; omega
        have BR := Lib.hid Br
        have BP := Lib.hid Bp
        have HF8 := Lib.hid hF8
        clear hR6 r6 hR5 hF5 hF6 hF7 hF8 Br Bp B5 B4 c04 c24 hb6 hp5 cg
        rcases hcase with ⟨hv, hmx⟩ | ⟨hv, hmx⟩
        · have HM := Lib.hid hmx
          clear hmx
          go_upto_region 13 with fail
          obtain ⟨hR9, hF9⟩ := HR6.out.setMost ej.x.out
          have Bp := BP.out.set_far (a := ⟨b, 2, none⟩) (fun e => hbb6 e.symm) (.int .u64 ej.x.out)
          have Br := BR.out.set_far (a := ⟨b, 2, none⟩) (fun e => hbw0 e.symm) (.int .u64 ej.x.out)
          have hfr := HF8.out.trans hF9 fun k hk h => by
            rcases h with h | h
            · exact h
            · have := hb0.size; have := HBQ.out.size; omega
          have hs9 := hF9.size
          generalize W6.setCell ⟨b, 2, none⟩ (.int .u64 ej.x.out) = W9 at *
          have x0 := Bp.cell 0
          have x1 := Bp.cell 1
          have x2 := Bp.cell 2
          have y0 := Br.cell 0
          have y1 := Br.cell 1
          have y2 := Br.cell 2
          have q0 := Br.frozen 0
          have q1 := Br.frozen 1
          have q2 := Br.frozen 2
          simp only [List.getElem?_cons_succ, List.getElem?_cons_zero] at x0 x1 x2 y0 y1 y2
          have HR9 := Lib.hid hR9
          have HFR := Lib.hid hfr
          clear hR9 hF9 hfr Bp Br k2 z2
          go_wp2
          refine bodyPost_ret (v := .tuple #[.agg #[.int .i64 ej.x.head.flow, .int .i64 ej.x.head.len, .int .i64 ej.x.head.mark], .bool true]) (by simp [results, Try.results54, go_sem, y0, y1, y2, q0, q1, q2]) rfl ⟨by rw [E1.out, E2.out]; rfl, ?_⟩
          rw [E3.out, HM.out]
          have hS6 : Fr (fun k => k = w.heap.size) W9 (((W9.setCell ⟨w.heap.size, 0, none⟩ (.int .i64 ej.x.head.flow)).setCell ⟨w.heap.size, 1, none⟩ (.int .i64 ej.x.head.len)).setCell ⟨w.heap.size, 2, none⟩ (.int .i64 ej.x.head.mark)) :=
            Fr.setCell (S := fun k => k = w.heap.size) (a := ⟨w.heap.size, 2, none⟩) (Fr.setCell (S := fun k => k = w.heap.size) (a := ⟨w.heap.size, 1, none⟩) (Fr.setCell (S := fun k => k = w.heap.size) (a := ⟨w.heap.size, 0, none⟩) (Fr.refl _ _) (.inl rfl) _) (.inl rfl) _) (.inl rfl) _
          have hx : Fr F w (((W9.setCell ⟨w.heap.size, 0, none⟩ (.int .i64 ej.x.head.flow)).setCell ⟨w.heap.size, 1, none⟩ (.int .i64 ej.x.head.len)).setCell ⟨w.heap.size, 2, none⟩ (.int .i64 ej.x.head.mark)) := HFR.out.trans hS6 fun k hk e' => by exfalso; subst e'; omega
          have hB6 := HB6.out
          refine ⟨⟨setR l ej.id ej.x.serve _, by rw [setR_pl, HL.out], (HR9.out.fr hS6 fun k hk e' => ?_).mono (fun k hk => hk.imp id fun hk => ⟨by omega, Nat.lt_of_lt_of_le (Nat.lt_of_lt_of_le hk.2 (by omega)) hS6.size⟩) (hF.ext hx.size)⟩, hx⟩
          rcases hk with hk | hk
          · have := hF k hk; omega
          · omega
        · have HM := Lib.hid hmx
          clear hmx
          go_upto_region 13 with fail
          obtain ⟨hR9, hF9⟩ := HR6.out.setMost t.most
          have Bp := BP.out.set_far (a := ⟨b, 2, none⟩) (fun e => hbb6 e.symm) (.int .u64 t.most)
          have Br := BR.out.set_far (a := ⟨b, 2, none⟩) (fun e => hbw0 e.symm) (.int .u64 t.most)
          have hfr := HF8.out.trans hF9 fun k hk h => by
            rcases h with h | h
            · exact h
            · have := hb0.size; have := HBQ.out.size; omega
          have hs9 := hF9.size
          generalize W6.setCell ⟨b, 2, none⟩ (.int .u64 t.most) = W9 at *
          have x0 := Bp.cell 0
          have x1 := Bp.cell 1
          have x2 := Bp.cell 2
          have y0 := Br.cell 0
          have y1 := Br.cell 1
          have y2 := Br.cell 2
          have q0 := Br.frozen 0
          have q1 := Br.frozen 1
          have q2 := Br.frozen 2
          simp only [List.getElem?_cons_succ, List.getElem?_cons_zero] at x0 x1 x2 y0 y1 y2
          have HR9 := Lib.hid hR9
          have HFR := Lib.hid hfr
          clear hR9 hF9 hfr Bp Br k2 z2
          go_wp2
          refine bodyPost_ret (v := .tuple #[.agg #[.int .i64 ej.x.head.flow, .int .i64 ej.x.head.len, .int .i64 ej.x.head.mark], .bool true]) (by simp [results, Try.results54, go_sem, y0, y1, y2, q0, q1, q2]) rfl ⟨by rw [E1.out, E2.out]; rfl, ?_⟩
          rw [E3.out, HM.out]
          have hS6 : Fr (fun k => k = w.heap.size) W9 (((W9.setCell ⟨w.heap.size, 0, none⟩ (.int .i64 ej.x.head.flow)).setCell ⟨w.heap.size, 1, none⟩ (.int .i64 ej.x.head.len)).setCell ⟨w.heap.size, 2, none⟩ (.int .i64 ej.x.head.mark)) :=
            Fr.setCell (S := fun k => k = w.heap.size) (a := ⟨w.heap.size, 2, none⟩) (Fr.setCell (S := fun k => k = w.heap.size) (a := ⟨w.heap.size, 1, none⟩) (Fr.setCell (S := fun k => k = w.heap.size) (a := ⟨w.heap.size, 0, none⟩) (Fr.refl _ _) (.inl rfl) _) (.inl rfl) _) (.inl rfl) _
          have hx : Fr F w (((W9.setCell ⟨w.heap.size, 0, none⟩ (.int .i64 ej.x.head.flow)).setCell ⟨w.heap.size, 1, none⟩ (.int .i64 ej.x.head.len)).setCell ⟨w.heap.size, 2, none⟩ (.int .i64 ej.x.head.mark)) := HFR.out.trans hS6 fun k hk e' => by exfalso; subst e'; omega
          have hB6 := HB6.out
          refine ⟨⟨setR l ej.id ej.x.serve _, by rw [setR_pl, HL.out], (HR9.out.fr hS6 fun k hk e' => ?_).mono (fun k hk => hk.imp id fun hk => ⟨by omega, Nat.lt_of_lt_of_le (Nat.lt_of_lt_of_le hk.2 (by omega)) hS6.size⟩) (hF.ext hx.size)⟩, hx⟩
          rcases hk with hk | hk
          · have := hF k hk; omega
          · omega
end Go.Proofs.Ytfgfjnlkgadkhaa
