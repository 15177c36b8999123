/- FlowRoom. -/
import Derived.Test.YtgdfoibfmjkikaaFlowA
namespace Go.Proofs.Ytgdfoibfmjkikaa
set_option linter.unusedVariables false
set_option linter.unusedSimpArgs false
open Go.RowKit Go.Proofs.YtgdfoibfmjkikaaMem Go.Proofs.YtgdfoibfmjkikaaFlat

theorem FlS.filled_serve {r : Int} {n : Nat} {p : Pk} (h1 : 1 ≤ n) : (FlS.filled r n p n).has = true ∧ ((FlS.filled r n p n).serve.l.length : Int) = (n : Int) - 1 ∧ (FlS.filled r n p n).serve.full = false ∧ ((FlS.filled r n p n).serve.arrive 0 p).full = true := by
  obtain ⟨m, rfl⟩ : ∃ m, n = m + 1 := ⟨n - 1, by omega⟩
  have e : (FlS.filled r ((m + 1 : Nat) : Int) p (m + 1)).serve = ⟨r, ((m + 1 : Nat) : Int), (FlS.filled r ((m + 1 : Nat) : Int) p (m + 1)).fin p, (FlS.filled r ((m + 1 : Nat) : Int) p (m + 1)).fin p, List.replicate m p⟩ := by
    simp [FlS.serve, FlS.filled, List.replicate_succ]
  have hf : (FlS.filled r ((m + 1 : Nat) : Int) p (m + 1)).serve.full = false := by rw [e]; simp [FlS.full]; omega
  refine ⟨by simp [FlS.has, FlS.filled, List.replicate_succ], by rw [e]; simp, hf, ?_⟩
  unfold FlS.arrive
  rw [hf, e]
  simp [FlS.put, FlS.full]

set_option maxHeartbeats 1000000 in
theorem room_in (r m : Int) (p : Pk) (n : Nat) (w : World) (hr : W64 r) (hp : p.Ok) (hn : (n : Int) = min (max m 1) 8) (h1 : 1 ≤ n) (h8 : n ≤ 8) :
    Calls Try.prog 3 #[.int .u64 r, .int .i64 m, .agg #[.int .i64 p.flow, .int .i64 p.len, .int .i64 p.mark]] w fun e w' => e = .returned (.bool true) ∧ Below w.heap.size w w' := by
  have hm : (m < 1 ∧ n = 1) ∨ (1 ≤ m ∧ m ≤ 8 ∧ m = n) ∨ (8 < m ∧ n = 8) := by omega
  have E0 : Hid (FlS.new r m = FlS.filled r n p 0) := by unfold Hid FlS.new FlS.filled; rw [hn]; rfl
  have S := fun k (hk : k < n) => FlS.filled_step (r := r) (p := p) (show (k : Int) < (n : Int) by omega)
  have O := fun k (hk : k ≤ n) => FlS.filled_ok (r := r) (n := n) (p := p) (k := k) hr hp (by omega) (by omega) (by omega)
  have EF : (FlS.filled r n p n).full = true := FlS.filled_full
  have EA : (FlS.filled r n p n).arrive 0 p = FlS.filled r n p n := by unfold FlS.arrive; rw [EF]; rfl
  obtain ⟨v1, v2, v3, v4⟩ := FlS.filled_serve (r := r) (n := n) (p := p) h1
  have ES : Hid ((FlS.filled r n p n).serve.Ok) := FlS.serve_ok (O n (Nat.le_refl _))
  have ES2 : Hid (((FlS.filled r n p n).serve.arrive 0 p).Ok) := FlS.arrive_ok ES.out (by decide) hp
  have L0 := fun k => show ((FlS.filled r n p k).l.length : Int) = k by simp [FlS.filled]
  have HS := Lib.hid S; have HO := Lib.hid O; have HF := Lib.hid EF; have HA := Lib.hid EA
  have V1 := Lib.hid v1; have V2 := Lib.hid v2; have V3 := Lib.hid v3; have V4 := Lib.hid v4; have HL := Lib.hid L0
  have hB := Blk.new w [.int .i64 p.flow, .int .i64 p.len, .int .i64 p.mark] 24
  have hb1 := below1 w (.cells #[.int .i64 p.flow, .int .i64 p.len, .int .i64 p.mark] 24)
  have hlB := hB.lt
  have HB := Lib.hid hB
  have HB1 := Lib.hid hb1
  clear S O EF EA v1 v2 v3 v4 L0 hB hn hb1
  rcases hm with ⟨hm, en⟩ | ⟨hm1, hm2, en⟩ | ⟨hm, en⟩
  · have _x : True := trivial
    go_enter Try.func3, Try.ntmps3
    go_wp2_with fail
    refine (mineNew (w.heap.size + 1) r _ _ (by simp)).mono ?_
    rw [E0.out]
    rintro e w1 ⟨b, rfl, M, hb⟩
    have B1 := HB.out.below hb
    have T := HB1.out.trans (hb.mono (by simp))
    go_wp2_with fail
    refine (awakeF_any _).mono ?_
    rintro e w2 ⟨rfl, hb2⟩
    replace M := M.below hb2
    replace B1 := B1.below hb2
    replace T := T.trans (hb2.mono T.size)
    go_wp2_with fail
    go_loopw [9] (fun v wr => ∃ k : Nat, k ≤ n ∧ v = .int .i64 k ∧ Mine (w.heap.size + 1) wr b (FlS.filled r n p k) ∧ Blk wr w.heap.size [.int .i64 p.flow, .int .i64 p.len, .int .i64 p.mark] 24 ∧ Below w.heap.size w wr) (fun v _ => (n - intOf v).toNat)
    case atStart => exact ⟨0, Nat.zero_le _, rfl, M, B1, T⟩
    case round =>
      obtain ⟨k, hk, rfl, Mk, Bk, Tk⟩ := hrel
      have q0 := Bk.cell 0
      have q1 := Bk.cell 1
      have q2 := Bk.cell 2
      simp only [List.getElem?_cons_succ, List.getElem?_cons_zero] at q0 q1 q2
      by_cases hl : k < n
      · have i1 : (k : Int) < 1 := by omega
        have k8 : (k : Int) + 1 ≤ 8 := by omega
        obtain ⟨s1, s2⟩ := HS.out k hl
        have hL := HL.out (k + 1)
        have hL2 : ((k + 1 : Nat) : Int) = (k : Int) + 1 := by omega
        rw [hL2] at hL
        go_wp2_with fail
        refine (mineArrive (w.heap.size + 1) b _ 0 p _ Mk (HO.out k (by omega))).mono ?_
        rw [s1, s2]
        rintro e w3 ⟨rfl, M3, hb3⟩
        go_wp2_with fail
        refine (len_any b _ _ _ M3.2).mono ?_
        rw [hL]
        rintro e w' ⟨rfl, rfl⟩
        go_wp2_with fail
        go_roundw
        case rel => exact ⟨k + 1, hl, by go_num, M3, Bk.of_eq (hb3.block _ (by omega)), Tk.trans (hb3.mono (by omega))⟩
        case measure => simp [intOf]; omega
      · have i1 : 1 ≤ (k : Int) := by omega
        have e : k = n := by omega
        have e9 : ((k : Int) != 1) = false := by simp; omega
        have e10 : ((k : Int) - 1 == 1 - 1) = true := by simp; omega
        subst e
        have hL := HL.out k
        have k8 : 1 ≤ (k : Int) := by omega
        have k9 : (k : Int) ≤ 8 := by omega
        go_wp2_with fail
        refine (mineArrive (w.heap.size + 1) b _ 0 p _ Mk (HO.out k (Nat.le_refl _))).mono ?_
        rw [HF.out, HA.out]
        rintro e w3 ⟨rfl, M3, hb3⟩
        have B3 := Bk.of_eq (hb3.block _ (by omega))
        have T3 := Tk.trans (hb3.mono (by omega))
        go_wp2_with fail
        refine (len_any b _ _ _ M3.2).mono ?_
        rw [hL]
        rintro e w' ⟨rfl, rfl⟩
        go_wp2_with fail
        refine (mineServe (w.heap.size + 1) b _ _ M3 (HO.out k (Nat.le_refl _))).mono ?_
        rw [V1.out]
        rintro e w4 ⟨rfl, M4, hb4⟩
        have B4 := B3.of_eq (hb4.block _ (by omega))
        have T4 := T3.trans (hb4.mono (by omega))
        simp only [Pk.val]
        generalize (FlS.filled r (k : Int) p k).head = pp at *
        go_wp2_with fail
        have hn1 := below1 w4 (.cells #[.int .i64 pp.flow, .int .i64 pp.len, .int .i64 pp.mark] 24)
        have M5 := M4.below hn1
        have B5 := B4.below hn1
        have T5 := T4.trans (hn1.mono T4.size)
        refine (len_any b _ _ _ M5.2).mono ?_
        rw [V2.out]
        rintro e w' ⟨rfl, rfl⟩
        replace q0 := B5.cell 0
        replace q1 := B5.cell 1
        replace q2 := B5.cell 2
        simp only [List.getElem?_cons_succ, List.getElem?_cons_zero] at q0 q1 q2
        go_wp2_with fail
        refine (mineArrive (w.heap.size + 1) b _ 0 p _ M5 ES.out).mono ?_
        rw [V3.out]
        rintro e w5 ⟨rfl, M6, hb6⟩
        have B6 := B5.of_eq (hb6.block _ (by omega))
        have T6 := T5.trans (hb6.mono (by omega))
        replace q0 := B6.cell 0
        replace q1 := B6.cell 1
        replace q2 := B6.cell 2
        simp only [List.getElem?_cons_succ, List.getElem?_cons_zero] at q0 q1 q2
        go_wp2_with fail
        refine (mineArrive (w.heap.size + 1) b _ 0 p _ M6 ES2.out).mono ?_
        rw [V4.out]
        rintro e w6 ⟨rfl, M7, hb7⟩
        go_wp2_with fail
        go_ret
        exact ⟨rfl, T6.trans (hb7.mono (by omega))⟩
  · subst en
    go_enter Try.func3, Try.ntmps3
    go_wp2_with fail
    refine (mineNew (w.heap.size + 1) r _ _ (by simp)).mono ?_
    rw [E0.out]
    rintro e w1 ⟨b, rfl, M, hb⟩
    have B1 := HB.out.below hb
    have T := HB1.out.trans (hb.mono (by simp))
    go_wp2_with fail
    refine (awakeF_any _).mono ?_
    rintro e w2 ⟨rfl, hb2⟩
    replace M := M.below hb2
    replace B1 := B1.below hb2
    replace T := T.trans (hb2.mono T.size)
    go_wp2_with fail
    go_loopw [9] (fun v wr => ∃ k : Nat, k ≤ n ∧ v = .int .i64 k ∧ Mine (w.heap.size + 1) wr b (FlS.filled r n p k) ∧ Blk wr w.heap.size [.int .i64 p.flow, .int .i64 p.len, .int .i64 p.mark] 24 ∧ Below w.heap.size w wr) (fun v _ => (n - intOf v).toNat)
    case atStart => exact ⟨0, Nat.zero_le _, rfl, M, B1, T⟩
    case round =>
      obtain ⟨k, hk, rfl, Mk, Bk, Tk⟩ := hrel
      have q0 := Bk.cell 0
      have q1 := Bk.cell 1
      have q2 := Bk.cell 2
      simp only [List.getElem?_cons_succ, List.getElem?_cons_zero] at q0 q1 q2
      by_cases hl : k < n
      · have i1 : (k : Int) < (n : Int) := by omega
        have k8 : (k : Int) + 1 ≤ 8 := by omega
        obtain ⟨s1, s2⟩ := HS.out k hl
        have hL := HL.out (k + 1)
        have hL2 : ((k + 1 : Nat) : Int) = (k : Int) + 1 := by omega
        rw [hL2] at hL
        go_wp2_with fail
        refine (mineArrive (w.heap.size + 1) b _ 0 p _ Mk (HO.out k (by omega))).mono ?_
        rw [s1, s2]
        rintro e w3 ⟨rfl, M3, hb3⟩
        go_wp2_with fail
        refine (len_any b _ _ _ M3.2).mono ?_
        rw [hL]
        rintro e w' ⟨rfl, rfl⟩
        go_wp2_with fail
        go_roundw
        case rel => exact ⟨k + 1, hl, by go_num, M3, Bk.of_eq (hb3.block _ (by omega)), Tk.trans (hb3.mono (by omega))⟩
        case measure => simp [intOf]; omega
      · have i1 : (n : Int) ≤ (k : Int) := by omega
        have e : k = n := by omega
        have e9 : ((k : Int) != (n : Int)) = false := by simp; omega
        have e10 : ((k : Int) - 1 == (n : Int) - 1) = true := by simp; omega
        subst e
        have hL := HL.out k
        have k8 : 1 ≤ (k : Int) := by omega
        have k9 : (k : Int) ≤ 8 := by omega
        go_wp2_with fail
        refine (mineArrive (w.heap.size + 1) b _ 0 p _ Mk (HO.out k (Nat.le_refl _))).mono ?_
        rw [HF.out, HA.out]
        rintro e w3 ⟨rfl, M3, hb3⟩
        have B3 := Bk.of_eq (hb3.block _ (by omega))
        have T3 := Tk.trans (hb3.mono (by omega))
        go_wp2_with fail
        refine (len_any b _ _ _ M3.2).mono ?_
        rw [hL]
        rintro e w' ⟨rfl, rfl⟩
        go_wp2_with fail
        refine (mineServe (w.heap.size + 1) b _ _ M3 (HO.out k (Nat.le_refl _))).mono ?_
        rw [V1.out]
        rintro e w4 ⟨rfl, M4, hb4⟩
        have B4 := B3.of_eq (hb4.block _ (by omega))
        have T4 := T3.trans (hb4.mono (by omega))
        simp only [Pk.val]
        generalize (FlS.filled r (k : Int) p k).head = pp at *
        go_wp2_with fail
        have hn1 := below1 w4 (.cells #[.int .i64 pp.flow, .int .i64 pp.len, .int .i64 pp.mark] 24)
        have M5 := M4.below hn1
        have B5 := B4.below hn1
        have T5 := T4.trans (hn1.mono T4.size)
        refine (len_any b _ _ _ M5.2).mono ?_
        rw [V2.out]
        rintro e w' ⟨rfl, rfl⟩
        replace q0 := B5.cell 0
        replace q1 := B5.cell 1
        replace q2 := B5.cell 2
        simp only [List.getElem?_cons_succ, List.getElem?_cons_zero] at q0 q1 q2
        go_wp2_with fail
        refine (mineArrive (w.heap.size + 1) b _ 0 p _ M5 ES.out).mono ?_
        rw [V3.out]
        rintro e w5 ⟨rfl, M6, hb6⟩
        have B6 := B5.of_eq (hb6.block _ (by omega))
        have T6 := T5.trans (hb6.mono (by omega))
        replace q0 := B6.cell 0
        replace q1 := B6.cell 1
        replace q2 := B6.cell 2
        simp only [List.getElem?_cons_succ, List.getElem?_cons_zero] at q0 q1 q2
        go_wp2_with fail
        refine (mineArrive (w.heap.size + 1) b _ 0 p _ M6 ES2.out).mono ?_
        rw [V4.out]
        rintro e w6 ⟨rfl, M7, hb7⟩
        go_wp2_with fail
        go_ret
        exact ⟨rfl, T6.trans (hb7.mono (by omega))⟩
  · have _x : True := trivial
    go_enter Try.func3, Try.ntmps3
    go_wp2_with fail
    refine (mineNew (w.heap.size + 1) r _ _ (by simp)).mono ?_
    rw [E0.out]
    rintro e w1 ⟨b, rfl, M, hb⟩
    have B1 := HB.out.below hb
    have T := HB1.out.trans (hb.mono (by simp))
    go_wp2_with fail
    refine (awakeF_any _).mono ?_
    rintro e w2 ⟨rfl, hb2⟩
    replace M := M.below hb2
    replace B1 := B1.below hb2
    replace T := T.trans (hb2.mono T.size)
    go_wp2_with fail
    go_loopw [9] (fun v wr => ∃ k : Nat, k ≤ n ∧ v = .int .i64 k ∧ Mine (w.heap.size + 1) wr b (FlS.filled r n p k) ∧ Blk wr w.heap.size [.int .i64 p.flow, .int .i64 p.len, .int .i64 p.mark] 24 ∧ Below w.heap.size w wr) (fun v _ => (n - intOf v).toNat)
    case atStart => exact ⟨0, Nat.zero_le _, rfl, M, B1, T⟩
    case round =>
      obtain ⟨k, hk, rfl, Mk, Bk, Tk⟩ := hrel
      have q0 := Bk.cell 0
      have q1 := Bk.cell 1
      have q2 := Bk.cell 2
      simp only [List.getElem?_cons_succ, List.getElem?_cons_zero] at q0 q1 q2
      by_cases hl : k < n
      · have i1 : (k : Int) < 8 := by omega
        have k8 : (k : Int) + 1 ≤ 8 := by omega
        obtain ⟨s1, s2⟩ := HS.out k hl
        have hL := HL.out (k + 1)
        have hL2 : ((k + 1 : Nat) : Int) = (k : Int) + 1 := by omega
        rw [hL2] at hL
        go_wp2_with fail
        refine (mineArrive (w.heap.size + 1) b _ 0 p _ Mk (HO.out k (by omega))).mono ?_
        rw [s1, s2]
        rintro e w3 ⟨rfl, M3, hb3⟩
        go_wp2_with fail
        refine (len_any b _ _ _ M3.2).mono ?_
        rw [hL]
        rintro e w' ⟨rfl, rfl⟩
        go_wp2_with fail
        go_roundw
        case rel => exact ⟨k + 1, hl, by go_num, M3, Bk.of_eq (hb3.block _ (by omega)), Tk.trans (hb3.mono (by omega))⟩
        case measure => simp [intOf]; omega
      · have i1 : 8 ≤ (k : Int) := by omega
        have e : k = n := by omega
        have e9 : ((k : Int) != 8) = false := by simp; omega
        have e10 : ((k : Int) - 1 == 8 - 1) = true := by simp; omega
        subst e
        have hL := HL.out k
        have k8 : 1 ≤ (k : Int) := by omega
        have k9 : (k : Int) ≤ 8 := by omega
        go_wp2_with fail
        refine (mineArrive (w.heap.size + 1) b _ 0 p _ Mk (HO.out k (Nat.le_refl _))).mono ?_
        rw [HF.out, HA.out]
        rintro e w3 ⟨rfl, M3, hb3⟩
        have B3 := Bk.of_eq (hb3.block _ (by omega))
        have T3 := Tk.trans (hb3.mono (by omega))
        go_wp2_with fail
        refine (len_any b _ _ _ M3.2).mono ?_
        rw [hL]
        rintro e w' ⟨rfl, rfl⟩
        go_wp2_with fail
        refine (mineServe (w.heap.size + 1) b _ _ M3 (HO.out k (Nat.le_refl _))).mono ?_
        rw [V1.out]
        rintro e w4 ⟨rfl, M4, hb4⟩
        have B4 := B3.of_eq (hb4.block _ (by omega))
        have T4 := T3.trans (hb4.mono (by omega))
        simp only [Pk.val]
        generalize (FlS.filled r (k : Int) p k).head = pp at *
        go_wp2_with fail
        have hn1 := below1 w4 (.cells #[.int .i64 pp.flow, .int .i64 pp.len, .int .i64 pp.mark] 24)
        have M5 := M4.below hn1
        have B5 := B4.below hn1
        have T5 := T4.trans (hn1.mono T4.size)
        refine (len_any b _ _ _ M5.2).mono ?_
        rw [V2.out]
        rintro e w' ⟨rfl, rfl⟩
        replace q0 := B5.cell 0
        replace q1 := B5.cell 1
        replace q2 := B5.cell 2
        simp only [List.getElem?_cons_succ, List.getElem?_cons_zero] at q0 q1 q2
        go_wp2_with fail
        refine (mineArrive (w.heap.size + 1) b _ 0 p _ M5 ES.out).mono ?_
        rw [V3.out]
        rintro e w5 ⟨rfl, M6, hb6⟩
        have B6 := B5.of_eq (hb6.block _ (by omega))
        have T6 := T5.trans (hb6.mono (by omega))
        replace q0 := B6.cell 0
        replace q1 := B6.cell 1
        replace q2 := B6.cell 2
        simp only [List.getElem?_cons_succ, List.getElem?_cons_zero] at q0 q1 q2
        go_wp2_with fail
        refine (mineArrive (w.heap.size + 1) b _ 0 p _ M6 ES2.out).mono ?_
        rw [V4.out]
        rintro e w6 ⟨rfl, M7, hb7⟩
        go_wp2_with fail
        go_ret
        exact ⟨rfl, T6.trans (hb7.mono (by omega))⟩

theorem FlowRoom_any (w : World) (r : Int) (w0 : (Lit.int .u64 r).wf = true) (m : Int) (w1 : (Lit.int .i64 m).wf = true) (c : List Value) (w2 : FlatOk [.int .i64, .int .i64, .int .i64] c) :
    Calls Try.prog 3 #[.int .u64 r, .int .i64 m, .agg c.toArray] w fun e w' => e = .returned (.bool true) ∧ Below w.heap.size w w' := by
  obtain ⟨p, rfl, hp⟩ := pk_of w2
  exact room_in r m p (min (max m 1) 8).toNat w (wf_u64 w0) hp (by omega) (by omega) (by omega)
end Go.Proofs.Ytgdfoibfmjkikaa
