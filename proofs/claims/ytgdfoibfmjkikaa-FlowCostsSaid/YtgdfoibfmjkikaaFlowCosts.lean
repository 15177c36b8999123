/- FlowCosts. -/
import Derived.Test.YtgdfoibfmjkikaaFlowPlays
import Derived.Test.YtgdfoibfmjkikaaFlatI
namespace Go.Proofs.Ytgdfoibfmjkikaa
set_option linter.unusedVariables false
set_option linter.unusedSimpArgs false
open Go.RowKit Go.Proofs.YtgdfoibfmjkikaaMem Go.Proofs.YtgdfoibfmjkikaaFlat

/-- A flow of room for two, in which the one packet stands. -/
structure FlS.One (x : FlS) (r : Int) (q : Pk) : Prop where
  r : x.r = r
  most : x.most = 2
  l : x.l = [q]
theorem FlS.one_step {x : FlS} {r : Int} {q p : Pk} (h : x.One r q) : x.full = false ∧ (x.arrive 0 p).has = true ∧ (x.arrive 0 p).out = x.fin q ∧ (x.arrive 0 p).serve.One r p ∧ (x.arrive 0 p).serve.fin p = satAdd (x.fin q) (costOf p.len r) := by
  obtain ⟨r', m, s, f, l⟩ := x
  obtain ⟨h1, h2, h3⟩ := h
  simp only at h1 h2 h3
  subst h1 h2 h3
  have hf : (FlS.mk r' 2 s f [q]).full = false := by simp [FlS.full]
  refine ⟨hf, ?_⟩
  have e : (FlS.mk r' 2 s f [q]).arrive 0 p = ⟨r', 2, s, f, [q, p]⟩ := by unfold FlS.arrive; rw [hf]; simp [FlS.put]
  rw [e]
  exact ⟨rfl, rfl, ⟨rfl, rfl, rfl⟩, rfl⟩
theorem FlS.one_end {x : FlS} {r : Int} {q : Pk} (h : x.One r q) : x.has = true ∧ x.out = x.fin q ∧ x.serve.finish = x.fin q := by
  obtain ⟨r', m, s, f, l⟩ := x
  obtain ⟨h1, h2, h3⟩ := h
  simp only at h1 h2 h3
  subst h1 h2 h3
  exact ⟨rfl, rfl, rfl⟩
theorem FlS.one_new {r v : Int} (hv : W64 v) : (FlS.new r 2).full = false ∧ ((FlS.new r 2).arrive v Pk.zero).One r Pk.zero ∧ ((FlS.new r 2).arrive v Pk.zero).fin Pk.zero = v := by
  obtain ⟨h1, h2⟩ := hv
  have e : (FlS.new r 2).arrive v Pk.zero = ⟨r, 2, max v 0, 0, [Pk.zero]⟩ := rfl
  refine ⟨rfl, by rw [e]; exact ⟨rfl, rfl, rfl⟩, ?_⟩
  rw [e]
  show satAdd (max v 0) (costOf 0 r) = v
  have hc : costOf 0 r = 0 := by unfold costOf satMul; simp
  rw [hc, Int.max_eq_left h1]
  unfold satAdd; rw [if_pos (by omega)]; omega

set_option maxHeartbeats 1000000 in
theorem costs_in (r v : Int) (ao : Option Addr) (n cap : Nat) (zs : List Int) (w : World) (hr : W64 r) (hv : W64 v) (h : RdI w ao n cap zs) :
    Calls Try.prog 7 #[.int .u64 r, .int .u64 v, .slice ao n cap] w fun e w' => e = .returned (.bool true) ∧ Below w.heap.size w w' := by
  have HS := Lib.hid h.small
  have hs := h.small
  obtain ⟨f0, f1, f2⟩ := FlS.one_new (r := r) hv
  have ok0 : (FlS.new r 2).Ok := FlS.new_ok hr
  have ok1 : ((FlS.new r 2).arrive v Pk.zero).Ok := FlS.arrive_ok ok0 hv (by decide)
  generalize hx1 : (FlS.new r 2).arrive v Pk.zero = x1 at *
  generalize hx0 : FlS.new r 2 = x0 at *
  have X0 := Lib.hid hx0
  have X1 := Lib.hid hx1
  have F2 := Lib.hid f2
  clear hx1 hx0 f2
  go_enter Try.func7, Try.ntmps7
  go_wp2_with fail
  refine (mineNew w.heap.size r 2 _ (Nat.le_refl _)).mono ?_
  rw [X0.out]
  rintro e w1 ⟨b, rfl, M, T⟩
  go_wp2_with fail
  refine (awakeF_any _).mono ?_
  rintro e w2 ⟨rfl, hb2⟩
  replace M := M.below hb2
  replace T := T.trans (hb2.mono T.size)
  go_wp2_with fail
  refine (mineArrive w.heap.size b x0 v Pk.zero _ M ok0).mono ?_
  rw [f0, X1.out]
  rintro e w3 ⟨rfl, M3, hb3⟩
  replace T := T.trans hb3
  go_wp2_with fail
  go_loopw [8, 9] (fun u8 u9 wr => ∃ (k : Nat) (x : FlS) (q : Pk), k ≤ n ∧ k ≤ 40 ∧ u8 = .int .u64 (x.fin q) ∧ u9 = .int .i64 k ∧ Mine w.heap.size wr b x ∧ x.Ok ∧ x.One r q ∧ Below w.heap.size w wr) (fun u8 u9 _ => (40 - intOf u9).toNat)
  case atStart => exact ⟨0, x1, Pk.zero, Nat.zero_le _, Nat.zero_le _, by rw [F2.out], rfl, M3, ok1, f1, T⟩
  case round =>
    obtain ⟨k, x, q, hk, hk8, rfl, rfl, Mk, ok, I, Tk⟩ := hrel
    by_cases hlx : k < n ∧ k < 40
    · obtain ⟨hl, h8⟩ := hlx
      have i1 : (k : Int) < (n : Int) := by omega
      have i2 : (k : Int) < 40 := by omega
      obtain ⟨bl, off, rfl, hbl, hc⟩ := (RdI.below (B := 0) h Tk).at_ k hl
      have hz := h.nth_fits k
      have hp : (Pk.mk 0 (nth zs k) 0).Ok := ⟨(by decide : I64 0), hz, (by decide : I64 0)⟩
      obtain ⟨s1, s2, s3, s4, s5⟩ := FlS.one_step (p := ⟨0, nth zs k, 0⟩) I
      have ok3 := FlS.arrive_ok (v := 0) ok (by decide) hp
      have ok4 := FlS.serve_ok ok3
      have e5 : (x.fin q != x.fin q) = false := by simp
      have wf := FlS.fin_w64 ok q
      have wc : W64 (costOf (nth zs k) r) := costOf_w64 hr
      have S5 := Lib.hid s5
      clear s5
      go_wp2_with fail
      refine (mineArrive w.heap.size b x 0 ⟨0, nth zs k, 0⟩ _ Mk ok).mono ?_
      rw [s1]
      rintro e w4 ⟨rfl, M4, hb4⟩
      have T4 := Tk.trans hb4
      go_wp2_with fail
      refine (mineServe w.heap.size b _ _ M4 ok3).mono ?_
      rw [s2, s3]
      rintro e w5 ⟨rfl, M5, hb5⟩
      have T5 := T4.trans hb5
      simp only [Pk.val]
      generalize (x.arrive 0 ⟨0, nth zs k, 0⟩).head = pp at *
      have hn1 := below1 w5 (.cells #[.int .i64 pp.flow, .int .i64 pp.len, .int .i64 pp.mark] 24)
      have T6 := T5.trans (hn1.mono T5.size)
      have M6 := M5.below hn1
      obtain ⟨bl', off', e', hbl', hc'⟩ := (RdI.below (B := 0) h T6).at_ k hl
      simp only [Option.some.injEq, Addr.mk.injEq, and_true] at e'
      obtain ⟨rfl, rfl⟩ := e'
      go_wp2_with fail
      refine (refCost_any _ _ hz.2 hr _).mono ?_
      rintro e w' ⟨rfl, rfl⟩
      go_wp2_with fail
      refine (refAdd_any _ _ wf wc _).mono ?_
      rintro e w' ⟨rfl, rfl⟩
      go_wp2_with fail
      go_roundw
      case rel => exact ⟨k + 1, _, ⟨0, nth zs k, 0⟩, hl, h8, by rw [S5.out], by go_num, M6, ok4, s4, T6⟩
      case measure => simp [intOf]; omega
    · obtain ⟨s1, s2, s3⟩ := FlS.one_end I
      have i3 : (n : Int) ≤ (k : Int) ∨ (k : Int) < (n : Int) ∧ 40 ≤ (k : Int) := by omega
      rcases i3 with i1 | ⟨i1, i2⟩
      all_goals
        go_wp2_with fail
        refine (mineServe w.heap.size b _ _ Mk ok).mono ?_
        rw [s1, s2]
        rintro e w5 ⟨rfl, M5, hb5⟩
        have T5 := Tk.trans hb5
        simp only [Pk.val]
        generalize x.head = pp at *
        have hn1 := below1 w5 (.cells #[.int .i64 pp.flow, .int .i64 pp.len, .int .i64 pp.mark] 24)
        have T6 := T5.trans (hn1.mono T5.size)
        have M6 := M5.below hn1
        have e5 : (x.fin q == x.fin q) = true := by simp
        go_wp2_with fail
        refine (finish_any b _ _ _ M6.2).mono ?_
        rw [s3]
        rintro e w' ⟨rfl, rfl⟩
        go_wp2_with fail
        go_ret
        exact ⟨rfl, T6⟩

theorem FlowCosts_any (w : World) (r : Int) (w0 : (Lit.int .u64 r).wf = true) (v : Int) (w1 : (Lit.int .u64 v).wf = true) (ao : Option Addr) (n cap : Nat) (L : List (List Value)) (w2 : IsRows w [.int .i64] ao n cap L) :
    Calls Try.prog 7 #[.int .u64 r, .int .u64 v, .slice ao n cap] w fun e w' => e = .returned (.bool true) ∧ Below w.heap.size w w' := by
  obtain ⟨zs, h⟩ := isRows_rdI w2
  exact costs_in r v ao n cap zs w (wf_u64 w0) (wf_u64 w1) h
end Go.Proofs.Ytgdfoibfmjkikaa
