/- One flow that a call made: what is done to it, told without its footprint; awake. -/
import Derived.Test.YtgdfoibfmjkikaaFlowL
namespace Go.Proofs.Ytgdfoibfmjkikaa
set_option linter.unusedVariables false
set_option linter.unusedSimpArgs false
open Go.RowKit Go.Proofs.YtgdfoibfmjkikaaMem

/-- A flow all of whose blocks were made since the base. -/
def Mine (base : Nat) (w : World) (b : Nat) (x : FlS) : Prop := base ≤ w.heap.size ∧ FlowAt w b x (fun k => base ≤ k ∧ k < w.heap.size)
theorem FlowPost.mine {base : Nat} {w w' : World} {b : Nat} {x' : FlS} (hb : base ≤ w.heap.size) (p : FlowPost b x' (fun k => base ≤ k ∧ k < w.heap.size) w w') : Mine base w' b x' ∧ Below base w w' := by
  have s := p.2.size
  refine ⟨⟨by omega, p.1.mono (fun k hk => ?_) (fun k hk => hk.2)⟩, p.2.below (fun k hk => hk.1) hb⟩
  rcases hk with hk | hk
  · exact ⟨hk.1, by omega⟩
  · exact ⟨by omega, hk.2⟩
theorem Mine.below {base : Nat} {w w' : World} {b : Nat} {x : FlS} (h : Mine base w b x) (hb : Below w.heap.size w w') : Mine base w' b x :=
  ⟨Nat.le_trans h.1 hb.size, (h.2.below hb).mono (fun k hk => ⟨hk.1, Nat.lt_of_lt_of_le hk.2 hb.size⟩) (fun k hk => hk.2)⟩
theorem Mine.lt {base : Nat} {w : World} {b : Nat} {x : FlS} (h : Mine base w b x) : base ≤ b ∧ b < w.heap.size := by
  obtain ⟨h0, ao, cap, hb, ho, h1, -⟩ := h; exact h1
theorem mineArrive (base b : Nat) (x : FlS) (v : Int) (p : Pk) (w : World) (h : Mine base w b x) (ok : x.Ok) :
    Calls Try.prog 11 #[.pointer (some ⟨b, 0, none⟩), .int .u64 v, .agg #[.int .i64 p.flow, .int .i64 p.len, .int .i64 p.mark]] w fun e w' => e = .returned (.bool (!x.full)) ∧ Mine base w' b (x.arrive v p) ∧ Below base w w' :=
  (arrive_any b x _ v p w h.2 ok).mono fun e w' hh => ⟨hh.1, hh.2.mine h.1⟩
theorem mineServe (base b : Nat) (x : FlS) (w : World) (h : Mine base w b x) (ok : x.Ok) :
    Calls Try.prog 13 #[.pointer (some ⟨b, 0, none⟩)] w fun e w' => e = .returned (.tuple #[x.head.val, .int .u64 x.out, .bool x.has]) ∧ Mine base w' b x.serve ∧ Below base w w' :=
  (serve_any b x _ w h.2 ok).mono fun e w' hh => ⟨hh.1, hh.2.mine h.1⟩
theorem mineNew (base : Nat) (r most : Int) (w : World) (hb : base ≤ w.heap.size) :
    Calls Try.prog 9 #[.int .u64 r, .int .i64 most] w (MkPost (fun w' b F => Mine base w' b (FlS.new r most)) w) :=
  (new_any r most w).mono fun e w' ⟨b, he, hf, hbl⟩ => ⟨b, he, ⟨Nat.le_trans hb hbl.size, hf.mono (fun k hk => ⟨by omega, hk.2⟩) fun k hk => hk.2⟩, hbl⟩

instance (x : Int) : Decidable (W64 x) := by unfold W64; infer_instance
instance (p : Pk) : Decidable p.Ok := by unfold Pk.Ok I64; infer_instance

set_option maxHeartbeats 400000 in
theorem awakeF_any (w : World) : Calls Try.prog 10 #[] w fun e w' => e = .returned (.bool true) ∧ Below w.heap.size w w' := by
  have k0 : (FlS.new 10 2).Ok := FlS.new_ok (by decide)
  have k1 : ((FlS.new 10 2).arrive 7 ⟨0, 3, 0⟩).Ok := FlS.arrive_ok k0 (by decide) (by decide)
  have k2 : (((FlS.new 10 2).arrive 7 ⟨0, 3, 0⟩).arrive 9 ⟨0, 1, 0⟩).Ok := FlS.arrive_ok k1 (by decide) (by decide)
  have k3 : ((((FlS.new 10 2).arrive 7 ⟨0, 3, 0⟩).arrive 9 ⟨0, 1, 0⟩).arrive 9 ⟨0, 0, 0⟩).Ok := FlS.arrive_ok k2 (by decide) (by decide)
  have a0 : (FlS.new 10 2).full = false := by decide
  have a1 : ((FlS.new 10 2).arrive 7 ⟨0, 3, 0⟩).full = false := by decide
  have a2 : (((FlS.new 10 2).arrive 7 ⟨0, 3, 0⟩).arrive 9 ⟨0, 1, 0⟩).full = true := by decide
  have b0 : ((((FlS.new 10 2).arrive 7 ⟨0, 3, 0⟩).arrive 9 ⟨0, 1, 0⟩).arrive 9 ⟨0, 0, 0⟩).head = ⟨0, 3, 0⟩ := by decide
  have b1 : ((((FlS.new 10 2).arrive 7 ⟨0, 3, 0⟩).arrive 9 ⟨0, 1, 0⟩).arrive 9 ⟨0, 0, 0⟩).out = 37 := by decide
  have b2 : ((((FlS.new 10 2).arrive 7 ⟨0, 3, 0⟩).arrive 9 ⟨0, 1, 0⟩).arrive 9 ⟨0, 0, 0⟩).has = true := by decide
  have d0 : ((((FlS.new 10 2).arrive 7 ⟨0, 3, 0⟩).arrive 9 ⟨0, 1, 0⟩).arrive 9 ⟨0, 0, 0⟩).serve.start0 = 37 := by decide
  have d1 : ((((FlS.new 10 2).arrive 7 ⟨0, 3, 0⟩).arrive 9 ⟨0, 1, 0⟩).arrive 9 ⟨0, 0, 0⟩).serve.has = true := by decide
  have d2 : ((((FlS.new 10 2).arrive 7 ⟨0, 3, 0⟩).arrive 9 ⟨0, 1, 0⟩).arrive 9 ⟨0, 0, 0⟩).serve.l.length = 1 := by decide
  generalize h0 : FlS.new 10 2 = x0 at *
  generalize h1 : x0.arrive 7 ⟨0, 3, 0⟩ = x1 at *
  generalize h2 : x1.arrive 9 ⟨0, 1, 0⟩ = x2 at *
  generalize h3 : x2.arrive 9 ⟨0, 0, 0⟩ = x3 at *
  have K0 := Lib.hid k0; have K1 := Lib.hid k1; have K2 := Lib.hid k2; have K3 := Lib.hid k3
  have A0 := Lib.hid a0; have A1 := Lib.hid a1; have A2 := Lib.hid a2
  have B0 := Lib.hid b0; have B1 := Lib.hid b1; have B2 := Lib.hid b2
  have D0 := Lib.hid d0; have D1 := Lib.hid d1; have D2 := Lib.hid d2
  have H0 := Lib.hid h0; have H1 := Lib.hid h1; have H2 := Lib.hid h2; have H3 := Lib.hid h3
  clear k0 k1 k2 k3 a0 a1 a2 b0 b1 b2 d0 d1 d2 h0 h1 h2 h3
  go_enter Try.func10, Try.ntmps10
  go_wp2_with fail
  refine (mineNew w.heap.size 10 2 _ (Nat.le_refl _)).mono ?_; rw [H0.out]; rintro e w1 ⟨b, rfl, M, hb⟩
  go_wp2_with fail
  refine (mineArrive w.heap.size b x0 7 ⟨0, 3, 0⟩ _ M K0.out).mono ?_; rw [A0.out, H1.out]; rintro e w2 ⟨rfl, M1, hb1⟩
  go_wp2_with fail
  refine (mineArrive w.heap.size b x1 9 ⟨0, 1, 0⟩ _ M1 K1.out).mono ?_; rw [A1.out, H2.out]; rintro e w3 ⟨rfl, M2, hb2⟩
  go_wp2_with fail
  refine (mineArrive w.heap.size b x2 9 ⟨0, 0, 0⟩ _ M2 K2.out).mono ?_; rw [A2.out, H3.out]; rintro e w4 ⟨rfl, M3, hb3⟩
  go_wp2_with fail
  refine (mineServe w.heap.size b x3 _ M3 K3.out).mono ?_; rw [B0.out, B1.out, B2.out]; rintro e w5 ⟨rfl, M4, hb4⟩; simp only [Pk.val]
  go_wp2_with fail
  have M5 := M4.below (below1 w5 (.cells #[.int .i64 0, .int .i64 3, .int .i64 0] 24))
  refine (start_any b x3.serve _ _ M5.2).mono ?_; rw [D0.out, D1.out]; rintro e w' ⟨rfl, rfl⟩
  go_wp2_with fail
  refine (len_any b x3.serve _ _ M5.2).mono ?_; rw [D2.out]; rintro e w' ⟨rfl, rfl⟩
  go_wp2_with fail
  go_ret
  exact ⟨rfl, (((((hb.trans hb1).trans hb2).trans hb3).trans hb4).alloc M4.1 _)⟩
end Go.Proofs.Ytgdfoibfmjkikaa
