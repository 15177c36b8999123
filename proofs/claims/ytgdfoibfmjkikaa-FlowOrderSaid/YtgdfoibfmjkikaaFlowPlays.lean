/- FlowPlays. -/
import Derived.Test.YtgdfoibfmjkikaaFlowA
namespace Go.Proofs.Ytgdfoibfmjkikaa
set_option linter.unusedVariables false
set_option linter.unusedSimpArgs false
open Go.RowKit Go.Proofs.YtgdfoibfmjkikaaMem Go.Proofs.YtgdfoibfmjkikaaFlat

/-- Both flows, all of whose blocks were made since the base. -/
def MineT (base : Nat) (w : World) (bf bx : Nat) (x : FlS) : Prop := base ≤ w.heap.size ∧ x.Ok ∧ TwoAt w bf bx x (fun k => base ≤ k ∧ k < w.heap.size)
theorem MineT.below {base : Nat} {w w' : World} {bf bx : Nat} {x : FlS} (h : MineT base w bf bx x) (hb : Below w.heap.size w w') : MineT base w' bf bx x :=
  ⟨Nat.le_trans h.1 hb.size, h.2.1, (h.2.2.below hb).mono (fun k hk => ⟨hk.1, Nat.lt_of_lt_of_le hk.2 hb.size⟩) (fun k hk => hk.2)⟩
theorem TwoPost.mine {base : Nat} {w w' : World} {bf bx : Nat} {x' : FlS} (hb : base ≤ w.heap.size) (ok : x'.Ok) (p : TwoPost bf bx x' (fun k => base ≤ k ∧ k < w.heap.size) w w') : MineT base w' bf bx x' ∧ Below base w w' := by
  have s := p.2.size
  refine ⟨⟨by omega, ok, p.1.mono (fun k hk => ?_) (fun k hk => hk.2)⟩, p.2.below (fun k hk => hk.1) hb⟩
  rcases hk with hk | hk
  · exact ⟨hk.1, by omega⟩
  · exact ⟨by omega, hk.2⟩
theorem mineStep (base bf bx : Nat) (x : FlS) (a : ActS) (w : World) (h : MineT base w bf bx x) (ha : a.Ok) :
    Calls Try.prog 18 #[.pointer (some ⟨bf, 0, none⟩), .pointer (some ⟨bx, 0, none⟩), .agg #[.int .i64 a.kind, .int .u64 a.v, .int .i64 a.p.flow, .int .i64 a.p.len, .int .i64 a.p.mark]] w fun e w' => e = .returned (.bool true) ∧ MineT base w' bf bx (x.act a) ∧ Below base w w' :=
  (step_any bf bx x _ a w h.2.2 h.2.1 ha).mono fun e w' hh => ⟨hh.1, hh.2.mine h.1 (FlS.act_ok h.2.1 ha)⟩
theorem mineLooks (base bf bx : Nat) (x : FlS) (w : World) (h : MineT base w bf bx x) :
    Calls Try.prog 17 #[.pointer (some ⟨bf, 0, none⟩), .pointer (some ⟨bx, 0, none⟩)] w fun e w' => e = .returned (.bool true) ∧ Below w.heap.size w w' := looks_any bf bx x _ w h.2.2 h.2.1
def MadeT (x : FlS) (w : World) (e : Ending) (w' : World) : Prop := ∃ bf bx, e = .returned (.tuple #[.pointer (some ⟨bf, 0, none⟩), .pointer (some ⟨bx, 0, none⟩)]) ∧ MineT w.heap.size w' bf bx x ∧ Below w.heap.size w w'
theorem mineMade (r m : Int) (hr : W64 r) (w : World) : Calls Try.prog 14 #[.int .u64 r, .int .i64 m] w (MadeT (FlS.new (madeR r) (madeMost m)) w) :=
  (made_any r m hr w).mono fun e w' ⟨bf, bx, he, h, hb⟩ => ⟨bf, bx, he, ⟨hb.size, FlS.new_ok (madeR_w64 hr), h⟩, hb⟩
theorem MineT.one {base : Nat} {w : World} {bf bx : Nat} {x : FlS} (h : MineT base w bf bx x) : Mine base w bf x := by
  obtain ⟨h0, _, Ff, Fx, h1, h2, h3, h4, h5, h6⟩ := h
  exact ⟨h0, h1.mono h4 h6⟩

set_option maxHeartbeats 1000000 in
theorem plays_in (r m : Int) (ao : Option Addr) (n cap : Nat) (l : List ActS) (w : World) (hr : W64 r) (h : RdA w ao n cap l) :
    Calls Try.prog 5 #[.int .u64 r, .int .i64 m, .slice ao n cap] w fun e w' => e = .returned (.bool true) ∧ Below w.heap.size w w' := by
  have HS := Lib.hid h.small
  have hs := h.small
  go_enter Try.func5, Try.ntmps5
  go_wp2_with fail
  refine (mineMade r m hr _).mono ?_
  rintro e w1 ⟨bf, bx, rfl, M, T⟩
  go_wp2_with fail
  refine (awakeF_any _).mono ?_
  rintro e w2 ⟨rfl, hb2⟩
  replace M := M.below hb2
  replace T := T.trans (hb2.mono T.size)
  go_wp2_with fail
  refine (mineLooks w.heap.size bf bx _ _ M).mono ?_
  rintro e w3 ⟨rfl, hb3⟩
  replace M := M.below hb3
  replace T := T.trans (hb3.mono T.size)
  go_wp2_with fail
  go_loopw [9] (fun v wr => ∃ (k : Nat) (x : FlS), k ≤ n ∧ k ≤ 80 ∧ v = .int .i64 k ∧ MineT w.heap.size wr bf bx x ∧ Below w.heap.size w wr) (fun v _ => (80 - intOf v).toNat)
  case atStart => exact ⟨0, _, Nat.zero_le _, Nat.zero_le _, rfl, M, T⟩
  case round =>
    obtain ⟨k, x, hk, hk8, rfl, Mk, Tk⟩ := hrel
    by_cases hl : k < n
    · have i1 : (k : Int) < (n : Int) := by omega
      by_cases h8 : k < 80
      · have i2 : (k : Int) < 80 := by omega
        have ha := h.nth_ok k
        obtain ⟨bl, off, rfl, hbl, hc⟩ := (h.below Tk).at_ k hl
        have q0 := hc 0 _ rfl
        have q1 := hc 1 _ rfl
        have q2 := hc 2 _ rfl
        have q3 := hc 3 _ rfl
        have q4 := hc 4 _ rfl
        simp only [Nat.add_zero] at q0
        go_wp2_with fail
        refine (mineStep w.heap.size bf bx x (nthA l k) _ Mk ha).mono ?_
        rintro e w4 ⟨rfl, M4, hb4⟩
        have T4 := Tk.trans hb4
        go_wp2_with fail
        refine (mineLooks w.heap.size bf bx _ _ M4).mono ?_
        rintro e w5 ⟨rfl, hb5⟩
        go_wp2_with fail
        go_roundw
        case rel => exact ⟨k + 1, _, hl, h8, by go_num, M4.below hb5, T4.trans (hb5.mono T4.size)⟩
        case measure => simp [intOf]; omega
      · have i2 : 80 ≤ (k : Int) := by omega
        go_wp2
        go_ret
        exact ⟨rfl, Tk⟩
    · have i1 : (n : Int) ≤ (k : Int) := by omega
      go_wp2
      go_ret
      exact ⟨rfl, Tk⟩

theorem FlowPlays_any (w : World) (r : Int) (w0 : (Lit.int .u64 r).wf = true) (m : Int) (w1 : (Lit.int .i64 m).wf = true) (ao : Option Addr) (n cap : Nat) (L : List (List Value)) (w2 : IsRows w [.int .i64, .int .u64, .int .i64, .int .i64, .int .i64] ao n cap L) :
    Calls Try.prog 5 #[.int .u64 r, .int .i64 m, .slice ao n cap] w fun e w' => e = .returned (.bool true) ∧ Below w.heap.size w w' := by
  obtain ⟨l, h⟩ := isRows_rdA w2
  exact plays_in r m ao n cap l w (wf_u64 w0) h
end Go.Proofs.Ytgdfoibfmjkikaa
