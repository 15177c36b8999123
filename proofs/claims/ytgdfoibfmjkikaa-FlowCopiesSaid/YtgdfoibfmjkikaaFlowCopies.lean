/- FlowCopies. -/
import Derived.Test.YtgdfoibfmjkikaaFlowRises
namespace Go.Proofs.Ytgdfoibfmjkikaa
set_option linter.unusedVariables false
set_option linter.unusedSimpArgs false
open Go.RowKit Go.Proofs.YtgdfoibfmjkikaaMem Go.Proofs.YtgdfoibfmjkikaaFlat

/-- Two pairs, apart. -/
def Quad (base : Nat) (w : World) (bf bx : Nat) (x : FlS) (bg b2 : Nat) (y : FlS) : Prop :=
  base ≤ w.heap.size ∧ x.Ok ∧ y.Ok ∧ ∃ F G, TwoAt w bf bx x F ∧ TwoAt w bg b2 y G ∧ (∀ k, F k → ¬ G k) ∧ (∀ k, F k → base ≤ k) ∧ (∀ k, G k → base ≤ k)
theorem Quad.symm {base : Nat} {w : World} {bf bx : Nat} {x : FlS} {bg b2 : Nat} {y : FlS} (h : Quad base w bf bx x bg b2 y) : Quad base w bg b2 y bf bx x := by
  obtain ⟨h0, h1, h2, F, G, h3, h4, h5, h6, h7⟩ := h
  exact ⟨h0, h2, h1, G, F, h4, h3, fun k hk hk2 => h5 k hk2 hk, h7, h6⟩
theorem Quad.below {base : Nat} {w w' : World} {bf bx : Nat} {x : FlS} {bg b2 : Nat} {y : FlS} (h : Quad base w bf bx x bg b2 y) (hb : Below w.heap.size w w') : Quad base w' bf bx x bg b2 y := by
  obtain ⟨h0, h1, h2, F, G, h3, h4, h5, h6, h7⟩ := h
  exact ⟨Nat.le_trans h0 hb.size, h1, h2, F, G, h3.below hb, h4.below hb, h5, h6, h7⟩
theorem quadStep (base bf bx : Nat) (x : FlS) (bg b2 : Nat) (y : FlS) (a : ActS) (w : World) (h : Quad base w bf bx x bg b2 y) (ha : a.Ok) :
    Calls Try.prog 18 #[.pointer (some ⟨bf, 0, none⟩), .pointer (some ⟨bx, 0, none⟩), .agg #[.int .i64 a.kind, .int .u64 a.v, .int .i64 a.p.flow, .int .i64 a.p.len, .int .i64 a.p.mark]] w fun e w' => e = .returned (.bool true) ∧ Quad base w' bf bx (x.act a) bg b2 y ∧ Below base w w' := by
  obtain ⟨h0, h1, h2, F, G, h3, h4, h5, h6, h7⟩ := h
  refine (step_any bf bx x F a w h3 h1 ha).mono fun e w' hh => ⟨hh.1, ⟨?_, FlS.act_ok h1 ha, h2, Ext F w w', G, hh.2.1, h4.fr hh.2.2 (fun k hk hk2 => h5 k hk2 hk), ?_, ?_, h7⟩, hh.2.2.below h6 h0⟩
  · have := hh.2.2.size; omega
  · intro k hk hk2
    rcases hk with hk | hk
    · exact h5 k hk hk2
    · have := h4.lt k hk2; omega
  · intro k hk
    rcases hk with hk | hk
    · exact h6 k hk
    · omega
theorem quadStep2 (base bf bx : Nat) (x : FlS) (bg b2 : Nat) (y : FlS) (a : ActS) (w : World) (h : Quad base w bf bx x bg b2 y) (ha : a.Ok) :
    Calls Try.prog 18 #[.pointer (some ⟨bg, 0, none⟩), .pointer (some ⟨b2, 0, none⟩), .agg #[.int .i64 a.kind, .int .u64 a.v, .int .i64 a.p.flow, .int .i64 a.p.len, .int .i64 a.p.mark]] w fun e w' => e = .returned (.bool true) ∧ Quad base w' bf bx x bg b2 (y.act a) ∧ Below base w w' :=
  (quadStep base bg b2 y bf bx x a w h.symm ha).mono fun e w' hh => ⟨hh.1, hh.2.1.symm, hh.2.2⟩
theorem quadLooks (base bf bx : Nat) (x : FlS) (bg b2 : Nat) (y : FlS) (w : World) (h : Quad base w bf bx x bg b2 y) :
    Calls Try.prog 17 #[.pointer (some ⟨bf, 0, none⟩), .pointer (some ⟨bx, 0, none⟩)] w fun e w' => e = .returned (.bool true) ∧ Below w.heap.size w w' := by
  obtain ⟨h0, h1, h2, F, G, h3, h4, h5, h6, h7⟩ := h
  exact looks_any bf bx x F w h3 h1
theorem quad_of {base : Nat} {w w1 w2 : World} {bf bx : Nat} {x : FlS} {bg b2 : Nat} (h : MineT base w bf bx x) (h1 : FlowAt w1 bg x (fun k => w.heap.size ≤ k ∧ k < w1.heap.size)) (hb1 : Below w.heap.size w w1)
    (h2 : RefAt w2 b2 0 x (fun k => w1.heap.size ≤ k ∧ k < w2.heap.size)) (hb2 : Below w1.heap.size w1 w2) : Quad base w2 bf bx x bg b2 x := by
  have s1 := hb1.size
  have s2 := hb2.size
  have s0 := h.1
  exact ⟨by omega, h.2.1, h.2.1, _, (fun k => w.heap.size ≤ k ∧ k < w2.heap.size), (h.2.2.below hb1).below hb2, ⟨_, _, h1.below hb2, h2, fun k hk hk2 => by omega, fun k hk => ⟨hk.1, by omega⟩, fun k hk => ⟨by omega, hk.2⟩, fun k hk => hk.2⟩, fun k hk hk2 => by omega, fun k hk => hk.1, fun k hk => by omega⟩

set_option maxHeartbeats 1000000 in
theorem copies_in (r m : Int) (a0 : Option Addr) (n0 c0 : Nat) (l0 : List ActS) (a1 : Option Addr) (n1 c1 : Nat) (l1 : List ActS) (a2 : Option Addr) (n2 c2 : Nat) (l2 : List ActS) (w : World) (hr : W64 r) (h0 : RdA w a0 n0 c0 l0) (h1 : RdA w a1 n1 c1 l1) (h2 : RdA w a2 n2 c2 l2) :
    Calls Try.prog 8 #[.int .u64 r, .int .i64 m, .slice a0 n0 c0, .slice a1 n1 c1, .slice a2 n2 c2] w fun e w' => e = .returned (.bool true) ∧ Below w.heap.size w w' := by
  have hs0 := h0.small
  have hs1 := h1.small
  have hs2 := h2.small
  go_enter Try.func8, Try.ntmps8
  go_wp2_with fail
  refine (mineMade r m hr _).mono ?_
  rintro e w1 ⟨bf, bx, rfl, M, T⟩
  go_wp2_with fail
  refine (awakeF_any _).mono ?_
  rintro e w2 ⟨rfl, hb2⟩
  replace M := M.below hb2
  replace T := T.trans (hb2.mono T.size)
  go_wp2_with fail
  go_loopw [13] (fun v wr => ∃ (k : Nat) (x : FlS), k ≤ n0 ∧ k ≤ 40 ∧ v = .int .i64 k ∧ MineT w.heap.size wr bf bx x ∧ Below w.heap.size w wr) (fun v _ => (40 - intOf v).toNat)
  case atStart => exact ⟨0, _, Nat.zero_le _, Nat.zero_le _, rfl, M, T⟩
  case round =>
    obtain ⟨k, x, hk, hk8, rfl, Mk, Tk⟩ := hrel
    clear M T
    by_cases hlx : k < n0 ∧ k < 40
    · obtain ⟨hl, h8⟩ := hlx
      have i1 : (k : Int) < (n0 : Int) := by omega
      have i2 : (k : Int) < 40 := by omega
      have ha := h0.nth_ok k
      obtain ⟨bl, off, e0, hbl, -⟩ := (h0.below Tk).at_ k hl
      obtain ⟨q0, q1, q2, q3, q4⟩ := h0.cells5 hl e0 Tk
      subst e0
      go_wp2_with fail
      refine (mineStep w.heap.size bf bx x (nthA l0 k) _ Mk ha).mono ?_
      rintro e w4 ⟨rfl, M4, hb4⟩
      go_wp2_with fail
      go_roundw
      case rel => exact ⟨k + 1, _, hl, h8, by go_num, M4, Tk.trans hb4⟩
      case measure => simp [intOf]; omega
    · have i3 : (n0 : Int) ≤ (k : Int) ∨ (k : Int) < (n0 : Int) ∧ 40 ≤ (k : Int) := by omega
      rcases i3 with i1 | ⟨i1, i2⟩
      all_goals
        go_wp2_with fail
        refine (copy_any bf x _ _ Mk.one.2 Mk.2.1).mono ?_
        rintro e w5 ⟨bg, rfl, C, hb5⟩
        have Rx : ∃ Fx, RefAt w5 bx 0 x Fx := by
          obtain ⟨_, _, Ff, Fx, _, h2, _⟩ := Mk
          exact ⟨Fx, h2.below hb5⟩
        obtain ⟨Fx, Rx⟩ := Rx
        go_wp2_with fail
        refine (refCopy_any bx 0 x Fx _ Rx Mk.2.1).mono ?_
        rintro e w6 ⟨b2, rfl, C2, hb6⟩
        have Q := quad_of Mk C hb5 C2 hb6
        have T6 := (Tk.trans (hb5.mono Tk.size)).trans (hb6.mono (by have := Tk.size; have := hb5.size; omega))
        clear Mk C Rx C2 hb5 hb6
        go_wp2_with fail
        refine (quadLooks w.heap.size bg b2 x bf bx x _ Q.symm).mono ?_
        rintro e w7 ⟨rfl, hb7⟩
        replace Q := Q.below hb7
        replace T6 := T6.trans (hb7.mono T6.size)
        go_wp2_with fail
        go_loopw [16] (fun v wr => ∃ (i : Nat) (x y : FlS), i ≤ 40 ∧ v = .int .i64 i ∧ Quad w.heap.size wr bf bx x bg b2 y ∧ Below w.heap.size w wr) (fun v _ => (40 - intOf v).toNat)
        case atStart => exact ⟨0, x, x, Nat.zero_le _, rfl, Q, T6⟩
        case round =>
          obtain ⟨i, x, y, hi, rfl, Qi, Ti⟩ := hrel
          clear Q T6
          by_cases h8 : i < 40
          · have i9 : (i : Int) < 40 := by omega
            by_cases hl1 : i < n1
            · have j1 : (i : Int) < (n1 : Int) := by omega
              by_cases hl2 : i < n2
              · have j2 : (i : Int) < (n2 : Int) := by omega
                have ha := h1.nth_ok i
                obtain ⟨bl1, off1, e1, hbl1, -⟩ := (h1.below Ti).at_ i hl1
                obtain ⟨q0, q1, q2, q3, q4⟩ := h1.cells5 hl1 e1 Ti
                subst e1
                go_wp2_with fail
                refine (quadStep w.heap.size bf bx x bg b2 y (nthA l1 i) _ Qi ha).mono ?_
                rintro e w8 ⟨rfl, Q8, hb8⟩
                replace Ti := Ti.trans hb8
                replace Qi := Q8
                clear Q8 hb8 q0 q1 q2 q3 q4 hbl1
                have ha := h2.nth_ok i
                obtain ⟨bl2, off2, e2, hbl2, -⟩ := (h2.below Ti).at_ i hl2
                obtain ⟨q0, q1, q2, q3, q4⟩ := h2.cells5 hl2 e2 Ti
                subst e2
                go_wp2_with fail
                refine (quadStep2 w.heap.size bf bx _ bg b2 y (nthA l2 i) _ Qi ha).mono ?_
                rintro e w8 ⟨rfl, Q8, hb8⟩
                replace Ti := Ti.trans hb8
                replace Qi := Q8
                clear Q8 hb8 q0 q1 q2 q3 q4 hbl2
                go_wp2_with fail
                refine (quadLooks w.heap.size bf bx _ bg b2 _ _ Qi).mono ?_
                rintro e w9 ⟨rfl, hb9⟩
                replace Qi := Qi.below hb9
                replace Ti := Ti.trans (hb9.mono Ti.size)
                go_wp2_with fail
                refine (quadLooks w.heap.size bg b2 _ bf bx _ _ Qi.symm).mono ?_
                rintro e w10 ⟨rfl, hb10⟩
                replace Qi := Qi.below hb10
                replace Ti := Ti.trans (hb10.mono Ti.size)
                go_wp2_with fail
                go_roundw
                case rel => exact ⟨i + 1, _, _, h8, by go_num, Qi, Ti⟩
                case measure => simp [intOf]; omega
              · have j2 : (n2 : Int) ≤ (i : Int) := by omega
                have ha := h1.nth_ok i
                obtain ⟨bl1, off1, e1, hbl1, -⟩ := (h1.below Ti).at_ i hl1
                obtain ⟨q0, q1, q2, q3, q4⟩ := h1.cells5 hl1 e1 Ti
                subst e1
                go_wp2_with fail
                refine (quadStep w.heap.size bf bx x bg b2 y (nthA l1 i) _ Qi ha).mono ?_
                rintro e w8 ⟨rfl, Q8, hb8⟩
                replace Ti := Ti.trans hb8
                replace Qi := Q8
                clear Q8 hb8 q0 q1 q2 q3 q4 hbl1
                go_wp2_with fail
                refine (quadLooks w.heap.size bf bx _ bg b2 _ _ Qi).mono ?_
                rintro e w9 ⟨rfl, hb9⟩
                replace Qi := Qi.below hb9
                replace Ti := Ti.trans (hb9.mono Ti.size)
                go_wp2_with fail
                refine (quadLooks w.heap.size bg b2 _ bf bx _ _ Qi.symm).mono ?_
                rintro e w10 ⟨rfl, hb10⟩
                replace Qi := Qi.below hb10
                replace Ti := Ti.trans (hb10.mono Ti.size)
                go_wp2_with fail
                go_roundw
                case rel => exact ⟨i + 1, _, _, h8, by go_num, Qi, Ti⟩
                case measure => simp [intOf]; omega
            · have j1 : (n1 : Int) ≤ (i : Int) := by omega
              by_cases hl2 : i < n2
              · have j2 : (i : Int) < (n2 : Int) := by omega
                have ha := h2.nth_ok i
                obtain ⟨bl2, off2, e2, hbl2, -⟩ := (h2.below Ti).at_ i hl2
                obtain ⟨q0, q1, q2, q3, q4⟩ := h2.cells5 hl2 e2 Ti
                subst e2
                go_wp2_with fail
                refine (quadStep2 w.heap.size bf bx _ bg b2 y (nthA l2 i) _ Qi ha).mono ?_
                rintro e w8 ⟨rfl, Q8, hb8⟩
                replace Ti := Ti.trans hb8
                replace Qi := Q8
                clear Q8 hb8 q0 q1 q2 q3 q4 hbl2
                go_wp2_with fail
                refine (quadLooks w.heap.size bf bx _ bg b2 _ _ Qi).mono ?_
                rintro e w9 ⟨rfl, hb9⟩
                replace Qi := Qi.below hb9
                replace Ti := Ti.trans (hb9.mono Ti.size)
                go_wp2_with fail
                refine (quadLooks w.heap.size bg b2 _ bf bx _ _ Qi.symm).mono ?_
                rintro e w10 ⟨rfl, hb10⟩
                replace Qi := Qi.below hb10
                replace Ti := Ti.trans (hb10.mono Ti.size)
                go_wp2_with fail
                go_roundw
                case rel => exact ⟨i + 1, _, _, h8, by go_num, Qi, Ti⟩
                case measure => simp [intOf]; omega
              · have j2 : (n2 : Int) ≤ (i : Int) := by omega
                go_wp2_with fail
                refine (quadLooks w.heap.size bf bx _ bg b2 _ _ Qi).mono ?_
                rintro e w9 ⟨rfl, hb9⟩
                replace Qi := Qi.below hb9
                replace Ti := Ti.trans (hb9.mono Ti.size)
                go_wp2_with fail
                refine (quadLooks w.heap.size bg b2 _ bf bx _ _ Qi.symm).mono ?_
                rintro e w10 ⟨rfl, hb10⟩
                replace Qi := Qi.below hb10
                replace Ti := Ti.trans (hb10.mono Ti.size)
                go_wp2_with fail
                go_roundw
                case rel => exact ⟨i + 1, _, _, h8, by go_num, Qi, Ti⟩
                case measure => simp [intOf]; omega
          · have i9 : 40 ≤ (i : Int) := by omega
            go_wp2
            go_ret
            exact ⟨rfl, Ti⟩

theorem FlowCopies_any (w : World) (r : Int) (w0 : (Lit.int .u64 r).wf = true) (m : Int) (w1 : (Lit.int .i64 m).wf = true)
    (a0 : Option Addr) (n0 c0 : Nat) (L0 : List (List Value)) (k0 : IsRows w [.int .i64, .int .u64, .int .i64, .int .i64, .int .i64] a0 n0 c0 L0)
    (a1 : Option Addr) (n1 c1 : Nat) (L1 : List (List Value)) (k1 : IsRows w [.int .i64, .int .u64, .int .i64, .int .i64, .int .i64] a1 n1 c1 L1)
    (a2 : Option Addr) (n2 c2 : Nat) (L2 : List (List Value)) (k2 : IsRows w [.int .i64, .int .u64, .int .i64, .int .i64, .int .i64] a2 n2 c2 L2) :
    Calls Try.prog 8 #[.int .u64 r, .int .i64 m, .slice a0 n0 c0, .slice a1 n1 c1, .slice a2 n2 c2] w fun e w' => e = .returned (.bool true) ∧ Below w.heap.size w w' := by
  obtain ⟨l0, h0⟩ := isRows_rdA k0
  obtain ⟨l1, h1⟩ := isRows_rdA k1
  obtain ⟨l2, h2⟩ := isRows_rdA k2
  exact copies_in r m a0 n0 c0 l0 a1 n1 c1 l1 a2 n2 c2 l2 w (wf_u64 w0) h0 h1 h2
end Go.Proofs.Ytgdfoibfmjkikaa
