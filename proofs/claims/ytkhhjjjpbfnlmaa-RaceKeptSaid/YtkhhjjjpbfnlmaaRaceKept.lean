/- RaceKept: the events that are handed in are not changed; who writes into clocks that were told changes nothing. -/
import Derived.Test.YtkhhjjjpbfnlmaaRaceQ
import Derived.Test.YtkhhjjjpbfnlmaaHelpE
namespace Go.Proofs.Ytkhhjjjpbfnlmaa
set_option linter.unusedVariables false
set_option linter.unusedSimpArgs false
open Go.RowKit Go.Proofs.YtkhhjjjpbfnlmaaMem Go.Proofs.YtkhhjjjpbfnlmaaFlat Go.Proofs.YtkhhjjjpbfnlmaaMapK

theorem OwnCs.grown {w w' : World} {base M b : Nat} {v : Value} {cs : List (List Int)} (h : OwnCs w base M v cs) (hg : w.grownBy w' (some b)) (hb : b < base) : OwnCs w' base M v cs := by
  obtain ⟨vs, h1, h2, h3, h4⟩ := h
  exact ⟨vs, owns_grown h1 hg (fun k hk e => by cases e; have := (owns_lt h1 b hk).1; omega), fun i hi => owns_grown (h2 i hi) hg (fun k hk e => by cases e; have := (owns_lt (h2 i hi) b hk).1; omega), h3, h4⟩

/-- Of the clocks those from k on are as they were told. -/
structure Left (w2 wr : World) (B M : Nat) (ac : Option Addr) (m cc : Nat) (vs : List Value) (cs : List (List Int)) (vw : Value) (g nE : Nat) (L : List EvS) (f : EvS) (k : Nat) : Prop where
  bel : Below B w2 wr
  outer : wr.ownsRow B 23 1 (.slice ac m cc) m vs
  inner : ∀ j, k ≤ j → j < m → wr.ownsRow B 3 1 (nthV vs j) (nthC cs j).length (ints (nthC cs j))
  want : OwnCs wr M wr.heap.size vw cs
  size : M ≤ wr.heap.size
theorem Left.below {w2 wr wr' : World} {B M : Nat} {ac : Option Addr} {m cc : Nat} {vs : List Value} {cs : List (List Int)} {vw : Value} {g nE : Nat} {L : List EvS} {f : EvS} {k : Nat} (h : Left w2 wr B M ac m cc vs cs vw g nE L f k) (hB : B ≤ wr.heap.size) (hb : Below wr.heap.size wr wr') : Left w2 wr' B M ac m cc vs cs vw g nE L f k :=
  ⟨h.bel.trans (hb.mono hB), owns_below (B := 0) h.outer hb, fun j h1 h2 => owns_below (B := 0) (h.inner j h1 h2) hb, (h.want.below hb).mono hb.size, Nat.le_trans h.size hb.size⟩
theorem Left.spoilt {w2 wr wr' : World} {B M : Nat} {ac : Option Addr} {m cc : Nat} {vs : List Value} {cs : List (List Int)} {vw : Value} {g nE : Nat} {L : List EvS} {f : EvS} {k : Nat} (h : Left w2 wr B M ac m cc vs cs vw g nE L f k) (hk : k < m) (hB : B ≤ wr.heap.size) (hg : wr.grownBy wr' (nthV vs k).ownBlock)
    (h3 : ∀ i q, i < m → (nthV vs i).ownBlock = some q → q < M) (h4 : ∀ i j q, i < m → j < m → i ≠ j → (nthV vs i).ownBlock = some q → (nthV vs j).ownBlock ≠ some q) : Left w2 wr' B M ac m cc vs cs vw g nE L f (k + 1) := by
  have hk0 := h.inner k (Nat.le_refl _) hk
  refine ⟨h.bel.grown hg hB (fun q hq => (owns_lt hk0 q hq).1), owns_grown h.outer hg (fun q hq e => tag_ne h.outer hk0 (by decide) q e hq), fun j h1 h2 => owns_grown (h.inner j (by omega) h2) hg (fun q hq e => h4 k j q hk h2 (by omega) e hq), ?_, Nat.le_trans h.size hg.size⟩
  cases hb : (nthV vs k).ownBlock with
  | none =>
    rw [hb] at hg
    obtain ⟨ws, o1, o2, o3, o4⟩ := h.want
    exact ⟨ws, owns_grown o1 hg (fun q hq e => by cases e), fun i hi => owns_grown (o2 i hi) hg (fun q hq e => by cases e), fun i q hi hq => Nat.lt_of_lt_of_le (o3 i q hi hq) hg.size, o4⟩
  | some b =>
    rw [hb] at hg
    exact (h.want.grown hg (h3 k b hk hb)).mono hg.size
theorem wrapA (k : Nat) (h : k ≤ 1000) : wrap64 ((k : Int) + 1) = (k : Int) + 1 := by unfold RowKit.wrap64; omega
theorem wrapB (k : Nat) (h : k ≤ 1000) : IntKind.i64.wrap ((k : Int) + 1) = (k : Int) + 1 := by rw [IntKind.wrap_i64]; omega
def nine : EvS := ⟨9, 0, 0, 0, 0⟩

set_option maxHeartbeats 2000000 in
theorem RaceKept_1 (ao at' : Option Addr) (n0 cap m0 capt : Nat) (l : List EvS) (ts : List Int) (w : World) (h : RdE w ao n0 cap l) (ht : RdI w at' m0 capt ts) :
    Calls Try.prog 10 #[.slice ao n0 cap, .slice at' m0 capt] w fun e w' => e = .returned (.bool true) ∧ Below w.heap.size w w' := by
  have hlen := longE_length l ts
  have hok := Lib.hid (longE_ok h.ok ts)
  have hfit := Lib.hid (allC_fits (longE l ts) (by omega))
  have h64 := Lib.hid (allC_64 (longE l ts))
  go_enter Try.func10, Try.ntmps10
  go_wp2_with fail
  refine (long_any ao at' n0 cap m0 capt l ts _ h ht).mono ?_
  rintro e w1 ⟨v, rfl, hown, hb1⟩
  obtain ⟨a, c, rfl⟩ := owns_slice hown
  have r1 := owns_rdE hown hok.out
  generalize longE l ts = L at *
  clear hown h ht
  obtain ⟨n, hq⟩ : ∃ n, L.length = n := ⟨_, rfl⟩
  rw [hq] at r1 hlen ⊢
  have HN := Lib.hid hq
  clear hq
  have hn : n ≤ 1000 := by omega
  go_wp2_with fail
  refine (ownE_any a n c L nine _ r1 hn).mono ?_
  rintro e w2 ⟨g, rfl, hg0, hg1, hO, hb2⟩
  have r2 := r1.below hb2
  have B2 := below_step hb1 hb2
  have ro2 := hO.rd hok.out
  clear r1 hb1 hb2 hg0
  obtain ⟨m, hm⟩ : ∃ m, (allC L).length = m := ⟨_, rfl⟩
  have HM := Lib.hid hm
  go_wp2_with fail
  refine (clocks_any _ n _ L _ ro2 hn).mono ?_
  rintro e w3 ⟨vc, rfl, ⟨vs, c1, c2, c3, c4⟩, hb3⟩
  obtain ⟨ac, cc, rfl⟩ := owns_slice c1
  rw [hm] at c1 c2 c3 c4 ⊢
  clear hm
  have r3 := r2.below hb3
  generalize hB : w2.heap.size = B at *
  generalize hM : w3.heap.size = M at *
  have hBM : B ≤ M := by have := hb3.size; omega
  go_wp2_with fail
  refine (refClocks_any a n c L _ r3 hn).mono ?_
  rintro e w4 ⟨vw, rfl, hwant, hb4⟩
  obtain ⟨aw, cw, rfl⟩ := hwant.slice
  rw [HM.out] at hwant ⊢
  rw [hM] at hwant hb4
  have hL4 : Left w2 w4 B M ac m cc vs (allC L) (.slice aw m cw) g n L nine 0 :=
    ⟨hb3.trans (hb4.mono hBM), owns_below (B := 0) c1 (by rw [hM]; exact hb4), fun j _ hj => owns_below (B := 0) (c2 j hj) (by rw [hM]; exact hb4), hwant, by have := hb4.size; omega⟩
  have d3 := OwnCs.rd (w := w4) (base := B) (M := M) (ao := ac) (n := m) (cap := cc) (cs := allC L) ⟨vs, by rw [HM.out]; exact hL4.outer, fun i hi => hL4.inner i (Nat.zero_le _) (by rw [HM.out] at hi; exact hi), fun i q hi hq => c3 i q (by rw [HM.out] at hi; exact hi) hq, fun i j q hi hj => c4 i j q (by rw [HM.out] at hi; exact hi) (by rw [HM.out] at hj; exact hj)⟩ hfit.out
  have d4 := hwant.rd hfit.out
  have h4s : M ≤ w4.heap.size := hL4.size
  have HL4 := Lib.hid hL4
  clear hL4 c1 c2 hwant r3
  go_wp2_with fail
  refine (awake_any _).mono ?_
  rintro e w5 ⟨rfl, hb5⟩
  have hL5 := HL4.out.below (by omega) hb5
  go_wp2_with fail
  refine (clocksEq_any ac aw _ cc _ cw _ _ _ (d3.below hb5) (d4.below hb5)).mono ?_
  rw [eqC_same]
  rintro e w6 ⟨rfl, hb6⟩
  have hL6 := hL5.below (by have := hb5.size; omega) hb6
  have h6s : M ≤ w6.heap.size := hL6.size
  have HL6 := Lib.hid hL6
  have HC3 := Lib.hid c3
  have HC4 := Lib.hid c4
  clear hL5 hL6 HL4 d3 d4 hb5 hb6 hb4 h4s c3 c4
  have mv : vs.length = m := by have := HL6.out.outer.1; omega
  have hm9 : m ≤ 1000 := by have := allC_le L; rw [HM.out, HN.out] at this; omega
  go_wp2_with fail
  go_loopw [9] (fun i wr => ∃ k : Nat, k ≤ m ∧ i = .int .i64 k ∧ Left w2 wr B M ac m cc vs (allC L) (.slice aw m cw) g n L nine k) (fun i _ => m - (intOf i).toNat)
  case atStart => exact ⟨0, Nat.zero_le _, rfl, HL6.out⟩
  case round =>
    obtain ⟨k, hk, rfl, hL⟩ := hrel
    have hMr := hL.size
    by_cases hl : k < m
    · have hrow := hL.inner k (Nat.le_refl _) hl
      obtain ⟨g1, rfl, _, hgl, hcell⟩ := owns_at hL.outer (nthV_some (show k < vs.length by omega))
      rw [Nat.zero_add] at hcell
      obtain ⟨ai, ci, hvi⟩ := owns_slice hrow
      rw [hvi] at hcell
      have km : (k : Int) < m := by omega
      have HLr := Lib.hid hL
      have hrow' := hrow
      rw [hvi] at hrow'
      clear hL hrow
      go_wp2_with fail
      refine (spoilI_any _ _ B _ _ hrow').mono ?_
      rintro e w7 ⟨rfl, hg7⟩
      have hL7 := HLr.out.spoilt hl (by omega) (by rw [hvi]; exact hg7) HC3.out HC4.out
      have h7s := hL7.size
      by_cases hl2 : k + 1 < m
      · have hr1 := hL7.inner (k + 1) (Nat.le_refl _) hl2
        obtain ⟨g2, e2, _, hgl2, hcell2⟩ := owns_at hL7.outer (nthV_some (show k + 1 < vs.length by omega))
        cases e2
        rw [Nat.zero_add] at hcell2
        obtain ⟨ai2, ci2, hvi2⟩ := owns_slice hr1
        rw [hvi2] at hcell2 hr1
        have hfk : ∀ z ∈ nthC (allC L) (k + 1), I64 z := by
          intro z hz; exact hfit.out _ (mem_nthC hz) z hz
        have hri1 := owns_rdI hr1 hfk
        have dw := hL7.want.rd hfit.out
        obtain ⟨gw, ow, aj, cj, rfl, hlw, hcw, hrj⟩ := dw.at_ (k + 1) hl2
        have km2 : ((k : Int) + 1) < (m : Int) := by omega
        have kp : (0 : Int) ≤ (k : Int) + 1 := by omega
        have hkk : k ≤ 1000 := by omega
        have hw64 := wrapA k hkk
        have hwi64 := wrapB k hkk
        have dk : decide ((k : Int) + 1 < (m : Int)) = true := decide_eq_true km2
        have HL7 := Lib.hid hL7
        have heq := eqI_same (nthC (allC L) (k + 1))
        clear hL7 hr1
        go_wp2_with fail
        go_region_held3 (fun w' => Below w7.heap.size w7 w' ∧ (∀ b o, b < w7.heap.size → w'.cell? ⟨b, o, none⟩ = w7.cell? ⟨b, o, none⟩)) (first | exact hs_refl ((Below.refl _ _).drew) | assumption | exact hs_step (by assumption) (by assumption))
          (first | (go_at_call 28; (with_reducible refine (plainI_any ai2 aj _ ci2 _ cj _ _ _ (hri1.held (by assumption)) (hrj.held (by assumption))).mono ?_); rw [heq]; rintro e w' ⟨rfl, hb'⟩))
        go_wp2
        clear hw64 hwi64
        have hB7 : B ≤ w7.heap.size := by omega
        go_roundw
        case rel => exact ⟨k + 1, by omega, by go_num, HL7.out.below hB7 (‹Below w7.heap.size w7 _ ∧ _›).1⟩
        case measure => simp [intOf]; omega
      · have km2 : ¬ ((k : Int) + 1) < (m : Int) := by omega
        have kp : (0 : Int) ≤ (k : Int) + 1 := by omega
        have hkk : k ≤ 1000 := by omega
        have hw64 := wrapA k hkk
        have hwi64 := wrapB k hkk
        have dk : decide ((k : Int) + 1 < (m : Int)) = false := decide_eq_false km2
        have HL7 := Lib.hid hL7
        clear hL7
        go_wp2_with fail
        go_region
        go_wp2
        clear hw64 hwi64
        have hB7 : B ≤ w7.heap.size := by omega
        go_roundw
        case rel => exact ⟨k + 1, by omega, by go_num, HL7.out.below hB7 ((Below.refl _ _).drew)⟩
        case measure => simp [intOf]; omega
    · obtain rfl : k = m := by omega
      have hMr := hL.size
      have BW : Below w.heap.size w wr := B2.trans (hL.bel.mono (by have := B2.size; omega))
      have re := r2.below (by rw [hB]; exact hL.bel)
      have ro := ro2.below (by rw [hB]; exact hL.bel)
      have hOr := hO.below (by rw [hB]; exact hL.bel)
      have dw := hL.want.rd hfit.out
      clear hL hMr HL6 hO r2 ro2
      go_wp2_with fail
      refine (first_any _ n _ L _ ro hn).mono ?_
      obtain ⟨f1, f2, f3, hxyz⟩ : ∃ (x y : Int) (z : Bool), resF (firstR L) = .tuple #[.int .i64 x, .int .i64 y, .bool z] := by
        cases firstR L with
        | none => exact ⟨_, _, _, rfl⟩
        | some r => exact ⟨_, _, _, rfl⟩
      rw [hxyz]
      rintro e w8 ⟨rfl, hb8⟩
      go_wp2_with fail
      refine (before_any _ n _ L 0 1 _ (ro.below hb8) hn).mono ?_
      rintro e w9 ⟨rfl, hb9⟩
      have hb89 := below_step hb8 hb9
      go_wp2_with fail
      refine (keptE_any g n a c L nine _ (hOr.below hb89) (re.below hb89) hn).mono ?_
      rintro e w10 ⟨rfl, hb10⟩
      have hb810 := below_step hb89 hb10
      go_wp2_with fail
      refine (clocks_any _ n _ L _ (ro.below hb810) hn).mono ?_
      rintro e w11 ⟨v11, rfl, hown11, hb11⟩
      obtain ⟨a11, c11, rfl⟩ := hown11.slice
      have d11 := hown11.rd hfit.out
      have hb811 := below_step hb810 hb11
      go_wp2_with fail
      refine (clocksEq_any a11 aw _ c11 _ cw _ _ _ d11 (dw.below hb811)).mono ?_
      rw [eqC_same]
      rintro e w12 ⟨rfl, hb12⟩
      go_wp2
      go_ret
      exact ⟨rfl, below_step BW (below_step hb811 hb12)⟩

theorem RaceKept_any (w : World) (ao : Option Addr) (n cap : Nat) (L : List (List Value)) (h : IsRows w [.int .i64, .int .i64, .int .i64, .int .i64, .int .i64] ao n cap L) (a1 : Option Addr) (n1 c1 : Nat) (L1 : List (List Value)) (h1 : IsRows w [.int .i64] a1 n1 c1 L1) :
    Calls Try.prog 10 #[.slice ao n cap, .slice a1 n1 c1] w fun e w' => e = .returned (.bool true) ∧ Below w.heap.size w w' := by
  obtain ⟨l, r⟩ := isRows_rdE h
  obtain ⟨ts, r1⟩ := isRows_rdI h1
  exact RaceKept_1 ao a1 n cap n1 c1 l ts w r r1
end Go.Proofs.Ytkhhjjjpbfnlmaa
