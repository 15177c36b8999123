/- SfqFair. -/
import Derived.Test.YtnanalaienlbpaaFairM
import Derived.Test.YtnanalaienlbpaaPlayMod
import Derived.Deep.CutRange
import Derived.Deep.RegionHeld3
import Derived.Deep.RegionWith
import Derived.StillTailTactics
namespace Go.Proofs.Ytnanalaienlbpaa
set_option linter.unusedVariables false
set_option linter.unusedSimpArgs false
set_option maxRecDepth 20000
open Go.RowKit Go.Proofs.YtnanalaienlbpaaMem Go.Proofs.YtnanalaienlbpaaFlat Go.Proofs.YtnanalaienlbpaaMapK

def fx0 (r q : Int) : Nat → FlS := fun f => if f = 1 then FlS.new r 2 else if f = 2 then FlS.new q 2 else FlS.new (1 + r % 7) 8
theorem fair_ok {v most : Int} {xs : Nat → FlS} (h : (fairS v most xs).Ok) {f : Nat} (h1 : 1 ≤ f) (h3 : f ≤ 3) : (xs f).Ok := by
  refine h.fs ((f : Int), xs f) ?_
  rcases (show f = 1 ∨ f = 2 ∨ f = 3 by omega) with rfl | rfl | rfl <;> simp [fairS]
theorem FlS.has_of {x : FlS} (h : x.l ≠ []) : x.has = true := by
  unfold FlS.has
  cases hx : x.l with
  | nil => exact absurd hx h
  | cons _ _ => rfl
theorem head_len {x : FlS} (ok : x.Ok) : x.head.len ≤ 9223372036854775807 := by
  unfold FlS.head
  cases hx : x.l with
  | nil => exact (by decide : (0 : Int) ≤ 9223372036854775807)
  | cons p rest => have h := (ok.pk p (by rw [hx]; exact List.mem_cons_self ..)).2.1; unfold I64 at h; exact h.2
theorem fx0_start (r q : Int) : ((SfS.new.add 1 r 2).add 2 q 2).add 3 (1 + r % 7) 8 = fairS 0 0 (fx0 r q) := rfl
theorem fx0_get (r q : Int) : (getF SfS.new.fs 1).isSome = false ∧ (getF (SfS.new.add 1 r 2).fs 2).isSome = false ∧ (getF ((SfS.new.add 1 r 2).add 2 q 2).fs 3).isSome = false := ⟨rfl, rfl, rfl⟩
theorem upd_self {α : Type} (g : Nat → α) (i : Nat) : upd g i (g i) = g := by
  funext j
  unfold upd
  split
  · rename_i h; rw [h]
  · rfl
def rate2 (r q : Int) : Nat → Int := fun f => if f = 0 then 0 else if f = 1 then r else q
theorem fx0_inv (r q : Int) : FairI 0 (rate2 r q) 0 (fx0 r q) (fun _ => 0) (fun _ => 0) := by
  refine ⟨fun f f1 f2 => ?_, fun p hp => (by cases hp), fun f => by omega, fun f => by omega, by omega, by omega⟩
  rcases (show f = 1 ∨ f = 2 by omega) with rfl | rfl
  · exact ⟨rfl, rfl, rfl, fun _ => ⟨rfl, rfl, rfl⟩, fun p hp => (by cases hp)⟩
  · exact ⟨rfl, rfl, rfl, fun _ => ⟨rfl, rfl, rfl⟩, fun p hp => (by cases hp)⟩

set_option maxHeartbeats 2000000 in
theorem fair_in (r0 q0 : Int) (ao : Option Addr) (n cap : Nat) (zs : List Int) (ao2 : Option Addr) (n2 cap2 : Nat) (ts : List Int) (w : World) (hr : W64 r0) (hq : W64 q0) (h : RdI w ao n cap zs) (h2 : RdI w ao2 n2 cap2 ts) :
    Calls Try.prog 3 #[.int .u64 r0, .int .u64 q0, .slice ao n cap, .slice ao2 n2 cap2] w fun e w' => e = .returned (.bool true) ∧ Below w.heap.size w w' := by
  have hs := h.small
  have hs2 := h2.small
  have w1 : 0 ≤ r0 ∧ r0 < 18446744073709551616 := hr
  have w2 : 0 ≤ q0 ∧ q0 < 18446744073709551616 := hq
  go_enter Try.func3, Try.ntmps3
  go_wp2_with fail
  refine (newO w w (Below.refl _ _)).mono ?_
  rintro e w1 ⟨b, rfl, H⟩
  by_cases hn : n = 0
  · subst hn
    go_wp2_with fail
    refine (awake10_any _).mono ?_
    rintro e w2 ⟨rfl, hb2⟩
    go_wp2_with fail
    refine (awake10_any _).mono ?_
    rintro e w3 ⟨rfl, hb3⟩
    go_wp2_with fail
    go_ret
    exact ⟨rfl, H.bel.trans ((hb2.trans (hb3.mono hb2.size)).mono H.bel.size)⟩
  · have hn1 : ((n : Int) == 0) = false := by simp; omega
    go_wp2_with fail
    refine (awake10_any _).mono ?_
    rintro e w2 ⟨rfl, hb2⟩
    replace H := H.below hb2
    have r1 : 1 ≤ 1 + r0 % 100000 ∧ 1 + r0 % 100000 ≤ 100000 := by omega
    have r2 : 1 ≤ 1 + q0 % 100000 ∧ 1 + q0 % 100000 ≤ 100000 := by omega
    generalize 1 + r0 % 100000 = r at *
    generalize 1 + q0 % 100000 = q at *
    obtain ⟨g1, g2, g3⟩ := fx0_get r q
    go_wp2_with fail
    refine (addO H 1 r 2 (by unfold W64; omega)).mono ?_
    rw [g1]
    rintro e w3 ⟨rfl, H1⟩
    clear H hb2
    go_wp2_with fail
    refine (addO H1 2 q 2 (by unfold W64; omega)).mono ?_
    rw [g2]
    rintro e w4 ⟨rfl, H2⟩
    clear H1
    go_wp2_with fail
    refine (addO H2 3 (1 + r % 7) 8 (by unfold W64; omega)).mono ?_
    rw [g3, fx0_start]
    rintro e w5 ⟨rfl, H⟩
    clear H2
    have HM0 := FairM.made w5 H (fun _ => 0) (fun _ => 0) (fun _ => 0) (rate2 r q)
    have hO0 : (fairS 0 0 (fx0 r q)).Ok := by
      rw [← fx0_start]
      exact SfS.add_ok (SfS.add_ok (SfS.add_ok SfS.new_ok (by unfold I64; omega) (by unfold W64; omega)) (by unfold I64; omega) (by unfold W64; omega)) (by unfold I64; omega) (by unfold W64; omega)
    have hI0 := fx0_inv r q
    clear H g1 g2 g3 hn1
    go_upto_region 7 with fail
    have HM : FairM w ((((w5.alloc (.cells #[.int .i64 0, .int .i64 0, .int .i64 0] 28)).alloc (.cells #[.int .u64 0, .int .u64 0, .int .u64 0] 29)).alloc (.cells #[.int .u64 0, .int .u64 0, .int .u64 0] 29)).alloc (.cells #[.int .u64 0, .int .u64 r, .int .u64 q] 29)) b w5.heap.size (fairS 0 0 (fx0 r q)) (fun _ => 0) (fun _ => 0) (fun _ => 0) (rate2 r q) := HM0
    clear HM0
    generalize (((w5.alloc (.cells #[.int .i64 0, .int .i64 0, .int .i64 0] 28)).alloc (.cells #[.int .u64 0, .int .u64 0, .int .u64 0] 29)).alloc (.cells #[.int .u64 0, .int .u64 0, .int .u64 0] 29)).alloc (.cells #[.int .u64 0, .int .u64 r, .int .u64 q] 29) = W at *
    generalize w5.heap.size = a at *
    generalize hX0 : fx0 r q = x0 at *
    have hrt : ∀ f : Nat, 1 ≤ f → f ≤ 2 → 1 ≤ rate2 r q f ∧ rate2 r q f ≤ 100000 := fun f f1 f2 => by
      rcases (show f = 1 ∨ f = 2 by omega) with rfl | rfl
      · exact r1
      · exact r2
    have HRT := Lib.hid hrt
    generalize hRT : rate2 r q = rt at *
    clear hX0 hrt hRT
    go_wp2_with fail
    go_loopw [14, 15, 16, 17, 18, 19] (fun v14 _ _ _ _ _ wr => ∃ (i : Nat) (v m : Int) (xs : Nat → FlS) (nx cs ds : Nat → Int), i ≤ 60 ∧ v14 = .int .i64 i ∧ FairM w wr b a (fairS v m xs) nx cs ds rt ∧ (fairS v m xs).Ok ∧ FairI i rt v xs cs ds ∧ (∀ f, 0 ≤ nx f ∧ nx f ≤ 4 * i)) (fun v14 _ _ _ _ _ _ => 60 - (intOf v14).toNat)
    case atStart => exact ⟨0, 0, 0, x0, _, _, _, by omega, rfl, HM, hO0, hI0, fun f => by omega⟩
    case round =>
      obtain ⟨i, v, m, xs, nx, cs, ds, hi, rfl, HMi, hOi, hIi, hni⟩ := hrel
      clear HM hO0 hI0
      by_cases hl : i < 60
      · have i1 : (i : Int) < 60 := by omega
        have HNi := Lib.hid hni
        clear hni
        go_wp2_with fail
        go_loopw [15, 16, 17] (fun v15 _ _ wr => ∃ (f : Nat) (xs : Nat → FlS) (nx ds : Nat → Int), 1 ≤ f ∧ f ≤ 3 ∧ v15 = .int .i64 f ∧ FairM w wr b a (fairS v m xs) nx cs ds rt ∧ (fairS v m xs).Ok ∧ FairI i rt v xs cs ds ∧ (∀ g, 0 ≤ nx g ∧ nx g ≤ 4 * i + 2 * f - 2) ∧ (∀ g, 1 ≤ g → g < f → (xs g).l.length = 2)) (fun v15 _ _ _ => 3 - (intOf v15).toNat)
        case atStart => exact ⟨1, xs, nx, ds, by omega, by omega, rfl, HMi, hOi, hIi, fun g => by have := HNi.out g; omega, fun g h1 h2 => by omega⟩
        case round =>
          clear HMi hOi hIi HNi
          obtain ⟨f, xs, nx, ds, f1, f3, rfl, HMf, hOf, hIf, hnf, hlf⟩ := hrel
          by_cases hf : f < 3
          · have j1 : (f : Int) < 3 := by omega
            have HNf := Lib.hid hnf
            have HLf := Lib.hid hlf
            clear hnf hlf
            go_wp2_with fail
            go_loopw [16, 17] (fun v16 _ wr => ∃ (k : Nat) (xs : Nat → FlS) (nx ds : Nat → Int), k ≤ 2 ∧ v16 = .int .i64 k ∧ FairM w wr b a (fairS v m xs) nx cs ds rt ∧ (fairS v m xs).Ok ∧ FairI i rt v xs cs ds ∧ (∀ g, 0 ≤ nx g ∧ nx g ≤ 4 * i + 2 * f - 2 + k) ∧ (∀ g, 1 ≤ g → g < f → (xs g).l.length = 2) ∧ k ≤ (xs f).l.length) (fun v16 _ _ => 2 - (intOf v16).toNat)
            case atStart => exact ⟨0, xs, nx, ds, by omega, rfl, HMf, hOf, hIf, fun g => by have := HNf.out g; omega, HLf.out, by omega⟩
            case round =>
              clear HMf hOf hIf HNf HLf
              obtain ⟨k, xs, nx, ds, hk, rfl, HMk, hOk, hIk, hnk, hlk, hkl⟩ := hrel
              by_cases hk2 : k < 2
              · have k1 : (k : Int) < 2 := by omega
                obtain ⟨N, hN⟩ : ∃ N : Nat, nx f = N := ⟨(nx f).toNat, by have := (hnk f).1; omega⟩
                have hNb : N ≤ 400 := by have := (hnk f).2; omega
                obtain ⟨J, hJ⟩ : ∃ J : Nat, (N + 7 * f) % n = J := ⟨_, rfl⟩
                have hJn : J < n := by rw [← hJ]; exact Nat.mod_lt _ (by omega)
                have u3 : ((N : Int) + 7 * (f : Int)).tmod (n : Int) = (J : Int) := by rw [Int.tmod_eq_emod_of_nonneg (by omega), ← hJ]; simp
                have j2 : (J : Int) < (n : Int) := by omega
                have j4 : ¬ (n : Int) = 0 := by omega
                obtain ⟨bz, oz, e0, hbz, hcz⟩ := (RdI.below (B := 0) h HMk.bel).at_ J hJn
                subst e0
                have cn : wr.cell? ⟨a, f, none⟩ = some (.int .i64 N) := by rw [← hN]; exact (HMk.n.cell f).trans (a3_at _ _ hf)
                have hlt := HMk.n.lt
                have hz := modZ_bd (nth zs J) (n := 3000) (by omega)
                have HMK := Lib.hid HMk
                have HNK := Lib.hid hnk
                have HLK := Lib.hid hlk
                clear HMk hnk hlk hJ
                have u1 : Value.int .i64 (IntKind.i64.wrap (7 * (f : Int))) = .int .i64 (7 * f) := by rw [IntWalk.i64_left, IntWalk.wrap64_in _ (by omega)]
                have u2 : Value.int .i64 (IntKind.i64.wrap ((N : Int) + 7 * f)) = .int .i64 (N + 7 * f) := by rw [IntWalk.i64_left, IntWalk.wrap64_in _ (by omega)]
                go_wp2_with fail
                clear u1 u2 u3
                refine (mod_any _ _ (by omega) (by omega) _).mono ?_
                rintro e w' ⟨rfl, rfl⟩
                generalize modZ (nth zs J) 3000 = Z at *
                have u4 : Value.int .i64 (IntKind.i64.wrap (1 + Z)) = .int .i64 (1 + Z) := by rw [IntWalk.i64_left, IntWalk.wrap64_in _ (by omega)]
                go_wp2_with fail
                clear u4
                have hR := HRT.out f f1 (by omega)
                have hP0 : 0 ≤ (1 + Z) * rt f := Int.mul_nonneg (by omega) (by omega)
                have hP1 : (1 + Z) * rt f ≤ 300000000 := Int.le_trans (Int.mul_le_mul (show 1 + Z ≤ 3000 by omega) hR.2 (by omega) (by omega)) (by omega)
                have hp : (Pk.mk f (1 + Z) 0).Ok := ⟨by show I64 (f : Int); unfold I64; omega, by show I64 (1 + Z); unfold I64; omega, by show I64 0; unfold I64; omega⟩
                refine (HMK.out.arrive hOk ⟨f, 1 + Z, 0⟩ hp).mono ?_
                rw [fair_arriveE f1 (by omega), fair_arrive f1 (by omega)]
                have hO2 := SfS.arrive_ok hOk hp
                rw [fair_arrive f1 (by omega)] at hO2
                have hdf := hIk.d f
                cases hfu : (xs f).full with
                | true =>
                  have hxs : upd xs f ((xs f).arrive v ⟨f, 1 + Z, 0⟩) = xs := by
                    have : (xs f).arrive v ⟨f, 1 + Z, 0⟩ = xs f := by unfold FlS.arrive; rw [hfu]; rfl
                    rw [this]; exact upd_self xs f
                  rw [hxs]
                  have hl2 : (xs f).l.length = 2 := by have := (hIk.two f f1 (by omega)).full; rw [hfu] at this; simpa using this.symm
                  rintro e w6 ⟨rfl, H6⟩
                  go_wp2
                  go_roundw
                  case rel => exact ⟨k + 1, xs, nx, ds, by omega, by go_num, H6, hOk, hIk, fun g => by have := HNK.out g; omega, HLK.out, by omega⟩
                  case measure => simp [intOf]; omega
                | false =>
                  have hIn := hIk.came f1 (by omega) (show 1 ≤ 1 + Z by omega) (show 1 + Z ≤ 3000 by omega) hP1 hfu
                  have hlen := ((hIk.two f f1 (by omega)).came hfu (show 1 ≤ 1 + Z by omega) (show 1 + Z ≤ 3000 by omega)).2
                  rintro e w6 ⟨rfl, H6⟩
                  have H7 := H6.setN hf (N + 1)
                  have cn : w6.cell? ⟨a, f, none⟩ = some (.int .i64 N) := by rw [← hN]; exact (H6.n.cell f).trans (a3_at _ _ hf)
                  have hlt := H6.n.lt
                  have zn := H6.n.frozen f
                  have v1 : Value.int .i64 (IntKind.i64.wrap ((N : Int) + 1)) = .int .i64 (N + 1) := by rw [IntWalk.i64_left, IntWalk.wrap64_in _ (by omega)]
                  have H6 := Lib.hid H6
                  go_upto_region 19 with fail
                  have cd : (w6.setCell ⟨a, f, none⟩ (.int .i64 (N + 1))).cell? ⟨a + 1 + 1, f, none⟩ = some (.int .u64 (ds f)) := (H7.d.cell f).trans (a3_at _ _ hf)
                  have cr : (w6.setCell ⟨a, f, none⟩ (.int .i64 (N + 1))).cell? ⟨a + 1 + 1 + 1, f, none⟩ = some (.int .u64 (rt f)) := (H7.r.cell f).trans (a3_at _ _ hf)
                  have zd := H7.d.frozen f
                  have hld := H7.d.lt
                  have H7 := Lib.hid H7
                  generalize w6.setCell ⟨a, f, none⟩ (.int .i64 (N + 1)) = W7 at *
                  clear cn zn hlt
                  obtain ⟨P, hP⟩ : ∃ P, (1 + Z) * rt f = P := ⟨_, rfl⟩
                  have v2 : Value.int .u64 (IntKind.u64.wrap (1 + Z)) = .int .u64 (1 + Z) := by rw [IntKind.wrap_u64, Int.emod_eq_of_lt (by omega) (by omega)]
                  have v3 : Value.int .u64 (IntKind.u64.wrap ((1 + Z) * rt f)) = .int .u64 P := by rw [← hP, IntKind.wrap_u64, Int.emod_eq_of_lt (by omega) (by omega)]
                  rw [hP] at hP0 hP1 hIn
                  clear hP
                  have HIN := Lib.hid hIn
                  have HO2 := Lib.hid hO2
                  clear hIn hO2 hIk hOk hdf hp hR
                  have hnx : ∀ g, 0 ≤ upd nx f (N + 1) g ∧ upd nx f (N + 1) g ≤ 4 * i + 2 * f - 2 + ((k + 1 : Nat) : Int) := fun g => by
                    have := HNK.out g
                    by_cases hg : g = f
                    · subst hg; rw [upd_same]; rw [hN] at this; omega
                    · rw [upd_ne _ _ hg]; omega
                  have HNX := Lib.hid hnx
                  clear hnx
                  have hcase : (ds f < P ∧ max (ds f) P = P) ∨ (P ≤ ds f ∧ max (ds f) P = ds f) := by omega
                  rcases hcase with ⟨d1, d2⟩ | ⟨d1, d2⟩
                  all_goals
                    rw [d2] at HIN
                    go_region
                    go_wp2
                    go_roundw
                    case rel =>
                      refine ⟨k + 1, _, _, _, by omega, by go_num, (H7.out.setD hf _).drew, HO2.out, HIN.out, HNX.out, fun g g1 g2 => ?_, ?_⟩
                      · rw [upd_ne _ _ (by omega)]; exact HLK.out g g1 g2
                      · rw [upd_same, hlen]; omega
                    case measure => simp [intOf]; omega
              · obtain rfl : k = 2 := by omega
                have hl2 : (xs f).l.length = 2 := by
                  have h1 := (fair_ok hOk f1 f3).len
                  rw [(hIk.two f f1 (by omega)).most] at h1
                  omega
                go_wp2
                go_roundw
                case rel =>
                  refine ⟨f + 1, xs, nx, ds, by omega, by omega, by go_num, HMk, hOk, hIk, fun g => by have := hnk g; omega, fun g g1 g2 => ?_⟩
                  by_cases hg : g = f
                  · subst hg; exact hl2
                  · exact hlk g g1 (by omega)
                case measure => simp [intOf]; omega
          · obtain rfl : f = 3 := by omega
            have l1 := hlf 1 (by omega) (by omega)
            have l2 := hlf 2 (by omega) (by omega)
            have hnx : ∀ g, 0 ≤ nx g ∧ nx g ≤ 4 * ((i + 1 : Nat) : Int) := fun g => by have := hnf g; omega
            have HNX := Lib.hid hnx
            clear hnf hlf hnx
            have HMF := Lib.hid HMf
            have HOF := Lib.hid hOf
            have HIF := Lib.hid hIf
            have hbel := HMf.bel
            clear HMf hOf hIf
            go_upto_region 20 with fail
            go_cut [130] from 119 to 130 (fun v130 wx => ∃ c : Bool, v130 = .bool c ∧ (c = true → i < n2) ∧ wx = wr)
            case first =>
              by_cases h3 : i < n2
              · have i2 : (i : Int) < (n2 : Int) := by omega
                obtain ⟨bz, oz, e0, hbz, hcz⟩ := (RdI.below (B := 0) h2 hbel).at_ i h3
                subst e0
                go_wp2
                go_meet
                exact ⟨_, rfl, fun _ => h3, rfl⟩
              · have i2 : ¬ (i : Int) < (n2 : Int) := by omega
                go_wp2
                go_meet
                exact ⟨false, rfl, fun e => (by cases e), rfl⟩
            case rest =>
              obtain ⟨c, rfl, hc3, rfl⟩ := hcut
              go_upto_if 130 with fail
              go_cut [] from 131 to 139 (fun wx => ∃ xs, FairM w wx b a (fairS v m xs) nx cs ds rt ∧ (fairS v m xs).Ok ∧ FairI i rt v xs cs ds ∧ (xs 1).l.length = 2 ∧ (xs 2).l.length = 2)
              case first =>
                cases c with
                | true =>
                  have h3 := hc3 rfl
                  have i2 : (i : Int) < (n2 : Int) := by omega
                  obtain ⟨bz, oz, e0, hbz, hcz⟩ := (RdI.below (B := 0) h2 hbel).at_ i h3
                  subst e0
                  have hz := modZ_bd (nth ts i) (n := 50) (by omega)
                  go_wp2_with fail
                  refine (mod_any _ _ (by omega) (by omega) _).mono ?_
                  rintro e w' ⟨rfl, rfl⟩
                  generalize modZ (nth ts i) 50 = Z at *
                  have u4 : Value.int .i64 (IntKind.i64.wrap (1 + Z)) = .int .i64 (1 + Z) := by rw [IntWalk.i64_left, IntWalk.wrap64_in _ (by omega)]
                  have hp : (Pk.mk (3 : Nat) (1 + Z) 0).Ok := ⟨by show I64 (3 : Int); unfold I64; omega, by show I64 (1 + Z); unfold I64; omega, by show I64 0; unfold I64; omega⟩
                  go_wp2_with fail
                  refine (HMF.out.arrive HOF.out ⟨(3 : Nat), 1 + Z, 0⟩ hp).mono ?_
                  have hO2 := SfS.arrive_ok HOF.out hp
                  rw [fair_arrive (by omega) (by omega)] at hO2 ⊢
                  rintro e w6 ⟨rfl, H6⟩
                  go_wp2
                  go_meet
                  exact ⟨_, H6, hO2, HIF.out.third_came _ _, by rw [upd_ne _ _ (by omega)]; exact l1, by rw [upd_ne _ _ (by omega)]; exact l2⟩
                | false =>
                  go_wp2
                  go_meet
                  exact ⟨xs, HMF.out, HOF.out, HIF.out, l1, l2⟩
              case rest =>
                obtain ⟨ys, hM, hO, hI, m1, m2⟩ := hcut
                have hH : ∀ f : Nat, (ys f).l.length = 2 → (ys f).has = true := fun f h => FlS.has_of (fun e => by rw [e] at h; cases h)
                obtain ⟨s1, g, g1, g3, s2, s3, s4, s5, s6⟩ := fair_serve (v := v) (most := m) (hH 1 m1) (hH 2 m2)
                have hO2 := SfS.serve_ok hO
                rw [s3] at hO2
                have HV := Lib.hid (hM.serve hO (by show 3 ≤ 1000000; omega))
                rw [s1, s3, s4] at HV
                have hO1 := Lib.hid hO
                clear hM hO HMF HOF HIF hbel s1 s3 s4 l1 l2
                have hfl : (ys g).head.flow = g := by
                  rcases (show g ≤ 2 ∨ g = 3 by omega) with g2 | rfl
                  · exact (hI.served (v' := 0) hl m1 m2 g1 g2 (HRT.out g g1 g2).1 s5 s6).2.1
                  · exact (hI.third_served (v' := 0) m1 m2 s2).2
                have hhl : (ys g).head.len ≤ 9223372036854775807 := head_len (fair_ok hO1.out g1 g3)
                have HO2 := Lib.hid hO2
                have HI := Lib.hid hI
                clear hI hO2 hH hO1
                go_wp2_with fail
                refine HV.out.mono ?_
                unfold Pk.val
                rw [hfl]
                rintro e w6 ⟨rfl, H6⟩
                have H8 := H6.below (below1 w6 (.cells #[.int .i64 g, .int .i64 (ys g).head.len, .int .i64 (ys g).head.mark] 34))
                have B8 := Blk.new w6 [.int .i64 g, .int .i64 (ys g).head.len, .int .i64 (ys g).head.mark] 34
                have hb8 : w6.heap.size < (w6.alloc (.cells #[.int .i64 g, .int .i64 (ys g).head.len, .int .i64 (ys g).head.mark] 34)).heap.size := by simp
                have c0 := B8.cell 0
                have c1 := B8.cell 1
                simp only [List.getElem?_cons_succ, List.getElem?_cons_zero] at c0 c1
                clear H6 B8 HV
                go_upto_region 23 with fail
                generalize w6.heap.size = b8 at *
                generalize w6.alloc (.cells #[.int .i64 g, .int .i64 (ys g).head.len, .int .i64 (ys g).head.mark] 34) = W8 at *
                go_upto_if 159 with fail
                generalize hX : decide ((g : Int) < 3) = X
                go_cut [] from 160 to 174 (fun wx => ∃ cs, FairM w wx b a (fairS (ys g).start (max m (ys g).out) (upd ys g (ys g).serve)) nx cs ds rt ∧ FairI (i + 1) rt (ys g).start (upd ys g (ys g).serve) cs ds)
                case first =>
                  rcases (show g ≤ 2 ∨ g = 3 by omega) with g2 | rfl
                  · have hR := HRT.out g g1 g2
                    obtain ⟨hI2, -, hc0, hc1⟩ := HI.out.served (v' := (ys g).start) hl m1 m2 g1 g2 hR.1 s5 s6
                    have HI2 := Lib.hid hI2
                    clear hI2 s2 s5 s6
                    have hrw : W64 (rt g) := ⟨by omega, by omega⟩
                    have P := Lib.hid (H8.setC (show g < 3 by omega) (cs g + costOf (ys g).head.len (rt g)))
                    have cc : W8.cell? ⟨a + 1, g, none⟩ = some (.int .u64 (cs g)) := (H8.c.cell g).trans (a3_at _ _ (by omega))
                    have cr : W8.cell? ⟨a + 1 + 1 + 1, g, none⟩ = some (.int .u64 (rt g)) := (H8.r.cell g).trans (a3_at _ _ (by omega))
                    have zc := H8.c.frozen g
                    have lc := H8.c.lt
                    have hcg := HI.out.c g
                    have v1 : Value.int .u64 (IntKind.u64.wrap (cs g + costOf (ys g).head.len (rt g))) = .int .u64 (cs g + costOf (ys g).head.len (rt g)) := by rw [IntKind.wrap_u64, Int.emod_eq_of_lt (by omega) (by omega)]
                    have g4 : (g : Int) < 3 := by omega
                    obtain rfl : X = true := by rw [← hX]; exact decide_eq_true g4
                    clear H8 hX
                    go_wp2_with fail
                    go_still_tail 14, (by kernel_rfl)
                    still_call ((refCost_any _ _ hhl hrw _).mono fun e w' h => ⟨h.1, h.2.symm⟩)
                    repeat still_step
                    refine wpStill_nil ?_
                    change wpList _ _ _ _ _ W8.drew
                    go_wp2
                    go_meet
                    exact ⟨_, P.out.drew, HI2.out⟩
                  · have hI2 := (HI.out.third_served (v' := (ys 3).start) m1 m2 s2).1
                    obtain rfl : X = false := by rw [← hX]; rfl
                    clear hX
                    go_wp2
                    go_meet
                    exact ⟨cs, H8, hI2⟩
                case rest =>
                  clear hX H8 HI s2 s5 s6 m1 m2 c0 c1 hb8
                  obtain ⟨cs, hM, hI⟩ := hcut
                  obtain ⟨hx1, hx2⟩ := hI.c 1
                  obtain ⟨hx3, hx4⟩ := hI.c 2
                  obtain ⟨hy1, hy2⟩ := hI.d 1
                  obtain ⟨hy3, hy4⟩ := hI.d 2
                  have q12 := hI.c12
                  have q21 := hI.c21
                  have e1 : wc.cell? ⟨a + 1, 1, none⟩ = some (.int .u64 (cs 1)) := hM.c.cell 1
                  have e2 : wc.cell? ⟨a + 1, 2, none⟩ = some (.int .u64 (cs 2)) := hM.c.cell 2
                  have e3 : wc.cell? ⟨a + 1 + 1, 1, none⟩ = some (.int .u64 (ds 1)) := hM.d.cell 1
                  have e4 : wc.cell? ⟨a + 1 + 1, 2, none⟩ = some (.int .u64 (ds 2)) := hM.d.cell 2
                  have t1 : Value.int .u64 (IntKind.u64.wrap (cs 2 + ds 1)) = .int .u64 (cs 2 + ds 1) := by rw [IntKind.wrap_u64, Int.emod_eq_of_lt (by omega) (by omega)]
                  have t2 : Value.int .u64 (IntKind.u64.wrap (cs 2 + ds 1 + ds 2)) = .int .u64 (cs 2 + ds 1 + ds 2) := by rw [IntKind.wrap_u64, Int.emod_eq_of_lt (by omega) (by omega)]
                  have t3 : Value.int .u64 (IntKind.u64.wrap (cs 1 + ds 1)) = .int .u64 (cs 1 + ds 1) := by rw [IntKind.wrap_u64, Int.emod_eq_of_lt (by omega) (by omega)]
                  have t4 : Value.int .u64 (IntKind.u64.wrap (cs 1 + ds 1 + ds 2)) = .int .u64 (cs 1 + ds 1 + ds 2) := by rw [IntKind.wrap_u64, Int.emod_eq_of_lt (by omega) (by omega)]
                  have t5 : ¬ cs 2 + ds 1 + ds 2 < cs 1 := by omega
                  have t6 : ¬ cs 1 + ds 1 + ds 2 < cs 2 := by omega
                  have HM := Lib.hid hM
                  have HI := Lib.hid hI
                  clear hM hI hx1 hx2 hx3 hx4 hy1 hy2 hy3 hy4 q12 q21
                  go_wp2
                  go_roundw
                  case rel => exact ⟨i + 1, _, _, _, nx, cs, ds, by omega, by go_num, HM.out, HO2.out, HI.out, HNX.out⟩
                  case measure => simp [intOf]; omega
      · obtain rfl : i = 60 := by omega
        go_wp2
        go_ret
        exact ⟨rfl, HMi.bel⟩

theorem SfqFair_any (w : World) (r : Int) (w0 : (Lit.int .u64 r).wf = true) (q : Int) (w1 : (Lit.int .u64 q).wf = true) (ao : Option Addr) (n cap : Nat) (L : List (List Value)) (w2 : IsRows w [.int .i64] ao n cap L) (ao2 : Option Addr) (n2 cap2 : Nat) (L2 : List (List Value)) (w3 : IsRows w [.int .i64] ao2 n2 cap2 L2) :
    Calls Try.prog 3 #[.int .u64 r, .int .u64 q, .slice ao n cap, .slice ao2 n2 cap2] w fun e w' => e = .returned (.bool true) ∧ Below w.heap.size w w' := by
  obtain ⟨zs, h⟩ := isRows_rdI w2
  obtain ⟨ts, h2⟩ := isRows_rdI w3
  exact fair_in r q ao n cap zs ao2 n2 cap2 ts w (wf_u64 w0) (wf_u64 w1) h h2
end Go.Proofs.Ytnanalaienlbpaa
