/- RaceOrder: Before is an order. -/
import Derived.Test.YtkhhjjjpbfnlmaaRaceX
namespace Go.Proofs.Ytkhhjjjpbfnlmaa
set_option linter.unusedVariables false
set_option linter.unusedSimpArgs false
open Go.RowKit Go.Proofs.YtkhhjjjpbfnlmaaMem Go.Proofs.YtkhhjjjpbfnlmaaFlat Go.Proofs.YtkhhjjjpbfnlmaaMapK

set_option maxRecDepth 20000 in
set_option maxHeartbeats 3000000 in
theorem RaceOrder_1 (ao at' : Option Addr) (n0 cap m0 capt : Nat) (l : List EvS) (ts : List Int) (w : World) (h : RdE w ao n0 cap l) (ht : RdI w at' m0 capt ts) :
    Calls Try.prog 7 #[.slice ao n0 cap, .slice at' m0 capt] w fun e w' => e = .returned (.bool true) ∧ Below w.heap.size w w' := by
  have hlen := longE_length l ts
  have hok := Lib.hid (longE_ok h.ok ts)
  go_enter Try.func7, Try.ntmps7
  go_wp2_with fail
  refine (long_any ao at' n0 cap m0 capt l ts _ h ht).mono ?_
  rintro e w1 ⟨v, rfl, hown, hb1⟩
  obtain ⟨a, c, rfl⟩ := owns_slice hown
  have r1 := owns_rdE hown hok.out
  generalize longE l ts = L at *
  clear hown h ht
  obtain ⟨n, hq⟩ : ∃ n, L.length = n := ⟨_, rfl⟩
  rw [hq] at r1 hlen ⊢
  have HN := Lib.hid hq
  clear hq
  have hn : n ≤ 1000 := by omega
  go_wp2_with fail
  refine (awake_any _).mono ?_
  rintro e w2 ⟨rfl, hb2⟩
  have r2 := r1.below hb2
  have B2 := below_step hb1 hb2
  clear r1 hb1 hb2
  go_wp2_with fail
  refine (right_any a n c L _ r2).mono ?_
  cases hr : rightB L
  · rintro e w3 ⟨rfl, hb3⟩
    have r3 := r2.below hb3
    have B3 := below_step B2 hb3
    clear r2 B2 hb3
    go_wp2_with fail
    refine (awake_any _).mono ?_
    rintro e w4 ⟨rfl, hb4⟩
    have r4 := r3.below hb4
    have B4 := below_step B3 hb4
    clear r3 B3 hb4
    go_wp2_with fail
    refine (refRight_any a n c L _ r4).mono ?_
    rw [hr]
    rintro e w5 ⟨rfl, hb5⟩
    go_wp2
    go_ret
    exact ⟨rfl, below_step B4 hb5⟩
  · rintro e w3 ⟨rfl, hb3⟩
    have r3 := r2.below hb3
    have B3 := below_step B2 hb3
    clear r2 B2 hb3
    have HR := Lib.hid hr
    clear hr
    have mk1 := make_outer n hn
    have mk2 := make_inner n hn
    go_upto_region 6 with fail
    have hm0 := mat_start w3 n (madeCells #[.slice none 0 0] n) (made_at _ n)
    have hbm : Below w3.heap.size w3 (w3.alloc (.cells (madeCells #[.slice none 0 0] n) 46)) := below1 _ _
    generalize w3.alloc (.cells (madeCells #[.slice none 0 0] n) 46) = W at *
    generalize hG : w3.heap.size = G at *
    go_wp2_with fail
    go_loopw [8, 9] (fun v8 v9 wr => ∃ i : Nat, i ≤ n ∧ v8 = .int .i64 i ∧ ∃ B v, MatAt wr G n i B v ∧ (∀ p q, p < i → q < n → v p q = bB L p q) ∧ Below G w3 wr ∧ G ≤ wr.heap.size ∧ ∀ p, p < i → G ≤ B p) (fun v8 _ _ => n - (intOf v8).toNat)
    case atStart => exact ⟨0, Nat.zero_le _, rfl, _, _, hm0, fun p q hp => absurd hp (Nat.not_lt_zero _), hbm, by have := hm0.outer.lt; omega, fun p hp => absurd hp (Nat.not_lt_zero _)⟩
    case round =>
      obtain ⟨i, hi, rfl, B, v, hM, hv, hbr, hGr, hGB⟩ := hrel
      clear hm0 hbm
      by_cases hl : i < n
      · have kin : (i : Int) < n := by omega
        have hGi := hM.outer.cell hl
        simp only [Nat.lt_irrefl, if_false] at hGi
        have hfz := hM.outer.frozen i
        have hGlt := hM.outer.lt
        go_upto_region 10 with fail
        have hM1 := hM.newRow (madeCells #[.bool false] n) (made_at _ n)
        rw [World.setCell_alloc_past _ _ _ _ (by exact hGlt)] at hM1
        have hGG : G ≤ G := Nat.le_refl _
        have hb1 : Below G w3 ((wr.setCell ⟨G, i, none⟩ (.slice (some ⟨wr.heap.size, 0, none⟩) n n)).alloc (.cells (madeCells #[.bool false] n) 4)) := (hbr.setCell (p := ⟨G, i, none⟩) hGG _).alloc (by simp [World.setCell]; exact hGr) _
        have hGB1 : ∀ p, p < i + 1 → G ≤ (fun p => if p = i then wr.heap.size else B p) p := by
          intro p hp
          by_cases hpi : p = i
          · simp only [hpi, if_true]; exact hGr
          · simp only [hpi, if_false]; exact hGB p (by omega)
        have hv1 : ∀ p q, p < i → q < n → (fun a b => if a = i then false else v a b) p q = bB L p q := by
          intro p q hp hq
          simp only [show ¬ p = i by omega, if_false]
          exact hv p q hp hq
        have hs1 : G ≤ ((wr.setCell ⟨G, i, none⟩ (.slice (some ⟨wr.heap.size, 0, none⟩) n n)).alloc (.cells (madeCells #[.bool false] n) 4)).heap.size := by simp [World.setCell]; omega
        generalize (wr.setCell ⟨G, i, none⟩ (.slice (some ⟨wr.heap.size, 0, none⟩) n n)).alloc (.cells (madeCells #[.bool false] n) 4) = W1 at *
        generalize (fun p => if p = i then wr.heap.size else B p) = B1 at *
        generalize (fun a b => if a = i then false else v a b) = v1 at *
        clear hGi hfz hGlt hM hv hbr hGr hGB
        go_wp2_with fail
        go_loopw [9] (fun v9 wr2 => ∃ j : Nat, j ≤ n ∧ v9 = .int .i64 j ∧ ∃ v2, MatAt wr2 G n (i + 1) B1 v2 ∧ (∀ p q, p < i → q < n → v2 p q = bB L p q) ∧ (∀ q, q < j → v2 i q = bB L i q) ∧ Below G w3 wr2 ∧ G ≤ wr2.heap.size) (fun v9 _ => n - (intOf v9).toNat)
        case atStart => exact ⟨0, Nat.zero_le _, rfl, v1, hM1, hv1, fun q hq => absurd hq (Nat.not_lt_zero _), hb1, hs1⟩
        case round =>
          obtain ⟨j, hj, rfl, v2, hM, hv, hv', hbr, hGr⟩ := hrel
          have HGB1 := Lib.hid hGB1
          clear hM1 hv1 hb1 hs1
          have HV := Lib.hid hv
          have HV' := Lib.hid hv'
          clear hv hv' hGB1
          by_cases hl2 : j < n
          · have kjn : (j : Int) < n := by omega
            have hGi := hM.outer.cell hl
            simp only [show i < i + 1 by omega, if_true] at hGi
            have hGlt := hM.outer.lt
            have hrow := hM.inner i (Nat.lt_succ_self i)
            have hBi := hrow.lt
            have hBc := hrow.cell hl2
            have hBf := hrow.frozen j
            have hne := hM.ne i (Nat.lt_succ_self i)
            have hne' : G ≠ B1 i := fun e => hne e.symm
            have re := r3.below (by rw [hG]; exact hbr)
            have Td : Below wr.heap.size wr wr.drew := (Below.refl _ _).drew
            obtain ⟨x, hx⟩ : ∃ x, bB L i j = x := ⟨_, rfl⟩
            have HX : Hid (beforeB L i j = x) := hx
            have HXB := Lib.hid hx
            have HM := Lib.hid hM
            clear hx hM hrow
            go_wp2_with fail
            go_region_held3 (fun w' => w'.cell? ⟨G, i, none⟩ = some (.slice (some ⟨B1 i, 0, none⟩) n n))
              (first | exact (Td.cell (p := ⟨G, i, none⟩) hGlt).trans hGi | exact (World.cell?_of_block (Below.heap_setCell _ ⟨B1 i, j, none⟩ _ G hne')).trans ((Td.cell (p := ⟨G, i, none⟩) hGlt).trans hGi))
              (first | (go_at_call 24; (with_reducible refine (before_any _ n c L (i : Int) (j : Int) _ (re.below Td) hn).mono ?_); rw [HX.out]; rintro e w' ⟨rfl, hb'⟩; replace Td := Td.trans (hb'.mono Td.size); replace hBc := (hb'.cell (p := ⟨B1 i, j, none⟩) hBi).trans hBc; replace hBf := (World.frozen?_of_block (a := ⟨B1 i, j, none⟩) (hb'.block (B1 i) hBi)).trans hBf))
            have hGBi := HGB1.out i (Nat.lt_succ_self i)
            have hM3 := (HM.out.below Td).set (Nat.lt_succ_self i) j x
            have hbr3 : Below G w3 _ := (hbr.trans (Td.mono hGr)).setCell (p := ⟨B1 i, j, none⟩) hGBi (.bool x)
            have hs3 : G ≤ (w'.setCell ⟨B1 i, j, none⟩ (.bool x)).heap.size := Nat.le_trans hGr (by simpa [World.setCell] using Td.size)
            generalize w'.setCell ⟨B1 i, j, none⟩ (.bool x) = X at *
            have hv3 : ∀ p q, p < i → q < n → (fun a b => if a = i ∧ b = j then x else v2 a b) p q = bB L p q := by
              intro p q hp hq
              simp only [show ¬ (p = i ∧ q = j) by omega, if_false]
              exact HV.out p q hp hq
            have hv3' : ∀ q, q < j + 1 → (fun a b => if a = i ∧ b = j then x else v2 a b) i q = bB L i q := by
              intro q hq
              by_cases hqj : q = j
              · subst hqj; simp only [and_self, if_true]; exact HXB.out.symm
              · simp only [hqj, and_false, if_false]; exact HV'.out q (by omega)
            have hBc3 := (hM3.inner i (Nat.lt_succ_self i)).cell hl2
            simp only [and_self, if_true] at hBc3
            have hGi3 := hM3.outer.cell hl
            simp only [show i < i + 1 by omega, if_true] at hGi3
            have re3 := r3.below (by rw [hG]; exact hbr3)
            obtain ⟨b, o, rfl, hlt, hci⟩ := re3.cells hl
            obtain ⟨b', o', e', _, hcj⟩ := re3.cells hl2
            simp only [Option.some.injEq, Addr.mk.injEq, and_true] at e'
            obtain ⟨rfl, rfl⟩ := e'
            obtain ⟨i0, _, _, _, _⟩ := hci X (Below.refl _ _)
            obtain ⟨j0, _, _, _, _⟩ := hcj X (Below.refl _ _)
            have HM3 := Lib.hid hM3
            have HV3 := Lib.hid hv3
            have HV3' := Lib.hid hv3'
            have hah : x = true → i < j := fun hx => bB_ahead HR.out (by rw [HN.out]; exact hn) (by rw [HN.out]; exact hl) (by rw [HN.out]; exact hl2) (HXB.out.trans hx)
            have hsm : i < j → (nthE L i).who = (nthE L j).who → x = true := fun h1 h2 => HXB.out.symm.trans (bB_same HR.out (by rw [HN.out]; exact hn) h1 (by rw [HN.out]; exact hl2) h2)
            rcases (show (x = true ∧ i < j ∧ (nthE L i).who = (nthE L j).who) ∨ (x = true ∧ i < j ∧ (nthE L i).who ≠ (nthE L j).who) ∨ (x = false ∧ (nthE L i).who ≠ (nthE L j).who) ∨ (x = false ∧ (nthE L i).who = (nthE L j).who ∧ ¬ i < j) by
              by_cases hw : (nthE L i).who = (nthE L j).who <;> by_cases hlt2 : i < j <;> cases x <;> simp [hw, hlt2] at hah hsm ⊢) with ⟨rfl, hij, hw⟩ | ⟨rfl, hij, hw⟩ | ⟨rfl, hw⟩ | ⟨rfl, hw, hij⟩
            · have e1 : ((nthE L i).who == (nthE L j).who) = true := by simpa using hw
              have k1 : decide ((j : Int) ≤ (i : Int)) = false := by simp; omega
              have k2 : decide ((i : Int) < (j : Int)) = true := by simp; omega
              have k3 : decide (j ≤ i) = false := by simp; omega
              have k4 : decide (i < j) = true := by simp; omega
              clear hw hah hsm hBc hBf hM3 hv3 hv3' hci hcj
              go_wp2_with fail
              go_region
              go_wp2
              go_roundw
              case rel => exact ⟨j + 1, by omega, by go_num, _, HM3.out.below ((Below.refl _ _).drew), HV3.out, (fun q hq => by have := HV3'.out q hq; simpa using this), hbr3.drew, hs3⟩
              case measure => simp [intOf]; omega
            · have e1 : ((nthE L i).who == (nthE L j).who) = false := by simpa using hw
              have k1 : decide ((j : Int) ≤ (i : Int)) = false := by simp; omega
              have k2 : decide ((i : Int) < (j : Int)) = true := by simp; omega
              have k3 : decide (j ≤ i) = false := by simp; omega
              have k4 : decide (i < j) = true := by simp; omega
              clear hw hah hsm hBc hBf hM3 hv3 hv3' hci hcj
              go_wp2_with fail
              go_region
              go_wp2
              go_roundw
              case rel => exact ⟨j + 1, by omega, by go_num, _, HM3.out.below ((Below.refl _ _).drew), HV3.out, (fun q hq => by have := HV3'.out q hq; simpa using this), hbr3.drew, hs3⟩
              case measure => simp [intOf]; omega
            · have e1 : ((nthE L i).who == (nthE L j).who) = false := by simpa using hw
              clear hw hah hsm hBc hBf hM3 hv3 hv3' hci hcj
              go_wp2_with fail
              go_region
              go_wp2
              go_roundw
              case rel => exact ⟨j + 1, by omega, by go_num, _, HM3.out.below ((Below.refl _ _).drew), HV3.out, (fun q hq => by have := HV3'.out q hq; simpa using this), hbr3.drew, hs3⟩
              case measure => simp [intOf]; omega
            · have e1 : ((nthE L i).who == (nthE L j).who) = true := by simpa using hw
              have k2 : decide ((i : Int) < (j : Int)) = false := by simp; omega
              have k4 : decide (i < j) = false := by simp; omega
              clear hw hah hsm hBc hBf hM3 hv3 hv3' hci hcj
              go_wp2_with fail
              go_region
              go_wp2
              go_roundw
              case rel => exact ⟨j + 1, by omega, by go_num, _, HM3.out.below ((Below.refl _ _).drew), HV3.out, (fun q hq => by have := HV3'.out q hq; simpa using this), hbr3.drew, hs3⟩
              case measure => simp [intOf]; omega
          · obtain rfl : j = n := by omega
            have HM2 := Lib.hid hM
            clear hM
            go_wp2
            go_roundw
            case rel => exact ⟨i + 1, by omega, by go_num, _, _, HM2.out, fun p q hp hq => by
              by_cases hpi : p = i
              · subst hpi; exact HV'.out q hq
              · exact HV.out p q (by omega) hq, hbr, hGr, HGB1.out⟩
            case measure => simp [intOf]; omega
      · obtain rfl : i = n := by omega
        have hcell : ∀ p q, p < i → q < i → wr.cell? ⟨G, p, none⟩ = some (.slice (some ⟨B p, 0, none⟩) i i) ∧ wr.cell? ⟨B p, q, none⟩ = some (.bool (bB L p q)) := by
          intro p q hp hq
          have h1 := hM.outer.cell hp
          simp only [hp, if_true] at h1
          exact ⟨h1, by rw [← hv p q hp hq]; exact (hM.inner p hp).cell hq⟩
        have HC := Lib.hid hcell
        have BW : Below w.heap.size w wr := B3.trans (hbr.mono (by rw [← hG]; exact B3.size))
        clear hM hv hcell mk1 mk2 hbr hGr hGB
        generalize wr = X at *
        go_wp2_with fail
        go_loopw [10, 11, 12] (fun v10 _ _ wx => X = wx ∧ ∃ p : Nat, p ≤ i ∧ v10 = .int .i64 p) (fun v10 _ _ _ => i - (intOf v10).toNat)
        case atStart => exact ⟨rfl, 0, Nat.zero_le _, rfl⟩
        case round =>
          obtain ⟨rfl, p, hp, rfl⟩ := hrel
          by_cases hpl : p < i
          · have kp : (p : Int) < i := by omega
            go_wp2_with fail
            go_loopw [11, 12] (fun v11 _ wx => X = wx ∧ ∃ q : Nat, p ≤ q ∧ q ≤ i ∧ v11 = .int .i64 q) (fun v11 _ _ => i - (intOf v11).toNat)
            case atStart => exact ⟨rfl, p, Nat.le_refl _, hp, rfl⟩
            case round =>
              obtain ⟨rfl, q, hpq, hq, rfl⟩ := hrel
              by_cases hql : q < i
              · have kq : (q : Int) < i := by omega
                go_wp2_with fail
                go_loopw [12] (fun v12 wx => X = wx ∧ ∃ t : Nat, q ≤ t ∧ t ≤ i ∧ v12 = .int .i64 t) (fun v12 _ => i - (intOf v12).toNat)
                case atStart => exact ⟨rfl, q, Nat.le_refl _, hq, rfl⟩
                case round =>
                  obtain ⟨rfl, t, hqt, htn, rfl⟩ := hrel
                  by_cases htl : t < i
                  · have kt : (t : Int) < i := by omega
                    obtain ⟨a1, a2⟩ := HC.out p q hpl hql
                    obtain ⟨b1, b2⟩ := HC.out q t hql htl
                    obtain ⟨_, c2⟩ := HC.out p t hpl htl
                    have htr : bB L p q = true → bB L q t = true → bB L p t = true := fun h1 h2 => bB_trans HR.out (by rw [HN.out]; exact hn) (by rw [HN.out]; exact hpl) (by rw [HN.out]; exact hql) (by rw [HN.out]; exact htl) h1 h2
                    generalize bB L p q = x1 at *
                    generalize bB L q t = x2 at *
                    generalize bB L p t = x3 at *
                    rcases (show x1 = false ∨ (x1 = true ∧ x2 = false) ∨ (x1 = true ∧ x2 = true ∧ x3 = true) by cases x1 <;> cases x2 <;> simp at htr ⊢ <;> exact htr) with rfl | ⟨rfl, rfl⟩ | ⟨rfl, rfl, rfl⟩
                    all_goals
                      clear htr
                      go_wp2
                      go_roundw
                      case rel => exact ⟨trivial, t + 1, by omega, by omega, by go_num⟩
                      case measure => simp [intOf]; omega
                  · obtain rfl : t = i := by omega
                    go_wp2
                    go_roundw
                    case rel => exact ⟨trivial, q + 1, by omega, by omega, by go_num⟩
                    case measure => simp [intOf]; omega
              · obtain rfl : q = i := by omega
                go_wp2
                go_roundw
                case rel => exact ⟨trivial, p + 1, by omega, by go_num⟩
                case measure => simp [intOf]; omega
          · obtain rfl : p = i := by omega
            go_wp2
            go_ret
            exact ⟨rfl, BW⟩

theorem RaceOrder_any (w : World) (ao : Option Addr) (n cap : Nat) (L : List (List Value)) (h : IsRows w [.int .i64, .int .i64, .int .i64, .int .i64, .int .i64] ao n cap L) (a1 : Option Addr) (n1 c1 : Nat) (L1 : List (List Value)) (h1 : IsRows w [.int .i64] a1 n1 c1 L1) :
    Calls Try.prog 7 #[.slice ao n cap, .slice a1 n1 c1] w fun e w' => e = .returned (.bool true) ∧ Below w.heap.size w w' := by
  obtain ⟨l, r⟩ := isRows_rdE h
  obtain ⟨ts, r1⟩ := isRows_rdI h1
  exact RaceOrder_1 ao a1 n cap n1 c1 l ts w r r1
end Go.Proofs.Ytkhhjjjpbfnlmaa
