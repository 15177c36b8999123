/- The law's own: a history that may be: the walk. -/
import Derived.Test.YtonldjkmbapjeaaLaid1
import Derived.StillTailTactics
namespace Go.Proofs.Ytonldjkmbapjeaa
set_option linter.unusedVariables false
set_option linter.unusedSimpArgs false
open Go.RowKit Go.Proofs.YtonldjkmbapjeaaMem Go.Proofs.YtonldjkmbapjeaaFlat

set_option maxRecDepth 20000 in
set_option maxHeartbeats 2000000 in
theorem laid_any (ao : Option Addr) (n cap : Nat) (l : List DoneS) (w : World) (h : RdD w ao n cap l) :
    Calls Try.prog 21 #[.slice ao n cap] w (RetD w (laidD l)) := by
  have s0 := h.rd.small
  have L0 := Lib.hid h.len
  go_enter Try.func21, Try.ntmps21
  go_upto_region 4 with fail
  have hL := LB.start w
  have e1 : Hid (w.heap.size + 1 = w.heap.size + 1) := rfl
  generalize ((w.alloc (.cells #[.int .i64 0, .int .i64 0, .int .i64 0, .int .i64 0] 58)).alloc (.cells #[.int .i64 0, .int .i64 0, .int .i64 0, .int .i64 0] 58)).alloc (.cells #[.bool false, .bool false, .bool false, .bool false] 46) = W0 at *
  generalize w.heap.size + 1 + 1 = O at *
  generalize w.heap.size + 1 = N at *
  generalize hA : w.heap.size = A at *
  clear e1
  have HL := Lib.hid hL
  clear hL
  go_wp2_with fail
  go_loopw [3, 7, 8, 9] (fun v3 v7 _ _ wr => ∃ k : Nat, k ≤ n ∧ k ≤ 40 ∧ v7 = .int .i64 k ∧ LB w wr A N O (ldAll (l.take k)) v3) (fun _ v7 _ _ _ => n - (intOf v7).toNat)
  case atStart => exact ⟨0, Nat.zero_le _, Nat.zero_le _, rfl, by simpa [ldAll] using HL.out⟩
  case round =>
    obtain ⟨k, hk, hkm, rfl, hrelL⟩ := hrel
    have HB := Lib.hid hrelL
    clear hrelL HL
    by_cases hl : k < n
    · by_cases hl2 : k < 40
      · obtain ⟨b, o, rfl, hlt, hc⟩ := h.cells hl
        obtain ⟨c0, c1, c2, c3, c4, c5, c6, c7, c8, c9, c10, c11⟩ := RdD.at12 (ao := none) (n := 0) (cap := 0) hc HB.out.bel
        have kn : (k : Int) < n := by omega
        have km : (k : Int) < 40 := by omega
        have S := Lib.hid (ldAll_snoc (l := l) (k := k) (show k < l.length by rw [L0.out]; exact hl))
        obtain ⟨bd1, bd2, bd3⟩ := ldAll_bd k l
        have HC := Lib.hid fun w' (hb : Below w.heap.size w w') => RdD.at12 (ao := none) (n := 0) (cap := 0) hc hb
        clear hc
        generalize ldAll (l.take k) = s at *
        generalize nthD l k = x at *
        have hq4 := who4_lt x
        have hqe := who4_eq x
        have ba := bd1 (who4 x)
        have bn := bd2 (who4 x)
        have F1 : Hid (ldFr s x = s.a (who4 x) + modZ x.fr 4) := rfl
        have F2 : Hid (ldTo s x = ldFr s x + modZ x.to 9) := rfl
        have F3 : Hid (∀ (e : s.op (who4 x) = true), ldStep s x = s) := fun e => by unfold ldStep; rw [if_pos e]
        have F4 : Hid (∀ (e : s.op (who4 x) = false), ldStep s x = { a := updI s.a (who4 x) (ldTo s x + 1), n := updI s.n (who4 x) (s.n (who4 x) + 1), op := if ldLast x then updB s.op (who4 x) true else s.op, out := s.out ++ [ldD s x] }) := fun e => by unfold ldStep; rw [if_neg (by rw [e]; simp)]
        have F5 : Hid (ldD s x = { nearD x with who := who4 x, place := s.n (who4 x), fr := ldFr s x, «to» := if ldLast x then -1 else ldTo s x }) := rfl
        have F6 : Hid (ldLast x = decide (modZ x.place 13 = 12)) := rfl
        have QE := Lib.hid hqe
        generalize hqq : who4 x = q at *
        clear bd1 bd2 hqe hqq
        go_wp2_with fail
        refine (near_any x _).mono ?_
        rintro e w2 ⟨rfl, hb2⟩
        generalize nearD x = y at *
        go_upto_region 8 with fail
        have hB2 := HB.out.below hb2
        have hX : LX w (w2.alloc (.cells #[.int .i64 y.who, .int .i64 y.place, .int .i64 y.op, .int .i64 y.fl, .int .i64 y.a, .int .i64 y.b, .int .i64 y.e, .slice y.ao y.len y.cap, .int .i64 y.n, .int .u64 y.v, .int .i64 y.fr, .int .i64 y.to] 31)) A N O w2.heap.size s _ y := ⟨hB2.below (below1 _ _), one_boxD w2 y _, hB2.bel.size, fun k hk => by have := (owns_lt hB2.own k hk).2; omega⟩
        generalize w2.alloc (.cells #[.int .i64 y.who, .int .i64 y.place, .int .i64 y.op, .int .i64 y.fl, .int .i64 y.a, .int .i64 y.b, .int .i64 y.e, .slice y.ao y.len y.cap, .int .i64 y.n, .int .u64 y.v, .int .i64 y.fr, .int .i64 y.to] 31) = W at *
        generalize w2.heap.size = D at *
        clear c0 c1 c2 c3 c4 c5 c6 c7 c8 c9 c10 c11 hb2 hB2 HB
        obtain ⟨d0, d1, d2, d3, d4, d5, d6, d7, d8, d9, d10, d11⟩ := hX.bD.cells
        have o0 : W.cell? ⟨O, q, none⟩ = some (.bool (s.op q)) := (hX.bO.cell q).trans (arrB_at _ hq4)
        have oL := hX.bO.lt
        have q4 : (q : Int) < 4 := by omega
        go_wp2_with fail
        refine (mod_any y.who 4 (by omega) (by omega) _).mono ?_
        rw [QE.out]
        rintro e w' ⟨rfl, rfl⟩
        cases hop : s.op q
        · have G := F4.out hop
          have HG := Lib.hid G
          rw [hop] at o0
          clear G hop
          have hw1 : wrap64 (s.a q + modZ x.fr 4) = s.a q + modZ x.fr 4 := by have b1 := modZ_bd x.fr (n := 4) (by omega); unfold RowKit.wrap64; omega
          have hw2 : wrap64 (ldFr s x + modZ x.to 9) = ldFr s x + modZ x.to 9 := by rw [F1.out]; have b1 := modZ_bd x.fr (n := 4) (by omega); have b2 := modZ_bd x.to (n := 9) (by omega); unfold RowKit.wrap64; omega
          have hw3 : wrap64 (ldTo s x + 1) = ldTo s x + 1 := by rw [F2.out, F1.out]; have b1 := modZ_bd x.fr (n := 4) (by omega); have b2 := modZ_bd x.to (n := 9) (by omega); unfold RowKit.wrap64; omega
          have hw4 : wrap64 (s.n q + 1) = s.n q + 1 := by unfold RowKit.wrap64; omega
          have W1 := Lib.hid hw1
          have W2 := Lib.hid hw2
          have W3 := Lib.hid hw3
          have W4 := Lib.hid hw4
          clear hw1 hw2 hw3 hw4
          go_upto_region 10 with fail
          have HX := Lib.hid hX
          have n0 : W.cell? ⟨N, q, none⟩ = some (.int .i64 (s.n q)) := (hX.bN.cell q).trans (arrI_at _ hq4)
          have nL := hX.bN.lt
          have z0 := hX.bD.frozen 0
          have z1 := hX.bD.frozen 1
          have nd : ¬ N = D := hX.neA.2.1
          have ad : ¬ A = D := hX.neA.1
          have od : ¬ O = D := hX.neA.2.2
          have nd' : ¬ D = N := fun e => nd e.symm
          have ad' : ¬ D = A := fun e => ad e.symm
          have od' : ¬ D = O := fun e => od e.symm
          clear hX
          go_cut [] from 10 to 81 (fun wx => LX w wx A N O D s _ { y with who := q, place := s.n q })
          case first =>
            go_region
            all_goals
              go_wp2
              go_meet
              first
                | exact ((HX.out.putD (i := 0) (z := { y with who := q }) rfl).putD (i := 1) (z := { y with who := q, place := s.n q }) rfl).drew
                | exact ((HX.out.putD (i := 1) (z := { y with place := s.n q }) rfl).putD (i := 0) (z := { y with who := q, place := s.n q }) rfl).drew
          case rest =>
          have H1 := Lib.hid hcut
          clear hcut HX d0 d1 d2 d3 d4 d5 d6 d7 d8 d9 d10 d11 o0 oL n0 nL z0 z1
          have a0 : wc.cell? ⟨A, q, none⟩ = some (.int .i64 (s.a q)) := (H1.out.bA.cell q).trans (arrI_at _ hq4)
          have aL := H1.out.bA.lt
          have z10 := H1.out.bD.frozen 10
          obtain ⟨_, _, _, _, _, _, _, _, _, _, d10, _⟩ := H1.out.bD.cells
          obtain ⟨c0, c1, c2, c3, c4, c5, c6, c7, c8, c9, c10, c11⟩ := HC.out _ H1.out.bel
          go_upto_region 11 with fail
          go_cut [] from 10 to 81 (fun wx => LX w wx A N O D s _ { y with who := q, place := s.n q, fr := ldFr s x })
          case first =>
            go_still_tail 10, (by kernel_rfl)
            still_call ((mod_any x.fr 4 (by omega) (by omega) _).mono fun e w' h => ⟨h.1, h.2.symm⟩)
            repeat still_step
            refine wpStill_nil ?_
            change wpList _ _ _ _ _ wc.drew
            go_wp2
            go_meet
            exact H1.out.drew.putD (i := 10) (z := { y with who := q, place := s.n q, fr := ldFr s x }) (by rw [W1.out, ← F1.out]; rfl)
          case rest =>
          have H2 := Lib.hid hcut
          clear hcut H1 a0 aL z10 d10 c0 c1 c2 c3 c4 c5 c6 c7 c8 c9 c10 c11
          have z11 := H2.out.bD.frozen 11
          obtain ⟨_, _, _, _, _, _, _, _, _, _, d10, d11⟩ := H2.out.bD.cells
          obtain ⟨c0, c1, c2, c3, c4, c5, c6, c7, c8, c9, c10, c11⟩ := HC.out _ H2.out.bel
          go_upto_region 12 with fail
          go_cut [] from 10 to 81 (fun wx => LX w wx A N O D s _ { y with who := q, place := s.n q, fr := ldFr s x, «to» := ldTo s x })
          case first =>
            go_still_tail 9, (by kernel_rfl)
            still_call ((mod_any x.to 9 (by omega) (by omega) _).mono fun e w' h => ⟨h.1, h.2.symm⟩)
            repeat still_step
            refine wpStill_nil ?_
            change wpList _ _ _ _ _ wc.drew
            go_wp2
            go_meet
            exact H2.out.drew.putD (i := 11) (z := { y with who := q, place := s.n q, fr := ldFr s x, «to» := ldTo s x }) (by rw [W2.out, ← F2.out]; rfl)
          case rest =>
          have H3 := Lib.hid hcut
          clear hcut H2 z11 d10 d11 c0 c1 c2 c3 c4 c5 c6 c7 c8 c9 c10 c11
          go_upto_region 13 with fail
          have a0 : wc.cell? ⟨A, q, none⟩ = some (.int .i64 (s.a q)) := (H3.out.bA.cell q).trans (arrI_at _ hq4)
          have aL := H3.out.bA.lt
          have fA := H3.out.bA.frozen q
          obtain ⟨_, _, _, _, _, _, _, _, _, _, d10, d11⟩ := H3.out.bD.cells
          go_upto_region 14 with fail
          have H4 := Lib.hid (H3.out.putA hq4 (wrap64 (ldTo s x + 1)))
          rw [W3.out] at H4
          simp only [W3.out]
          generalize wc.setCell ⟨A, q, none⟩ (.int .i64 (ldTo s x + 1)) = W6 at *
          clear H3 a0 aL fA d10 d11
          have n0 : W6.cell? ⟨N, q, none⟩ = some (.int .i64 (s.n q)) := (H4.out.bN.cell q).trans (arrI_at _ hq4)
          have nL := H4.out.bN.lt
          have fN := H4.out.bN.frozen q
          go_upto_region 15 with fail
          have H5 := Lib.hid (H4.out.putN hq4 (wrap64 (s.n q + 1)))
          rw [W4.out] at H5
          try simp only [W4.out]
          generalize W6.setCell ⟨N, q, none⟩ (.int .i64 (s.n q + 1)) = W7 at *
          clear H4 n0 nL fN
          obtain ⟨c0, c1, c2, c3, c4, c5, c6, c7, c8, c9, c10, c11⟩ := HC.out _ H5.out.bel
          go_wp2_with fail
          refine (mod_any x.place 13 (by omega) (by omega) _).mono ?_
          rintro e w' ⟨rfl, rfl⟩
          clear c0 c1 c2 c3 c4 c5 c6 c7 c8 c9 c10 c11
          by_cases hp : modZ x.place 13 = 12
          · have e1 : (modZ x.place 13 == 12) = true := by simp [hp]
            have FL : Hid (ldLast x = true) := by unfold Hid; rw [F6.out]; simp [hp]
            clear hp
            have o0 : W7.cell? ⟨O, q, none⟩ = some (.bool (s.op q)) := (H5.out.bO.cell q).trans (arrB_at _ hq4)
            have oL := H5.out.bO.lt
            have fO := H5.out.bO.frozen q
            have z11 := H5.out.bD.frozen 11
            obtain ⟨_, _, _, _, _, _, _, _, _, _, _, d11⟩ := H5.out.bD.cells
            go_upto_region 17 with fail
            have H6 := Lib.hid ((H5.out.putD (i := 11) (u := .int .i64 (-1)) (z := { y with who := q, place := s.n q, fr := ldFr s x, «to» := -1 }) rfl).putO hq4 true)
            generalize (W7.setCell ⟨D, 11, none⟩ (.int .i64 (-1))).setCell ⟨O, q, none⟩ (.bool true) = W8 at *
            clear H5 o0 oL fO z11 d11
            obtain ⟨d0, d1, d2, d3, d4, d5, d6, d7, d8, d9, d10, d11⟩ := H6.out.bD.cells
            have hown := H6.out.own
            have hbase : w.heap.size ≤ W8.heap.size := H6.out.bel.size
            have hn2 : s.out.length + 1 ≤ 1099511627776 := by omega
            have EZ : Hid (ldD s x = { y with who := q, place := s.n q, fr := ldFr s x, «to» := -1 }) := by unfold Hid; rw [F5.out, FL.out]; rfl
            go_wp2_with ((at_builtin; refine ap_new W8 _ ED rfl _ _ rfl w.heap.size _ s.out.length _ rfl hown hbase 1 rfl rfl (by simp [Value.oneCell']) hn2 ?_; intro v' w9 hown9 hg9 hb9 hfr9))
            go_roundw
            case rel =>
              refine ⟨k + 1, by omega, by omega, by go_num, ?_⟩
              rw [S.out, HG.out, EZ.out, FL.out]
              exact H6.out.push (z := { y with who := q, place := s.n q, fr := ldFr s x, «to» := -1 }) rfl hown9 hg9 hb9
            case measure => simp [intOf]; omega
          · have e1 : (modZ x.place 13 == 12) = false := by simpa using hp
            have FL : Hid (ldLast x = false) := by unfold Hid; rw [F6.out]; simp [hp]
            clear hp
            have H6 := H5
            clear H5
            generalize W7 = W8 at *
            obtain ⟨d0, d1, d2, d3, d4, d5, d6, d7, d8, d9, d10, d11⟩ := H6.out.bD.cells
            have hown := H6.out.own
            have hbase : w.heap.size ≤ W8.heap.size := H6.out.bel.size
            have hn2 : s.out.length + 1 ≤ 1099511627776 := by omega
            have EZ : Hid (ldD s x = { y with who := q, place := s.n q, fr := ldFr s x, «to» := ldTo s x }) := by unfold Hid; rw [F5.out, FL.out]; rfl
            go_wp2_with ((at_builtin; refine ap_new W8 _ ED rfl _ _ rfl w.heap.size _ s.out.length _ rfl hown hbase 1 rfl rfl (by simp [Value.oneCell']) hn2 ?_; intro v' w9 hown9 hg9 hb9 hfr9))
            go_roundw
            case rel =>
              refine ⟨k + 1, by omega, by omega, by go_num, ?_⟩
              rw [S.out, HG.out, EZ.out, FL.out]
              exact H6.out.push (z := { y with who := q, place := s.n q, fr := ldFr s x, «to» := ldTo s x }) rfl hown9 hg9 hb9
            case measure => simp [intOf]; omega
        · have G := F3.out hop
          have HG := Lib.hid G
          rw [hop] at o0
          clear G
          have HX := Lib.hid hX
          go_wp2
          go_roundw
          case rel => exact ⟨k + 1, by omega, by omega, by go_num, by rw [S.out, HG.out]; exact HX.out.toLB⟩
          case measure => simp [intOf]; omega
      · obtain rfl : k = 40 := by omega
        have kn : (40 : Int) < n := by omega
        have E : Hid (laidD l = (ldAll (l.take 40)).out) := rfl
        go_wp2
        go_ret
        exact ⟨_, rfl, by rw [E.out]; exact HB.out.own, HB.out.bel⟩
    · obtain rfl : k = n := by omega
      have E : Hid (laidD l = (ldAll (l.take k)).out) := by unfold Hid laidD; rw [List.take_of_length_le (by rw [L0.out]; omega), List.take_of_length_le (by rw [L0.out]; omega)]
      go_wp2
      go_ret
      exact ⟨_, rfl, by rw [E.out]; exact HB.out.own, HB.out.bel⟩
end Go.Proofs.Ytonldjkmbapjeaa
