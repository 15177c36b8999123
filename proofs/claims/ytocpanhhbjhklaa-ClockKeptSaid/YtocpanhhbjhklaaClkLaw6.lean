/- The laws on clocks, the last: what is handed in is kept. -/
import Derived.Test.YtocpanhhbjhklaaClkLaw5
namespace Go.Proofs.Ytocpanhhbjhklaa
set_option linter.unusedVariables false
set_option linter.unusedSimpArgs false
open Go.RowKit Go.Proofs.YtocpanhhbjhklaaMem Go.Proofs.YtocpanhhbjhklaaFlat


set_option maxHeartbeats 2000000 in
theorem ClockKept_any (w : World) (a0 : Option Addr) (n0 c0 : Nat) (L0 : List (List Value)) (h0 : IsRows w [.int .i64] a0 n0 c0 L0) (a1 : Option Addr) (n1 c1 : Nat) (L1 : List (List Value)) (h1 : IsRows w [.int .i64] a1 n1 c1 L1) (i : Int) (hi : (Lit.int .i64 i).wf = true) :
    Calls Try.prog 8 #[.slice a0 n0 c0, .slice a1 n1 c1, .int .i64 i] w fun e w' => e = .returned (.bool true) ∧ Below w.heap.size w w' := by
  obtain ⟨x, r0⟩ := isRows_rdI h0
  obtain ⟨y, r1⟩ := isRows_rdI h1
  have FA := Lib.hid (near_fits r0.fits)
  have FB := Lib.hid (near_fits r1.fits)
  obtain ⟨i0, i1⟩ := modZ_bd i (n := 66) (by omega)
  have hnear0 := fun w h => near_any a0 n0 c0 x w h
  have hnear1 := fun w h => near_any a1 n1 c1 y w h
  obtain ⟨m0, hm0⟩ : ∃ m, min n0 70 = m := ⟨_, rfl⟩
  obtain ⟨m1, hm1⟩ : ∃ m, min n1 70 = m := ⟨_, rfl⟩
  rw [hm0] at hnear0
  rw [hm1] at hnear1
  have b0 : m0 ≤ 70 := by omega
  have b1 : m1 ≤ 70 := by omega
  clear hm0 hm1
  generalize nearC x = A at *
  generalize nearC y = B at *
  have HN0 := Lib.hid hnear0
  have HN1 := Lib.hid hnear1
  clear hnear0 hnear1
  have hq := eqI_all
  go_enter Try.func8, Try.ntmps8
  have B0 := Below.refl w.heap.size w
  go_wp2_with fail
  refine (HN0.out _ r0).mono ?_
  rintro e w1 ⟨v, rfl, hown, hb⟩
  have B1 := below_step B0 hb
  clear B0
  replace r0 := RdI.below (B := 0) r0 hb
  replace r1 := RdI.below (B := 0) r1 hb
  clear hb
  obtain ⟨ara, cra, rfl⟩ := owns_slice hown
  have ra := owns_rdI hown FA.out
  clear hown
  go_wp2_with fail
  refine (HN1.out _ r1).mono ?_
  rintro e w2 ⟨v, rfl, hown, hb⟩
  have B2 := below_step B1 hb
  clear B1
  replace r0 := RdI.below (B := 0) r0 hb
  replace r1 := RdI.below (B := 0) r1 hb
  replace ra := RdI.below (B := 0) ra hb
  clear hb
  obtain ⟨arb, crb, rfl⟩ := owns_slice hown
  have rb := owns_rdI hown FB.out
  clear hown
  clear r0 r1
  go_wp2_with fail
  refine (mod_any _ _ (by omega) (by omega) _).mono ?_
  rintro e w' ⟨rfl, rfl⟩
  have RA := Lib.hid ra
  have RB := Lib.hid rb
  have BB2 := Lib.hid B2
  go_wp2_with fail
  refine (ownI_any _ _ _ _ 77 _ ra (by omega)).mono ?_
  rintro e w3 ⟨gx, rfl, hgx, hgx2, hox, hb3⟩
  have rb3 := RdI.below (B := 0) rb hb3
  go_wp2_with fail
  refine (ownI_any _ _ _ _ 78 _ rb3 (by omega)).mono ?_
  rintro e w4 ⟨gy, rfl, hgy, hgy2, hoy, hb4⟩
  have ox := OwnedI.below hox hb4
  have hb34 := below_step hb3 hb4
  replace ra := RdI.below (B := 0) ra hb34
  replace rb := RdI.below (B := 0) rb hb34
  have rx := ox.rd FA.out
  have ry := hoy.rd FB.out
  have gx4 : gx < w4.heap.size := Nat.lt_of_lt_of_le hgx2 hb4.size
  have hsz24 : w2.heap.size ≤ w4.heap.size := hb34.size
  have C4 := hb34
  clear hox rb3 hb3 hb4 hb34 B2
  go_wp2_with fail
  refine (tick_any _ _ _ _ _ _ rx (by omega)).mono ?_
  rintro e w5 ⟨t, rfl, ot, hb5⟩
  have hsz45 : w4.heap.size ≤ w5.heap.size := hb5.size
  have tl := Lib.hid ot.lt
  replace ra := RdI.below (B := 0) ra hb5
  replace rb := RdI.below (B := 0) rb hb5
  replace rx := RdI.below (B := 0) rx hb5
  replace ry := RdI.below (B := 0) ry hb5
  replace ox := OwnedI.below ox hb5
  replace hoy := OwnedI.below hoy hb5
  have C5 := below_step C4 hb5
  clear C4 hb5
  go_wp2_with fail
  refine (join_any _ _ _ _ _ _ _ _ _ rx ry (by omega) (by omega)).mono ?_
  rintro e w6 ⟨jj, rfl, oj, hb6⟩
  have hsz56 : w5.heap.size ≤ w6.heap.size := hb6.size
  have jl := Lib.hid oj.lt
  replace ra := RdI.below (B := 0) ra hb6
  replace rb := RdI.below (B := 0) rb hb6
  replace rx := RdI.below (B := 0) rx hb6
  replace ry := RdI.below (B := 0) ry hb6
  replace ox := OwnedI.below ox hb6
  replace hoy := OwnedI.below hoy hb6
  replace ot := owns_below (B := 0) ot hb6
  have C6 := below_step C5 hb6
  clear C5 hb6
  obtain ⟨at_, ct, rfl⟩ := owns_slice ot
  obtain ⟨aj, cj, rfl⟩ := owns_slice oj
  have rt := owns_rdI ot (tick_fits FA.out _)
  have rj := owns_rdI oj (join_fits FA.out FB.out)
  have NT := Lib.hid (show tickN m0 (modZ i 66 - 1) ≤ 100 by unfold tickN; split <;> omega)
  go_wp2_with fail
  refine (awake_any _).mono ?_
  rintro e w7 ⟨rfl, hb⟩
  have B7 := below_step C6 hb
  clear C6
  replace ra := RdI.below (B := 0) ra hb
  replace rb := RdI.below (B := 0) rb hb
  replace rx := RdI.below (B := 0) rx hb
  replace ry := RdI.below (B := 0) ry hb
  replace rt := RdI.below (B := 0) rt hb
  replace rj := RdI.below (B := 0) rj hb
  replace ox := OwnedI.below ox hb
  replace hoy := OwnedI.below hoy hb
  replace ot := owns_below (B := 0) ot hb
  replace oj := owns_below (B := 0) oj hb
  clear hb
  go_wp2_with fail
  refine (refTick_any _ _ _ _ _ _ ra (by omega)).mono ?_
  rintro e w8 ⟨v, rfl, hown, hb⟩
  have B8 := below_step B7 hb
  clear B7
  replace ra := RdI.below (B := 0) ra hb
  replace rb := RdI.below (B := 0) rb hb
  replace rx := RdI.below (B := 0) rx hb
  replace ry := RdI.below (B := 0) ry hb
  replace rt := RdI.below (B := 0) rt hb
  replace rj := RdI.below (B := 0) rj hb
  replace ox := OwnedI.below ox hb
  replace hoy := OwnedI.below hoy hb
  replace ot := owns_below (B := 0) ot hb
  replace oj := owns_below (B := 0) oj hb
  clear hb
  obtain ⟨ars, crs, rfl⟩ := owns_slice hown
  have rs := owns_rdI hown (tick_fits FA.out _)
  clear hown
  go_wp2_with fail
  refine (plainI_any _ _ _ _ _ _ _ _ _ rt rs).mono ?_
  rintro e w9 ⟨rfl, hb⟩
  have B9 := below_step B8 hb
  clear B8
  replace ra := RdI.below (B := 0) ra hb
  replace rb := RdI.below (B := 0) rb hb
  replace rx := RdI.below (B := 0) rx hb
  replace ry := RdI.below (B := 0) ry hb
  replace rt := RdI.below (B := 0) rt hb
  replace rj := RdI.below (B := 0) rj hb
  replace ox := OwnedI.below ox hb
  replace hoy := OwnedI.below hoy hb
  replace ot := owns_below (B := 0) ot hb
  replace oj := owns_below (B := 0) oj hb
  replace rs := RdI.below (B := 0) rs hb
  clear hb
  clear rs rt
  go_wp2_with fail
  refine (refJoin_any _ _ _ _ _ _ _ _ _ ra rb (by omega) (by omega)).mono ?_
  rintro e w10 ⟨v, rfl, hown, hb⟩
  have B10 := below_step B9 hb
  clear B9
  replace ra := RdI.below (B := 0) ra hb
  replace rb := RdI.below (B := 0) rb hb
  replace rx := RdI.below (B := 0) rx hb
  replace ry := RdI.below (B := 0) ry hb
  replace rj := RdI.below (B := 0) rj hb
  replace ox := OwnedI.below ox hb
  replace hoy := OwnedI.below hoy hb
  replace ot := owns_below (B := 0) ot hb
  replace oj := owns_below (B := 0) oj hb
  clear hb
  obtain ⟨ars, crs, rfl⟩ := owns_slice hown
  have rs := owns_rdI hown (join_fits FA.out FB.out)
  clear hown
  go_wp2_with fail
  refine (plainI_any _ _ _ _ _ _ _ _ _ rj rs).mono ?_
  rintro e w11 ⟨rfl, hb⟩
  have B11 := below_step B10 hb
  clear B10
  replace ra := RdI.below (B := 0) ra hb
  replace rb := RdI.below (B := 0) rb hb
  replace rx := RdI.below (B := 0) rx hb
  replace ry := RdI.below (B := 0) ry hb
  replace rj := RdI.below (B := 0) rj hb
  replace ox := OwnedI.below ox hb
  replace hoy := OwnedI.below hoy hb
  replace ot := owns_below (B := 0) ot hb
  replace oj := owns_below (B := 0) oj hb
  replace rs := RdI.below (B := 0) rs hb
  clear hb
  clear rs rj
  go_wp2_with fail
  refine (leq_any _ _ _ _ _ _ _ _ _ rx ry (by omega) (by omega)).mono ?_
  rintro e w12 ⟨rfl, hb⟩
  have B12 := below_step B11 hb
  clear B11
  replace ra := RdI.below (B := 0) ra hb
  replace rb := RdI.below (B := 0) rb hb
  replace rx := RdI.below (B := 0) rx hb
  replace ry := RdI.below (B := 0) ry hb
  replace ox := OwnedI.below ox hb
  replace hoy := OwnedI.below hoy hb
  replace ot := owns_below (B := 0) ot hb
  replace oj := owns_below (B := 0) oj hb
  clear hb
  go_wp2_with fail
  refine (cmp_any _ _ _ _ _ _ _ _ _ rx ry (by omega) (by omega)).mono ?_
  rintro e w13 ⟨rfl, hb⟩
  have B13 := below_step B12 hb
  clear B12
  replace ra := RdI.below (B := 0) ra hb
  replace rb := RdI.below (B := 0) rb hb
  replace rx := RdI.below (B := 0) rx hb
  replace ry := RdI.below (B := 0) ry hb
  replace ox := OwnedI.below ox hb
  replace hoy := OwnedI.below hoy hb
  replace ot := owns_below (B := 0) ot hb
  replace oj := owns_below (B := 0) oj hb
  clear hb
  clear ra rb rx ry
  go_wp2_with fail
  refine (spoilI_any _ _ _ _ _ ot).mono ?_
  rintro e wa ⟨rfl, ga⟩
  have nx : ∀ k, (Value.slice at_ (tickN m0 (modZ i 66 - 1)) ct).ownBlock = some k → k ≠ gx ∧ k ≠ gy ∧ w2.heap.size ≤ k := fun k hk => by have := (tl.out k hk).1; omega
  have oxa := ox.grown ga (fun e => (nx gx e).1 rfl)
  have oya := hoy.grown ga (fun e => (nx gy e).2.1 rfl)
  have oja := owns_grown oj ga (fun k hk e => by have := (tl.out k e).2; have := (jl.out k hk).1; omega)
  have Ca := B13.grown ga B13.size (fun k hk => (nx k hk).2.2)
  clear ot oj ox hoy
  go_wp2_with fail
  refine (spoilI_any _ _ _ _ _ oja).mono ?_
  rintro e wb ⟨rfl, gb⟩
  have ny : ∀ k, (Value.slice aj (maxN m0 m1) cj).ownBlock = some k → k ≠ gx ∧ k ≠ gy ∧ w2.heap.size ≤ k := fun k hk => by have := (jl.out k hk).1; omega
  have oxb := oxa.grown gb (fun e => (ny gx e).1 rfl)
  have oyb := oya.grown gb (fun e => (ny gy e).2.1 rfl)
  have Cb := Ca.grown gb Ca.size (fun k hk => (ny k hk).2.2)
  have ra := RdI.below (B := 0) RA.out Cb
  have rb := RdI.below (B := 0) RB.out Cb
  clear oxa oya oja nx ny ga gb
  go_wp2_with fail
  refine (keptI_any _ _ _ _ _ 77 _ oxb ra (by omega)).mono ?_
  rintro e wc ⟨rfl, hbc⟩
  have oyc := OwnedI.below oyb hbc
  replace rb := RdI.below (B := 0) rb hbc
  go_wp2_with fail
  refine (keptI_any _ _ _ _ _ 78 _ oyc rb (by omega)).mono ?_
  rintro e wd ⟨rfl, hbd⟩
  go_wp2
  go_ret
  exact ⟨rfl, below_step (below_step (BB2.out.trans (Cb.mono BB2.out.size)) hbc) hbd⟩

end Go.Proofs.Ytocpanhhbjhklaa
