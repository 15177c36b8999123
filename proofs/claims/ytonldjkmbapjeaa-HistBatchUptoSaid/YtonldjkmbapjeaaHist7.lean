/- The law's own: calls of a few workers in a few steps. -/
import Derived.Test.YtonldjkmbapjeaaHist6
import Derived.Test.YtonldjkmbapjeaaPlayMod
import Derived.Deep.RegionWith
import Derived.Deep.CutBlock
namespace Go.Proofs.Ytonldjkmbapjeaa
set_option linter.unusedVariables false
set_option linter.unusedSimpArgs false
open Go.RowKit Go.Proofs.YtonldjkmbapjeaaMem Go.Proofs.YtonldjkmbapjeaaFlat

def errN (k : Int) : Int := if k = 0 then 0 else if k = 1 then 0 else if k = 2 then 10 else if k = 3 then 1 else 9
def toN (d : DoneS) : Int := if modZ d.to 8 = 7 then -1 else if modZ d.to 8 = 6 then modZ d.to 12 - 2 else modZ d.fr 12 + modZ d.to 6
def opN (d : DoneS) : Int := if 0 < modZ d.a 3 then 5 else 1 + modZ d.op 7
def near1 (d : DoneS) : DoneS := { d with who := modZ d.who 4, place := modZ d.place 4 }
def near2 (d : DoneS) : DoneS := { near1 d with fr := modZ d.fr 12 }
def near3 (d : DoneS) : DoneS := { near2 d with «to» := toN d }
def near4 (d : DoneS) : DoneS := { near3 d with op := 1 + modZ d.op 7 }
def near5 (d : DoneS) : DoneS := { near3 d with op := opN d }
def near6 (d : DoneS) : DoneS := { near5 d with e := errN (modZ d.e 5) }
def nearD (d : DoneS) : DoneS := if modZ d.who 31 = 30 then d else near6 d
theorem nearD_packets (d : DoneS) : (nearD d).ao = d.ao ∧ (nearD d).len = d.len ∧ (nearD d).cap = d.cap ∧ (nearD d).l = d.l := by
  unfold nearD; split <;> exact ⟨rfl, rfl, rfl, rfl⟩
theorem nearD_ok {d : DoneS} (h : d.Ok) : (nearD d).Ok := by
  unfold nearD
  split
  · exact h
  · obtain ⟨h0, h1, h2, h3, h4, h5, h6, h7, h8, h9, h10⟩ := h
    have a1 := modZ_bd d.who (n := 4) (by omega)
    have a2 := modZ_bd d.place (n := 4) (by omega)
    have a3 := modZ_bd d.fr (n := 12) (by omega)
    have a4 := modZ_bd d.to (n := 12) (by omega)
    have a5 := modZ_bd d.to (n := 6) (by omega)
    have a6 := modZ_bd d.op (n := 7) (by omega)
    refine ⟨?_, ?_, ?_, h3, h4, h5, ?_, h7, h8, ?_, ?_⟩
    all_goals unfold I64; simp only [near6, near5, near3, near2, near1, opN, toN, errN]
    · omega
    · omega
    · split <;> omega
    · (repeat' split) <;> omega
    · omega
    · (repeat' split) <;> omega
theorem BoxD.put {w : World} {b : Nat} {x : DoneS} {t : TypeId} (h : BoxD w b x t) {i : Nat} {v : Value} {y : DoneS} (e : x.cells.set i v = y.cells) : BoxD (w.setCell ⟨b, i, none⟩ v) b y t := by
  have h1 : Blk w b x.cells t := h
  have h2 := h1.set i v
  rw [e] at h2
  exact h2
theorem BoxD.far {w : World} {b : Nat} {x : DoneS} {t : TypeId} (h : BoxD w b x t) {c i : Nat} (hc : b ≠ c) (v : Value) : BoxD (w.setCell ⟨c, i, none⟩ v) b x t := Blk.set_far (cs := x.cells) h (a := ⟨c, i, none⟩) hc v
theorem BoxD.drew {w : World} {b : Nat} {x : DoneS} {t : TypeId} (h : BoxD w b x t) : BoxD w.drew b x t := h
/-- Two of them, behind what there was. -/
def TwoD (w : World) (A : Nat) (x y : DoneS) (w' : World) : Prop := BoxD w' A x 31 ∧ BoxD w' (A + 1) y 31 ∧ Below w.heap.size w w' ∧ w.heap.size ≤ A
theorem TwoD.drew {w w' : World} {A : Nat} {x y : DoneS} (h : TwoD w A x y w') : TwoD w A x y w'.drew := ⟨h.1, h.2.1, h.2.2.1.drew, h.2.2.2⟩
theorem TwoD.put {w w' : World} {A : Nat} {x y : DoneS} (h : TwoD w A x y w') {i : Nat} {v : Value} {z : DoneS} (e : x.cells.set i v = z.cells) : TwoD w A z y (w'.setCell ⟨A, i, none⟩ v) :=
  ⟨h.1.put e, h.2.1.far (by omega) v, h.2.2.1.setCell (p := ⟨A, i, none⟩) h.2.2.2 v, h.2.2.2⟩
theorem TwoD.start (w : World) (x y : DoneS) : TwoD w w.heap.size x y ((w.alloc (.cells #[.int .i64 x.who, .int .i64 x.place, .int .i64 x.op, .int .i64 x.fl, .int .i64 x.a, .int .i64 x.b, .int .i64 x.e, .slice x.ao x.len x.cap, .int .i64 x.n, .int .u64 x.v, .int .i64 x.fr, .int .i64 x.to] 31)).alloc (.cells #[.int .i64 y.who, .int .i64 y.place, .int .i64 y.op, .int .i64 y.fl, .int .i64 y.a, .int .i64 y.b, .int .i64 y.e, .slice y.ao y.len y.cap, .int .i64 y.n, .int .u64 y.v, .int .i64 y.fr, .int .i64 y.to] 31)) :=
  ⟨(two_boxesD w x y _).1, (two_boxesD w x y _).2, below2 _ _ _, Nat.le_refl _⟩
theorem TwoD.still {w w' w2 : World} {A : Nat} {x y : DoneS} (h : TwoD w A x y w') (e : w' = w2) : TwoD w A x y w2 := e ▸ h

set_option maxRecDepth 20000 in
set_option maxHeartbeats 2000000 in
theorem near_any (d : DoneS) (w : World) :
    Calls Try.prog 20 #[(.agg #[.int .i64 d.who, .int .i64 d.place, .int .i64 d.op, .int .i64 d.fl, .int .i64 d.a, .int .i64 d.b, .int .i64 d.e, .slice d.ao d.len d.cap, .int .i64 d.n, .int .u64 d.v, .int .i64 d.fr, .int .i64 d.to])] w fun e w' => e = .returned (.agg #[.int .i64 (nearD d).who, .int .i64 (nearD d).place, .int .i64 (nearD d).op, .int .i64 (nearD d).fl, .int .i64 (nearD d).a, .int .i64 (nearD d).b, .int .i64 (nearD d).e, .slice (nearD d).ao (nearD d).len (nearD d).cap, .int .i64 (nearD d).n, .int .u64 (nearD d).v, .int .i64 (nearD d).fr, .int .i64 (nearD d).to]) ∧ Below w.heap.size w w' := by
  by_cases hm : modZ d.who 31 = 30
  · have E : Hid (nearD d = d) := by unfold Hid nearD; rw [if_pos hm]
    have e1 : (modZ d.who 31 == 30) = true := by simpa using hm
    clear hm
    go_enter Try.func20, Try.ntmps20
    go_wp2_with fail
    refine (mod_any d.who 31 (by omega) (by omega) _).mono ?_
    rintro e w' ⟨rfl, rfl⟩
    go_wp2
    refine bodyPost_ret (v := (.agg #[.int .i64 d.who, .int .i64 d.place, .int .i64 d.op, .int .i64 d.fl, .int .i64 d.a, .int .i64 d.b, .int .i64 d.e, .slice d.ao d.len d.cap, .int .i64 d.n, .int .u64 d.v, .int .i64 d.fr, .int .i64 d.to])) (by simp [results, Try.results20, go_sem]) rfl ⟨by rw [E.out], ?_⟩
    exact below2 _ _ _
  · have E : Hid (nearD d = near6 d) := by unfold Hid nearD; rw [if_neg hm]
    have e1 : (modZ d.who 31 == 30) = false := by simpa using hm
    clear hm
    have m7 := modZ_bd d.op (n := 7) (by omega)
    have m12 := modZ_bd d.to (n := 12) (by omega)
    have m6 := modZ_bd d.to (n := 6) (by omega)
    have mf := modZ_bd d.fr (n := 12) (by omega)
    have m8 := modZ_bd d.to (n := 8) (by omega)
    have m5 := modZ_bd d.e (n := 5) (by omega)
    go_enter Try.func20, Try.ntmps20
    go_wp2_with fail
    refine (mod_any d.who 31 (by omega) (by omega) _).mono ?_
    rintro e w' ⟨rfl, rfl⟩
    go_upto_region 3 with fail
    have T := TwoD.start w d DoneS.zero
    obtain ⟨A, hA⟩ : ∃ A, A = w.heap.size := ⟨_, rfl⟩
    simp only [DoneS.zero] at T
    rw [← hA] at T ⊢
    generalize ((w.alloc (.cells #[.int .i64 d.who, .int .i64 d.place, .int .i64 d.op, .int .i64 d.fl, .int .i64 d.a, .int .i64 d.b, .int .i64 d.e, .slice d.ao d.len d.cap, .int .i64 d.n, .int .u64 d.v, .int .i64 d.fr, .int .i64 d.to] 31)).alloc (.cells #[.int .i64 0, .int .i64 0, .int .i64 0, .int .i64 0, .int .i64 0, .int .i64 0, .int .i64 0, .slice none 0 0, .int .i64 0, .int .u64 0, .int .i64 0, .int .i64 0] 31)) = W at *
    clear hA
    have T0 := Lib.hid T
    clear T
    go_cut [] from 7 (fun wx => TwoD w A (near1 d) DoneS.zero wx)
    case first =>
      obtain ⟨a0, a1, a2, a3, a4, a5, a6, a7, a8, a9, a10, a11⟩ := T0.out.1.cells
      have z0 := T0.out.1.frozen 0
      have z1 := T0.out.1.frozen 1
      go_region_with (first
        | (go_at_call 22; (with_reducible refine (mod_any d.who 4 (by omega) (by omega) _).mono ?_); rintro e w' ⟨rfl, rfl⟩)
        | (go_at_call 22; (with_reducible refine (mod_any d.place 4 (by omega) (by omega) _).mono ?_); rintro e w' ⟨rfl, rfl⟩))
      all_goals
        go_wp2
        go_meet
        first
          | exact ((T0.out.put (i := 0) (z := { d with who := modZ d.who 4 }) rfl).put (i := 1) (z := near1 d) rfl).drew
          | exact ((T0.out.put (i := 1) (z := { d with place := modZ d.place 4 }) rfl).put (i := 0) (z := near1 d) rfl).drew
    case rest =>
    have T := hcut
    clear T0 hcut
    obtain ⟨a0, a1, a2, a3, a4, a5, a6, a7, a8, a9, a10, a11⟩ := T.1.cells
    simp only [near1] at a0 a1 a2 a3 a4 a5 a6 a7 a8 a9 a10 a11
    have z10 := T.1.frozen 10
    go_wp2_with fail
    refine (mod_any d.fr 12 (by omega) (by omega) _).mono ?_
    rintro e w' ⟨rfl, rfl⟩
    go_upto_region 5 with fail
    have T2 : TwoD w A (near2 d) DoneS.zero (wc.setCell ⟨A, 10, none⟩ (.int .i64 (modZ d.fr 12))) := T.put rfl
    generalize wc.setCell ⟨A, 10, none⟩ (.int .i64 (modZ d.fr 12)) = W2 at *
    clear T a0 a1 a2 a3 a4 a5 a6 a7 a8 a9 a10 a11 z10
    obtain ⟨a0, a1, a2, a3, a4, a5, a6, a7, a8, a9, a10, a11⟩ := T2.1.cells
    simp only [near2, near1] at a0 a1 a2 a3 a4 a5 a6 a7 a8 a9 a10 a11
    have z10 := T2.1.frozen 11
    go_wp2_with fail
    refine (mod_any d.to 8 (by omega) (by omega) _).mono ?_
    rintro e w' ⟨rfl, rfl⟩
    go_upto_block 0 with fail
    have TH := Lib.hid T2
    clear T2
    go_cut [] from 30 (fun wx => TwoD w A (near3 d) DoneS.zero wx)
    case first =>
      by_cases t7 : modZ d.to 8 = 7
      · have e7 : (modZ d.to 8 == 7) = true := by simpa using t7
        have ET : Hid (toN d = -1) := by unfold Hid toN; rw [if_pos t7]
        clear t7
        go_wp2
        go_meet
        exact TH.out.put (by unfold near3; rw [ET.out]; rfl)
      · have e7 : (modZ d.to 8 == 7) = false := by simpa using t7
        by_cases t6 : modZ d.to 8 = 6
        · have e6 : (modZ d.to 8 == 6) = true := by simpa using t6
          have ET : Hid (toN d = modZ d.to 12 - 2) := by unfold Hid toN; rw [if_neg t7, if_pos t6]
          clear t7 t6
          go_wp2_with fail
          refine (mod_any d.to 12 (by omega) (by omega) _).mono ?_
          rintro e w' ⟨rfl, rfl⟩
          go_wp2
          go_meet
          exact TH.out.put (by unfold near3; rw [ET.out]; rfl)
        · have e6 : (modZ d.to 8 == 6) = false := by simpa using t6
          have ET : Hid (toN d = modZ d.fr 12 + modZ d.to 6) := by unfold Hid toN; rw [if_neg t7, if_neg t6]
          have hsum : IntKind.i64.wrap (modZ d.fr 12 + modZ d.to 6) = modZ d.fr 12 + modZ d.to 6 := by rw [IntKind.wrap_i64]; omega
          have HS := Lib.hid hsum
          clear t7 t6
          go_wp2_with fail
          go_region_with (first
            | (go_at_call 22; (with_reducible refine (mod_any d.to 6 (by omega) (by omega) _).mono ?_); rintro e w' ⟨rfl, rfl⟩))
          all_goals
            go_wp2
            go_meet
            exact (TH.out.put (by unfold near3; rw [ET.out]; simp only [HS.out]; rfl)).drew
    case rest =>
    have T := hcut
    clear TH hcut a0 a1 a2 a3 a4 a5 a6 a7 a8 a9 a10 a11 z10
    obtain ⟨a0, a1, a2, a3, a4, a5, a6, a7, a8, a9, a10, a11⟩ := T.1.cells
    simp only [near3, near2, near1] at a0 a1 a2 a3 a4 a5 a6 a7 a8 a9 a10 a11
    have z10 := T.1.frozen 2
    go_wp2_with fail
    refine (mod_any d.op 7 (by omega) (by omega) _).mono ?_
    rintro e w' ⟨rfl, rfl⟩
    go_upto_region 12 with fail
    have T2 : TwoD w A (near4 d) DoneS.zero (wc.setCell ⟨A, 2, none⟩ (.int .i64 (1 + modZ d.op 7))) := T.put rfl
    generalize wc.setCell ⟨A, 2, none⟩ (.int .i64 (1 + modZ d.op 7)) = W3 at *
    clear T a0 a1 a2 a3 a4 a5 a6 a7 a8 a9 a10 a11 z10
    obtain ⟨a0, a1, a2, a3, a4, a5, a6, a7, a8, a9, a10, a11⟩ := T2.1.cells
    simp only [near4, near3, near2, near1] at a0 a1 a2 a3 a4 a5 a6 a7 a8 a9 a10 a11
    have z10 := T2.1.frozen 2
    go_wp2_with fail
    refine (mod_any d.a 3 (by omega) (by omega) _).mono ?_
    rintro e w' ⟨rfl, rfl⟩
    go_upto_if 51 with fail
    have TH := Lib.hid T2
    clear T2
    go_cut [] from 52 (fun wx => TwoD w A (near5 d) DoneS.zero wx)
    case first =>
      by_cases t3 : 0 < modZ d.a 3
      · have EO : Hid (opN d = 5) := by unfold Hid opN; rw [if_pos t3]
        go_wp2
        go_meet
        exact TH.out.put (by unfold near5; rw [EO.out]; rfl)
      · have EO : Hid (opN d = 1 + modZ d.op 7) := by unfold Hid opN; rw [if_neg t3]
        go_wp2
        go_meet
        exact (show near5 d = near4 d by unfold near5; rw [EO.out]; rfl) ▸ TH.out
    case rest =>
    have T := hcut
    clear TH hcut a0 a1 a2 a3 a4 a5 a6 a7 a8 a9 a10 a11 z10
    obtain ⟨a0, a1, a2, a3, a4, a5, a6, a7, a8, a9, a10, a11⟩ := T.1.cells
    simp only [near5, near3, near2, near1] at a0 a1 a2 a3 a4 a5 a6 a7 a8 a9 a10 a11
    have z10 := T.1.frozen 6
    have hAl := T.1.lt
    have TH := Lib.hid T
    clear T
    go_upto_region 14 with fail
    go_cut [] from 54 (fun wx => TwoD w A (near6 d) DoneS.zero wx)
    case first =>
      obtain ⟨M, hM⟩ : ∃ M, modZ d.e 5 = M := ⟨_, rfl⟩
      rw [hM] at m5
      rcases (show M = 0 ∨ M = 1 ∨ M = 2 ∨ M = 3 ∨ M = 4 by omega) with rfl | rfl | rfl | rfl | rfl
      all_goals
        have HM := Lib.hid hM
        clear hM m5
        go_wp2_with fail
        refine (mod_any d.e 5 (by omega) (by omega) _).mono ?_
        rw [HM.out]
        rintro e w' ⟨rfl, rfl⟩
        go_wp2
        go_meet
        have T6 := TH.out.put (i := 6) (z := near6 d) (by unfold near6; rw [HM.out]; rfl)
        exact ⟨T6.1.below (below1 _ _), T6.2.1.below (below1 _ _), T6.2.2.1.alloc (by have := T6.2.2.1.size; exact this) _, T6.2.2.2⟩
    case rest =>
    have T := hcut
    clear TH hcut a0 a1 a2 a3 a4 a5 a6 a7 a8 a9 a10 a11 z10
    obtain ⟨a0, a1, a2, a3, a4, a5, a6, a7, a8, a9, a10, a11⟩ := T.1.cells
    obtain ⟨b0, b1, b2, b3, b4, b5, b6, b7, b8, b9, b10, b11⟩ := T.2.1.cells
    simp only [DoneS.zero] at b0 b1 b2 b3 b4 b5 b6 b7 b8 b9 b10 b11
    have z0 := T.2.1.frozen 0
    have z1 := T.2.1.frozen 1
    have z2 := T.2.1.frozen 2
    have z3 := T.2.1.frozen 3
    have z4 := T.2.1.frozen 4
    have z5 := T.2.1.frozen 5
    have z6 := T.2.1.frozen 6
    have z7 := T.2.1.frozen 7
    have z8 := T.2.1.frozen 8
    have z9 := T.2.1.frozen 9
    have z10 := T.2.1.frozen 10
    have z11 := T.2.1.frozen 11
    have TH := Lib.hid T
    clear T
    go_wp2
    have hle : w.heap.size ≤ A + 1 := by have := TH.out.2.2.2; omega
    refine bodyPost_ret (v := (.agg #[.int .i64 (near6 d).who, .int .i64 (near6 d).place, .int .i64 (near6 d).op, .int .i64 (near6 d).fl, .int .i64 (near6 d).a, .int .i64 (near6 d).b, .int .i64 (near6 d).e, .slice (near6 d).ao (near6 d).len (near6 d).cap, .int .i64 (near6 d).n, .int .u64 (near6 d).v, .int .i64 (near6 d).fr, .int .i64 (near6 d).to])) (by simp [results, Try.results20, go_sem, b0, b1, b2, b3, b4, b5, b6, b7, b8, b9, b10, b11]) rfl ⟨by rw [E.out], ?_⟩
    exact ((((((((((((TH.out.2.2.1.setCell (p := ⟨A + 1, 0, none⟩) hle _).setCell (p := ⟨A + 1, 1, none⟩) hle _).setCell (p := ⟨A + 1, 2, none⟩) hle _).setCell (p := ⟨A + 1, 3, none⟩) hle _).setCell (p := ⟨A + 1, 4, none⟩) hle _).setCell (p := ⟨A + 1, 5, none⟩) hle _).setCell (p := ⟨A + 1, 6, none⟩) hle _).setCell (p := ⟨A + 1, 7, none⟩) hle _).setCell (p := ⟨A + 1, 8, none⟩) hle _).setCell (p := ⟨A + 1, 9, none⟩) hle _).setCell (p := ⟨A + 1, 10, none⟩) hle _).setCell (p := ⟨A + 1, 11, none⟩) hle _)
end Go.Proofs.Ytonldjkmbapjeaa
