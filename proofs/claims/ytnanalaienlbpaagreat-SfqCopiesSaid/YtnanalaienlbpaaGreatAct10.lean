/- An act of law10, made near. -/
import Derived.Test.YtnanalaienlbpaaGreatTwo
import Derived.Deep.CutRange
import Derived.StillTailTactics
namespace Go.Proofs.YtnanalaienlbpaaGreat
set_option linter.unusedVariables false
set_option linter.unusedSimpArgs false
set_option maxRecDepth 20000
open Go.RowKit Go.Proofs.YtnanalaienlbpaaGreatMem Go.Proofs.YtnanalaienlbpaaGreatMapK

structure ActT where
  kind : Int
  flow : Int
  most : Int
  r : Int
  p : Pk
structure ActT.Ok (a : ActT) : Prop where
  kind : I64 a.kind
  flow : I64 a.flow
  most : I64 a.most
  r : W64 a.r
  p : a.p.Ok
def c7 (k f m r pf pl pm : Int) : List Value := [.int .i64 k, .int .i64 f, .int .i64 m, .int .u64 r, .int .i64 pf, .int .i64 pl, .int .i64 pm]
def ActT.cells (a : ActT) : List Value := c7 a.kind a.flow a.most a.r a.p.flow a.p.len a.p.mark
def nF (f : Int) : Int := if modZ f 21 = 20 then f else modZ f 5
def nR (r : Int) : Int := if r % 9 < 7 then 1 + r % 12 else r
def nL (n : Int) : Int := if modZ n 13 = 12 then n else modZ n 12
def nM (m : Int) : Int := if 0 < modZ m 5 then modZ m 10 else m
def ActT.near (a : ActT) : ActT := ⟨a.kind, nF a.flow, nM a.most, nR a.r, ⟨nF a.flow, nL a.p.len, a.p.mark⟩⟩
theorem nF_i64 {f : Int} (h : I64 f) : I64 (nF f) := by
  unfold nF
  split
  · exact h
  · have := modZ_bd f (n := 5) (by omega); unfold I64; omega
theorem nL_i64 {f : Int} (h : I64 f) : I64 (nL f) := by
  unfold nL
  split
  · exact h
  · have := modZ_bd f (n := 12) (by omega); unfold I64; omega
theorem nM_i64 {f : Int} (h : I64 f) : I64 (nM f) := by
  unfold nM
  split
  · have := modZ_bd f (n := 10) (by omega); unfold I64; omega
  · exact h
theorem nR_w64 {f : Int} (h : W64 f) : W64 (nR f) := by
  unfold nR
  split
  · unfold W64; omega
  · exact h
theorem ActT.near_ok {a : ActT} (h : a.Ok) : a.near.Ok := ⟨h.kind, nF_i64 h.flow, nM_i64 h.most, nR_w64 h.r, nF_i64 h.flow, nL_i64 h.p.2.1, h.p.2.2⟩

/-- Where making it near stands. -/
def NearSt (w wx : World) (cs : List Value) : Prop := Blk wx w.heap.size cs 36 ∧ Blk wx (w.heap.size + 1) (c7 0 0 0 0 0 0 0) 36 ∧ Below w.heap.size w wx
theorem NearSt.set {w wx : World} {cs : List Value} (h : NearSt w wx cs) (i : Nat) (v : Value) : NearSt w (wx.setCell ⟨w.heap.size, i, none⟩ v) (cs.set i v) :=
  ⟨h.1.set i v, h.2.1.set_far (by simp) v, h.2.2.setCell (p := ⟨w.heap.size, i, none⟩) (Nat.le_refl _) v⟩

set_option maxHeartbeats 2000000 in
theorem near_any (a : ActT) (w : World) (ha : a.Ok) :
    Calls Tryz.prog 22 #[.agg #[.int .i64 a.kind, .int .i64 a.flow, .int .i64 a.most, .int .u64 a.r, .int .i64 a.p.flow, .int .i64 a.p.len, .int .i64 a.p.mark]] w fun e w' => e = .returned (.agg #[.int .i64 a.near.kind, .int .i64 a.near.flow, .int .i64 a.near.most, .int .u64 a.near.r, .int .i64 a.near.p.flow, .int .i64 a.near.p.len, .int .i64 a.near.p.mark]) ∧ Below w.heap.size w w' := by
  obtain ⟨k, f, m, r, ⟨pf, pl, pm⟩⟩ := a
  have hr : 0 ≤ r ∧ r < 18446744073709551616 := ha.r
  simp only [ActT.near]
  have b21 := modZ_bd f (n := 21) (by omega)
  have b5 := modZ_bd f (n := 5) (by omega)
  have l13 := modZ_bd pl (n := 13) (by omega)
  have l12 := modZ_bd pl (n := 12) (by omega)
  have m5 := modZ_bd m (n := 5) (by omega)
  have m10 := modZ_bd m (n := 10) (by omega)
  have HF : Hid (nF f = if modZ f 21 = 20 then f else modZ f 5) := rfl
  have HR : Hid (nR r = if r % 9 < 7 then 1 + r % 12 else r) := rfl
  have HL : Hid (nL pl = if modZ pl 13 = 12 then pl else modZ pl 12) := rfl
  have HM : Hid (nM m = if 0 < modZ m 5 then modZ m 10 else m) := rfl
  generalize nF f = NF at *
  generalize nR r = NR at *
  generalize nL pl = NL at *
  generalize nM m = NM at *
  have S0 : NearSt w ((w.alloc (.cells (c7 k f m r pf pl pm).toArray 36)).alloc (.cells (c7 0 0 0 0 0 0 0).toArray 36)) (c7 k f m r pf pl pm) := by
    refine ⟨(Blk.new w _ _).alloc _, ?_, (below1 _ _).alloc (by simp) _⟩
    have := Blk.new (w.alloc (.cells (c7 k f m r pf pl pm).toArray 36)) (c7 0 0 0 0 0 0 0) 36
    rw [show (w.alloc (.cells (c7 k f m r pf pl pm).toArray 36)).heap.size = w.heap.size + 1 by simp] at this
    exact this
  unfold c7 at S0
  clear ha
  go_enter Tryz.func22, Tryz.ntmps22
  go_upto_region 1 with fail
  generalize ((w.alloc (.cells [.int .i64 k, .int .i64 f, .int .i64 m, .int .u64 r, .int .i64 pf, .int .i64 pl, .int .i64 pm].toArray 36)).alloc (.cells [.int .i64 0, .int .i64 0, .int .i64 0, .int .u64 0, .int .i64 0, .int .i64 0, .int .i64 0].toArray 36)) = W at *
  have c1 := S0.1.cell 1
  have c2 := S0.1.cell 2
  have c3 := S0.1.cell 3
  have c5 := S0.1.cell 5
  have z1 := S0.1.frozen 1
  have z2 := S0.1.frozen 2
  have z3 := S0.1.frozen 3
  have z5 := S0.1.frozen 5
  have hlt := S0.1.lt
  simp only [List.getElem?_cons_succ, List.getElem?_cons_zero] at c1 c2 c3 c5
  have HS := Lib.hid S0
  clear S0
  go_wp2_with fail
  refine (mod_any _ _ (by omega) (by omega) _).mono ?_
  rintro e w' ⟨rfl, rfl⟩
  go_upto_if 6 with fail
  generalize hX : (modZ f 21 != 20) = X
  go_cut [] from 7 to 10 (fun wx => NearSt w wx [.int .i64 k, .int .i64 NF, .int .i64 m, .int .u64 r, .int .i64 pf, .int .i64 pl, .int .i64 pm])
  case first =>
    cases X with
    | true =>
      have e0 : NF = modZ f 5 := by rw [HF.out]; rw [if_neg (by simpa using hX)]
      have E0 := Lib.hid e0
      clear e0 hX
      go_wp2_with fail
      refine (mod_any _ _ (by omega) (by omega) _).mono ?_
      rintro e w' ⟨rfl, rfl⟩
      go_wp2
      go_meet
      rw [E0.out]
      exact HS.out.set 1 _
    | false =>
      have e0 : NF = f := by rw [HF.out]; rw [if_pos (by simpa using hX)]
      have E0 := Lib.hid e0
      clear e0 hX
      go_wp2
      go_meet
      rw [E0.out]
      exact HS.out
  case rest =>
  clear c1 c2 c3 c5 z1 z2 z3 z5 hlt HS hX
  have S1 : NearSt w wc [.int .i64 k, .int .i64 NF, .int .i64 m, .int .u64 r, .int .i64 pf, .int .i64 pl, .int .i64 pm] := hcut
  clear hcut
  generalize wc = W1 at *
  have c1 := S1.1.cell 1
  have c2 := S1.1.cell 2
  have c3 := S1.1.cell 3
  have c5 := S1.1.cell 5
  have z1 := S1.1.frozen 1
  have z2 := S1.1.frozen 2
  have z3 := S1.1.frozen 3
  have z5 := S1.1.frozen 5
  have hlt := S1.1.lt
  simp only [List.getElem?_cons_succ, List.getElem?_cons_zero] at c1 c2 c3 c5
  have HS := Lib.hid S1
  clear S1
  go_upto_if 14 with fail
  generalize hX : (decide (r % 9 < 7)) = X
  go_cut [] from 15 to 19 (fun wx => NearSt w wx [.int .i64 k, .int .i64 NF, .int .i64 m, .int .u64 NR, .int .i64 pf, .int .i64 pl, .int .i64 pm])
  case first =>
    cases X with
    | true =>
      have e0 : NR = 1 + r % 12 := by rw [HR.out]; rw [if_pos (by simpa using hX)]
      have E0 := Lib.hid e0
      clear e0 hX
      go_wp2
      go_meet
      rw [E0.out]
      exact HS.out.set 3 _
    | false =>
      have e0 : NR = r := by rw [HR.out]; rw [if_neg (by simpa using hX)]
      have E0 := Lib.hid e0
      clear e0 hX
      go_wp2
      go_meet
      rw [E0.out]
      exact HS.out
  case rest =>
  clear c1 c2 c3 c5 z1 z2 z3 z5 hlt HS hX
  have S2 : NearSt w wc [.int .i64 k, .int .i64 NF, .int .i64 m, .int .u64 NR, .int .i64 pf, .int .i64 pl, .int .i64 pm] := hcut
  clear hcut
  generalize wc = W2 at *
  have c1 := S2.1.cell 1
  have c2 := S2.1.cell 2
  have c3 := S2.1.cell 3
  have c5 := S2.1.cell 5
  have z1 := S2.1.frozen 1
  have z2 := S2.1.frozen 2
  have z3 := S2.1.frozen 3
  have z5 := S2.1.frozen 5
  have hlt := S2.1.lt
  simp only [List.getElem?_cons_succ, List.getElem?_cons_zero] at c1 c2 c3 c5
  have HS := Lib.hid S2
  clear S2
  go_wp2_with fail
  refine (mod_any _ _ (by omega) (by omega) _).mono ?_
  rintro e w' ⟨rfl, rfl⟩
  go_upto_if 24 with fail
  generalize hX : (modZ pl 13 != 12) = X
  go_cut [] from 25 to 30 (fun wx => NearSt w wx [.int .i64 k, .int .i64 NF, .int .i64 m, .int .u64 NR, .int .i64 pf, .int .i64 NL, .int .i64 pm])
  case first =>
    cases X with
    | true =>
      have e0 : NL = modZ pl 12 := by rw [HL.out]; rw [if_neg (by simpa using hX)]
      have E0 := Lib.hid e0
      clear e0 hX
      go_wp2_with fail
      refine (mod_any _ _ (by omega) (by omega) _).mono ?_
      rintro e w' ⟨rfl, rfl⟩
      go_wp2
      go_meet
      rw [E0.out]
      exact HS.out.set 5 _
    | false =>
      have e0 : NL = pl := by rw [HL.out]; rw [if_pos (by simpa using hX)]
      have E0 := Lib.hid e0
      clear e0 hX
      go_wp2
      go_meet
      rw [E0.out]
      exact HS.out
  case rest =>
  clear c1 c2 c3 c5 z1 z2 z3 z5 hlt HS hX
  have S3 : NearSt w wc [.int .i64 k, .int .i64 NF, .int .i64 m, .int .u64 NR, .int .i64 pf, .int .i64 NL, .int .i64 pm] := hcut
  clear hcut
  generalize wc = W3 at *
  have c1 := S3.1.cell 1
  have c2 := S3.1.cell 2
  have c3 := S3.1.cell 3
  have c5 := S3.1.cell 5
  have z1 := S3.1.frozen 1
  have z2 := S3.1.frozen 2
  have z3 := S3.1.frozen 3
  have z5 := S3.1.frozen 5
  have hlt := S3.1.lt
  simp only [List.getElem?_cons_succ, List.getElem?_cons_zero] at c1 c2 c3 c5
  have HS := Lib.hid S3
  clear S3
  go_wp2_with fail
  refine (mod_any _ _ (by omega) (by omega) _).mono ?_
  rintro e w' ⟨rfl, rfl⟩
  go_upto_if 34 with fail
  generalize hX : (decide (0 < modZ m 5)) = X
  go_cut [] from 35 to 38 (fun wx => NearSt w wx [.int .i64 k, .int .i64 NF, .int .i64 NM, .int .u64 NR, .int .i64 pf, .int .i64 NL, .int .i64 pm])
  case first =>
    cases X with
    | true =>
      have e0 : NM = modZ m 10 := by rw [HM.out]; rw [if_pos (by simpa using hX)]
      have E0 := Lib.hid e0
      clear e0 hX
      go_wp2_with fail
      refine (mod_any _ _ (by omega) (by omega) _).mono ?_
      rintro e w' ⟨rfl, rfl⟩
      go_wp2
      go_meet
      rw [E0.out]
      exact HS.out.set 2 _
    | false =>
      have e0 : NM = m := by rw [HM.out]; rw [if_neg (by simpa using hX)]
      have E0 := Lib.hid e0
      clear e0 hX
      go_wp2
      go_meet
      rw [E0.out]
      exact HS.out
  case rest =>
  clear c1 c2 c3 c5 z1 z2 z3 z5 hlt HS hX
  have S4 : NearSt w wc [.int .i64 k, .int .i64 NF, .int .i64 NM, .int .u64 NR, .int .i64 pf, .int .i64 NL, .int .i64 pm] := hcut
  clear hcut
  generalize wc = W4 at *
  have c1 := S4.1.cell 1
  have z4 := S4.1.frozen 4
  have c4 := S4.1.cell 4
  have hlt := S4.1.lt
  simp only [List.getElem?_cons_succ, List.getElem?_cons_zero] at c1 c4
  have HS := Lib.hid S4
  clear S4
  go_upto_region 10 with fail
  have S5 := HS.out.set 4 (.int .i64 NF)
  simp only [List.set_cons_succ, List.set_cons_zero] at S5
  generalize W4.setCell ⟨w.heap.size, 4, none⟩ (.int .i64 NF) = W5 at *
  have y0 := S5.1.cell 0
  have r0 := S5.2.1.cell 0
  have q0 := S5.2.1.frozen 0
  have y1 := S5.1.cell 1
  have r1 := S5.2.1.cell 1
  have q1 := S5.2.1.frozen 1
  have y2 := S5.1.cell 2
  have r2 := S5.2.1.cell 2
  have q2 := S5.2.1.frozen 2
  have y3 := S5.1.cell 3
  have r3 := S5.2.1.cell 3
  have q3 := S5.2.1.frozen 3
  have y4 := S5.1.cell 4
  have r4 := S5.2.1.cell 4
  have q4 := S5.2.1.frozen 4
  have y5 := S5.1.cell 5
  have r5 := S5.2.1.cell 5
  have q5 := S5.2.1.frozen 5
  have y6 := S5.1.cell 6
  have r6 := S5.2.1.cell 6
  have q6 := S5.2.1.frozen 6
  simp only [c7, List.getElem?_cons_succ, List.getElem?_cons_zero] at y0 y1 y2 y3 y4 y5 y6 r0 r1 r2 r3 r4 r5 r6
  have hltR := S5.2.1.lt
  have HB := Lib.hid S5.2.2
  clear S5 HS c1 c4 z4 hlt
  go_wp2
  refine bodyPost_ret (v := .agg #[.int .i64 k, .int .i64 NF, .int .i64 NM, .int .u64 NR, .int .i64 NF, .int .i64 NL, .int .i64 pm]) (by simp [results, Tryz.results22, go_sem, r0, r1, r2, r3, r4, r5, r6, q0, q1, q2, q3, q4, q5, q6]) rfl ⟨rfl, ?_⟩
  exact (((((((HB.out.setCell (p := ⟨w.heap.size + 1, 0, none⟩) (Nat.le_succ _) _).setCell (p := ⟨w.heap.size + 1, 1, none⟩) (Nat.le_succ _) _).setCell (p := ⟨w.heap.size + 1, 2, none⟩) (Nat.le_succ _) _).setCell (p := ⟨w.heap.size + 1, 3, none⟩) (Nat.le_succ _) _).setCell (p := ⟨w.heap.size + 1, 4, none⟩) (Nat.le_succ _) _).setCell (p := ⟨w.heap.size + 1, 5, none⟩) (Nat.le_succ _) _).setCell (p := ⟨w.heap.size + 1, 6, none⟩) (Nat.le_succ _) _)
end Go.Proofs.YtnanalaienlbpaaGreat
