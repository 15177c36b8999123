/- An act of law10 done to both. -/
import Derived.Test.YtnanalaienlbpaaGreatAct10
import Derived.Deep.RegionHeld3
namespace Go.Proofs.YtnanalaienlbpaaGreat
set_option linter.unusedVariables false
set_option linter.unusedSimpArgs false
set_option maxRecDepth 20000
open Go.RowKit Go.Proofs.YtnanalaienlbpaaGreatMem Go.Proofs.YtnanalaienlbpaaGreatMapK

def stepS (s : SfS) (a : ActT) : SfS := if modZ a.kind 10 ≤ 1 then s.add a.flow a.r a.most else if modZ a.kind 10 = 2 then s.remove a.flow else if modZ a.kind 10 ≤ 6 then s.arrive a.p else s.serve
def stepR (t : SfS) (a : ActT) : SfS := if modZ a.kind 10 ≤ 1 then t.addR a.flow a.r a.most else if modZ a.kind 10 = 2 then t.remove a.flow else if modZ a.kind 10 ≤ 6 then t.arrive a.p else t.serve
theorem Sim.step {s t : SfS} (h : Sim s t) (a : ActT) : Sim (stepS s a) (stepR t a) := by
  unfold stepS stepR
  split
  · exact h.add _ _ _
  · split
    · exact (h.remove _).1
    · split
      · exact (h.arrive _).1
      · exact h.serve.1
theorem stepS_ok {s : SfS} (ok : s.Ok) {a : ActT} (ha : a.Ok) : (stepS s a).Ok := by
  unfold stepS
  split
  · exact SfS.add_ok ok ha.flow ha.r
  · split
    · exact SfS.remove_ok ok
    · split
      · exact SfS.arrive_ok ok ha.p
      · exact SfS.serve_ok ok
theorem serve_length (s : SfS) : s.serve.fs.length = s.fs.length := by
  unfold SfS.serve
  split
  · rfl
  · cases getF s.fs s.first.2 with
    | none => rfl
    | some x => exact setF_length _ _ _
theorem arrive_length (s : SfS) (p : Pk) : (s.arrive p).fs.length = s.fs.length := by
  unfold SfS.arrive
  cases getF s.fs p.flow with
  | none => rfl
  | some x => exact setF_length _ _ _
theorem remove_length (s : SfS) (id : Int) : (s.remove id).fs.length ≤ s.fs.length := by
  unfold SfS.remove
  cases getF s.fs id with
  | none => exact Nat.le_refl _
  | some x =>
    simp only
    split
    · exact List.length_filter_le _ _
    · exact Nat.le_refl _
theorem add_length (s : SfS) (id r m : Int) : (s.add id r m).fs.length ≤ s.fs.length + 1 := by
  unfold SfS.add
  split
  · omega
  · simp
theorem stepS_length (s : SfS) (a : ActT) : (stepS s a).fs.length ≤ s.fs.length + 1 := by
  unfold stepS
  split
  · exact add_length _ _ _ _
  · split
    · have := remove_length s a.flow; omega
    · split
      · rw [arrive_length]; omega
      · rw [serve_length]; omega

/-- Where an act on both stands: a box beside. -/
structure A2 (w0 : World) (q : Nat) (cs : List Value) (e : TypeId) (b c : Nat) (s t : SfS) (F : Nat → Prop) (w' : World) : Prop where
  box : Blk w' q cs e
  off : ¬ F q
  old : q < w0.heap.size
  post : TwoPost b c s t F w0 w'
section
variable {w0 w1 w2 : World} {q : Nat} {cs : List Value} {e : TypeId} {b c : Nat} {s t s' t' : SfS} {F : Nat → Prop}
theorem A2.step (h : A2 w0 q cs e b c s t F w1) (p : TwoPost b c s' t' (Ext F w0 w1) w1 w2) : A2 w0 q cs e b c s' t' F w2 :=
  ⟨h.box.fr p.2 (fun hk => by have := h.old; rcases hk with hk | hk; exact h.off hk; omega), h.off, h.old, h.post.trans p⟩
theorem A2.below (h : A2 w0 q cs e b c s t F w1) (hb : Below w1.heap.size w1 w2) : A2 w0 q cs e b c s t F w2 := ⟨h.box.below hb, h.off, h.old, h.post.then_below hb⟩
theorem A2.drew (h : A2 w0 q cs e b c s t F w1) : A2 w0 q cs e b c s t F w1.drew := h.below (Below.refl _ _).drew
end
theorem A2.cells {w0 : World} {q : Nat} {a : ActT} {e : TypeId} {b c : Nat} {s t : SfS} {F : Nat → Prop} {w' : World} (h : A2 w0 q a.cells e b c s t F w') :
    w'.cell? ⟨q, 0, none⟩ = some (.int .i64 a.kind) ∧ w'.cell? ⟨q, 1, none⟩ = some (.int .i64 a.flow) ∧ w'.cell? ⟨q, 2, none⟩ = some (.int .i64 a.most) ∧ w'.cell? ⟨q, 3, none⟩ = some (.int .u64 a.r) ∧ w'.cell? ⟨q, 4, none⟩ = some (.int .i64 a.p.flow) ∧ w'.cell? ⟨q, 5, none⟩ = some (.int .i64 a.p.len) ∧ w'.cell? ⟨q, 6, none⟩ = some (.int .i64 a.p.mark) :=
  ⟨h.box.cell 0, h.box.cell 1, h.box.cell 2, h.box.cell 3, h.box.cell 4, h.box.cell 5, h.box.cell 6⟩

set_option maxHeartbeats 4000000 in
theorem step_any (b c : Nat) (s t : SfS) (F : Nat → Prop) (a : ActT) (w : World) (h : TwoAt w b c s t F) (sim : Sim s t) (ok : s.Ok) (ha : a.Ok) (hn : s.fs.length ≤ 1000000) :
    Calls Tryz.prog 7 #[.pointer (some ⟨b, 0, none⟩), .pointer (some ⟨c, 0, none⟩), .agg #[.int .i64 a.kind, .int .i64 a.flow, .int .i64 a.most, .int .u64 a.r, .int .i64 a.p.flow, .int .i64 a.p.len, .int .i64 a.p.mark]] w fun e w' => e = .returned (.bool true) ∧ TwoPost b c (stepS s a.near) (stepR t a.near) F w w' := by
  have hF := h.lt
  have hq : ¬ F w.heap.size := fun hk => by have := hF _ hk; omega
  have B0 := Blk.new w a.cells 36
  have hb0 := below1 w (.cells #[.int .i64 a.kind, .int .i64 a.flow, .int .i64 a.most, .int .u64 a.r, .int .i64 a.p.flow, .int .i64 a.p.len, .int .i64 a.p.mark] 36)
  have hnear := near_any a
  have hok := ActT.near_ok ha
  have hnt : t.fs.length ≤ 1000000 := by rw [← sim.len]; exact hn
  have htv : W64 t.v := by rw [← sim.v]; exact ok.v
  have HA := Lib.hid ha
  have H := Lib.hid h
  have c0 := B0.cell 0
  have c1 := B0.cell 1
  have c2 := B0.cell 2
  have c3 := B0.cell 3
  have c4 := B0.cell 4
  have c5 := B0.cell 5
  have c6 := B0.cell 6
  simp only [ActT.cells, c7, List.getElem?_cons_succ, List.getElem?_cons_zero] at c0 c1 c2 c3 c4 c5 c6
  generalize hz : a.near = z at *
  have HZ := Lib.hid hz
  clear h ha hz
  go_enter Tryz.func7, Tryz.ntmps7
  go_wp2_with fail
  refine (hnear _ HA.out).mono ?_
  rintro e w1 ⟨rfl, hb1⟩
  have B1 := B0.below hb1
  have hbw : Below w.heap.size w w1 := hb0.trans (hb1.mono (by simp))
  have z0 := B1.frozen
  have y0 := B1.cell 0
  have y1 := B1.cell 1
  have y2 := B1.cell 2
  have y3 := B1.cell 3
  have y4 := B1.cell 4
  have y5 := B1.cell 5
  have y6 := B1.cell 6
  have hl1 := B1.lt
  simp only [ActT.cells, c7, List.getElem?_cons_succ, List.getElem?_cons_zero] at y0 y1 y2 y3 y4 y5 y6
  clear c0 c1 c2 c3 c4 c5 c6
  go_upto_region 2 with fail
  have B2 : Blk (((((((w1.setCell ⟨w.heap.size, 0, none⟩ (.int .i64 z.kind)).setCell ⟨w.heap.size, 1, none⟩ (.int .i64 z.flow)).setCell ⟨w.heap.size, 2, none⟩ (.int .i64 z.most)).setCell ⟨w.heap.size, 3, none⟩ (.int .u64 z.r)).setCell ⟨w.heap.size, 4, none⟩ (.int .i64 z.p.flow)).setCell ⟨w.heap.size, 5, none⟩ (.int .i64 z.p.len)).setCell ⟨w.heap.size, 6, none⟩ (.int .i64 z.p.mark)) w.heap.size z.cells 36 := (((((((B1.set 0 (.int .i64 z.kind)).set 1 (.int .i64 z.flow)).set 2 (.int .i64 z.most)).set 3 (.int .u64 z.r)).set 4 (.int .i64 z.p.flow)).set 5 (.int .i64 z.p.len)).set 6 (.int .i64 z.p.mark))
  have hb2 : Below w.heap.size w (((((((w1.setCell ⟨w.heap.size, 0, none⟩ (.int .i64 z.kind)).setCell ⟨w.heap.size, 1, none⟩ (.int .i64 z.flow)).setCell ⟨w.heap.size, 2, none⟩ (.int .i64 z.most)).setCell ⟨w.heap.size, 3, none⟩ (.int .u64 z.r)).setCell ⟨w.heap.size, 4, none⟩ (.int .i64 z.p.flow)).setCell ⟨w.heap.size, 5, none⟩ (.int .i64 z.p.len)).setCell ⟨w.heap.size, 6, none⟩ (.int .i64 z.p.mark)) := (((((((hbw.setCell (p := ⟨w.heap.size, 0, none⟩) (Nat.le_refl _) (.int .i64 z.kind)).setCell (p := ⟨w.heap.size, 1, none⟩) (Nat.le_refl _) (.int .i64 z.flow)).setCell (p := ⟨w.heap.size, 2, none⟩) (Nat.le_refl _) (.int .i64 z.most)).setCell (p := ⟨w.heap.size, 3, none⟩) (Nat.le_refl _) (.int .u64 z.r)).setCell (p := ⟨w.heap.size, 4, none⟩) (Nat.le_refl _) (.int .i64 z.p.flow)).setCell (p := ⟨w.heap.size, 5, none⟩) (Nat.le_refl _) (.int .i64 z.p.len)).setCell (p := ⟨w.heap.size, 6, none⟩) (Nat.le_refl _) (.int .i64 z.p.mark))
  clear B1 B0 hbw hb0 hb1 y0 y1 y2 y3 y4 y5 y6 z0 hl1
  generalize (((((((w1.setCell ⟨w.heap.size, 0, none⟩ (.int .i64 z.kind)).setCell ⟨w.heap.size, 1, none⟩ (.int .i64 z.flow)).setCell ⟨w.heap.size, 2, none⟩ (.int .i64 z.most)).setCell ⟨w.heap.size, 3, none⟩ (.int .u64 z.r)).setCell ⟨w.heap.size, 4, none⟩ (.int .i64 z.p.flow)).setCell ⟨w.heap.size, 5, none⟩ (.int .i64 z.p.len)).setCell ⟨w.heap.size, 6, none⟩ (.int .i64 z.p.mark)) = W at *
  have A : A2 W w.heap.size z.cells 36 b c s t F W := ⟨B2, hq, B2.lt, (H.out.below hb2).still (Below.refl _ _)⟩
  have c0 := A.cells.1
  have hlt := A.old
  have HB2 := Lib.hid hb2
  have HOK := Lib.hid hok
  have HS := Lib.hid sim
  clear B2 hb2 hok sim hnear
  have hm := modZ_bd z.kind (n := 10) (by omega)
  go_wp2_with fail
  refine (mod_any _ _ (by omega) (by omega) _).mono ?_
  rintro e w' ⟨rfl, rfl⟩
  have HE : Hid (stepS s z = if modZ z.kind 10 ≤ 1 then s.add z.flow z.r z.most else if modZ z.kind 10 = 2 then s.remove z.flow else if modZ z.kind 10 ≤ 6 then s.arrive z.p else s.serve) := rfl
  have HR : Hid (stepR t z = if modZ z.kind 10 ≤ 1 then t.addR z.flow z.r z.most else if modZ z.kind 10 = 2 then t.remove z.flow else if modZ z.kind 10 ≤ 6 then t.arrive z.p else t.serve) := rfl
  generalize modZ z.kind 10 = K at *
  rcases (show (K = 0 ∨ K = 1) ∨ K = 2 ∨ (K = 3 ∨ K = 4 ∨ K = 5 ∨ K = 6) ∨ 7 ≤ K by omega) with hk | hk | hk | hk
  · have e1 : stepS s z = s.add z.flow z.r z.most := by rw [HE.out, if_pos (by omega)]
    have e2 : stepR t z = t.addR z.flow z.r z.most := by rw [HR.out, if_pos (by omega)]
    have E1 := Lib.hid e1
    have E2 := Lib.hid e2
    have hg := HS.out.get z.flow
    have HG := Lib.hid hg
    clear e1 e2 hg
    rcases hk with rfl | rfl
    all_goals
      go_upto_region 5 with fail
      replace A := A.drew
      go_region_held3 (fun w' => w'.cell? ⟨w.heap.size, 0, none⟩ = some (.int .i64 z.kind) ∧ w'.cell? ⟨w.heap.size, 1, none⟩ = some (.int .i64 z.flow) ∧ w'.cell? ⟨w.heap.size, 2, none⟩ = some (.int .i64 z.most) ∧ w'.cell? ⟨w.heap.size, 3, none⟩ = some (.int .u64 z.r) ∧ w'.cell? ⟨w.heap.size, 4, none⟩ = some (.int .i64 z.p.flow) ∧ w'.cell? ⟨w.heap.size, 5, none⟩ = some (.int .i64 z.p.len) ∧ w'.cell? ⟨w.heap.size, 6, none⟩ = some (.int .i64 z.p.mark)) (exact A2.cells A)
        (first
          | (go_at_call 15; refine (twoAdd A.post.1 z.flow z.r z.most HOK.out.r).mono ?_; rw [HG.out]; rintro e w3 ⟨rfl, hp⟩; replace A := A.step hp; clear hp)
          | (go_at_call 21; refine (twoAddR A.post.1 hnt z.flow z.r z.most HOK.out.r).mono ?_; rintro e w3 ⟨rfl, hp⟩; replace A := A.step hp; clear hp))
      go_wp2
      go_ret
      exact ⟨by simp [Act.eval], by rw [E1.out, E2.out]; exact TwoPost.after_below hF HB2.out A.post⟩
  · have e1 : stepS s z = s.remove z.flow := by rw [HE.out, if_neg (by omega), if_pos hk]
    have e2 : stepR t z = t.remove z.flow := by rw [HR.out, if_neg (by omega), if_pos hk]
    have E1 := Lib.hid e1
    have E2 := Lib.hid e2
    have hg := (HS.out.remove z.flow).2
    have HG := Lib.hid hg
    clear e1 e2 hg
    subst hk
    go_upto_region 7 with fail
    replace A := A.drew
    go_region_held3 (fun w' => w'.cell? ⟨w.heap.size, 0, none⟩ = some (.int .i64 z.kind) ∧ w'.cell? ⟨w.heap.size, 1, none⟩ = some (.int .i64 z.flow) ∧ w'.cell? ⟨w.heap.size, 2, none⟩ = some (.int .i64 z.most) ∧ w'.cell? ⟨w.heap.size, 3, none⟩ = some (.int .u64 z.r) ∧ w'.cell? ⟨w.heap.size, 4, none⟩ = some (.int .i64 z.p.flow) ∧ w'.cell? ⟨w.heap.size, 5, none⟩ = some (.int .i64 z.p.len) ∧ w'.cell? ⟨w.heap.size, 6, none⟩ = some (.int .i64 z.p.mark)) (exact A2.cells A)
      (first
        | (go_at_call 16; refine (twoRemove A.post.1 z.flow).mono ?_; rw [HG.out]; rintro e w3 ⟨rfl, hp⟩; replace A := A.step hp; clear hp)
        | (go_at_call 24; refine (twoRemoveR A.post.1 hnt z.flow).mono ?_; rintro e w3 ⟨rfl, hp⟩; replace A := A.step hp; clear hp))
    go_wp2
    go_ret
    exact ⟨by simp [Act.eval], by rw [E1.out, E2.out]; exact TwoPost.after_below hF HB2.out A.post⟩
  · have e1 : stepS s z = s.arrive z.p := by rw [HE.out, if_neg (by omega), if_neg (by omega), if_pos (by omega)]
    have e2 : stepR t z = t.arrive z.p := by rw [HR.out, if_neg (by omega), if_neg (by omega), if_pos (by omega)]
    have E1 := Lib.hid e1
    have E2 := Lib.hid e2
    have hg := (HS.out.arrive z.p).2
    have HG := Lib.hid hg
    clear e1 e2 hg
    rcases hk with rfl | rfl | rfl | rfl
    all_goals
      go_upto_region 12 with fail
      replace A := A.drew
      go_region_held3 (fun w' => w'.cell? ⟨w.heap.size, 0, none⟩ = some (.int .i64 z.kind) ∧ w'.cell? ⟨w.heap.size, 1, none⟩ = some (.int .i64 z.flow) ∧ w'.cell? ⟨w.heap.size, 2, none⟩ = some (.int .i64 z.most) ∧ w'.cell? ⟨w.heap.size, 3, none⟩ = some (.int .u64 z.r) ∧ w'.cell? ⟨w.heap.size, 4, none⟩ = some (.int .i64 z.p.flow) ∧ w'.cell? ⟨w.heap.size, 5, none⟩ = some (.int .i64 z.p.len) ∧ w'.cell? ⟨w.heap.size, 6, none⟩ = some (.int .i64 z.p.mark)) (exact A2.cells A)
        (first
          | (go_at_call 17; refine (twoArrive A.post.1 ok z.p HOK.out.p).mono ?_; rw [HG.out]; rintro e w3 ⟨rfl, hp⟩; replace A := A.step hp; clear hp)
          | (go_at_call 25; refine (twoArriveR A.post.1 htv z.p HOK.out.p).mono ?_; rintro e w3 ⟨rfl, hp⟩; replace A := A.step hp; clear hp))
      go_wp2
      go_ret
      exact ⟨by simp [Act.eval], by rw [E1.out, E2.out]; exact TwoPost.after_below hF HB2.out A.post⟩
  · have e1 : stepS s z = s.serve := by rw [HE.out, if_neg (by omega), if_neg (by omega), if_neg (by omega)]
    have e2 : stepR t z = t.serve := by rw [HR.out, if_neg (by omega), if_neg (by omega), if_neg (by omega)]
    have E1 := Lib.hid e1
    have E2 := Lib.hid e2
    obtain ⟨-, hg1, hg2⟩ := HS.out.serve
    have HG1 := Lib.hid hg1
    have HG2 := Lib.hid hg2
    have k0 : (K == 0) = false := by simp; omega
    have k1 : (K == 1) = false := by simp; omega
    have k2 : (K == 2) = false := by simp; omega
    have k3 : (K == 3) = false := by simp; omega
    have k4 : (K == 4) = false := by simp; omega
    have k5 : (K == 5) = false := by simp; omega
    have k6 : (K == 6) = false := by simp; omega
    clear e1 e2 hg1 hg2
    go_wp2_with fail
    refine (twoServe A.post.1 ok hn).mono ?_
    rw [HG1.out, HG2.out]
    unfold Pk.val
    rintro e w3 ⟨rfl, hp⟩
    replace A := A.step hp
    clear hp
    have two3 := A.post.1
    have P1 := Blk.new w3 [.int .i64 t.head.flow, .int .i64 t.head.len, .int .i64 t.head.mark] 34
    have hp1 : ¬ Ext F W w3 w3.heap.size := fun hk => by have := two3.lt _ hk; omega
    have hb3 := below1 w3 (.cells #[.int .i64 t.head.flow, .int .i64 t.head.len, .int .i64 t.head.mark] 34)
    go_wp2_with fail
    refine (twoServeR (two3.below hb3)).mono ?_
    unfold Pk.val
    rintro e w4 ⟨rfl, hp⟩
    have P2 := (P1.fr hp.2 hp1).below (below1 w4 (.cells #[.int .i64 t.head.flow, .int .i64 t.head.len, .int .i64 t.head.mark] 34))
    have P3 := Blk.new w4 [.int .i64 t.head.flow, .int .i64 t.head.len, .int .i64 t.head.mark] 34
    have hAll := (A.post.trans (TwoPost.after_below two3.lt hb3 hp)).then_below (below1 w4 (.cells #[.int .i64 t.head.flow, .int .i64 t.head.len, .int .i64 t.head.mark] 34))
    have HAll := Lib.hid hAll
    have x0 := P2.cell 0
    have x1 := P2.cell 1
    have x2 := P2.cell 2
    have y0 := P3.cell 0
    have y1 := P3.cell 1
    have y2 := P3.cell 2
    simp only [List.getElem?_cons_succ, List.getElem?_cons_zero] at x0 x1 x2 y0 y1 y2
    clear hAll P1 P2 P3 hp two3 hb3 A
    go_wp2
    go_ret
    exact ⟨by simp [Act.eval], by rw [E1.out, E2.out]; exact TwoPost.after_below hF HB2.out HAll.out⟩
end Go.Proofs.YtnanalaienlbpaaGreat
