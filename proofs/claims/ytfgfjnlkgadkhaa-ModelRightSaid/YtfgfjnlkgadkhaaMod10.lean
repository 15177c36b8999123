/- The model: a packet comes. -/
import Derived.Test.YtfgfjnlkgadkhaaMod9
namespace Go.Proofs.Ytfgfjnlkgadkhaa
set_option linter.unusedVariables false
set_option linter.unusedSimpArgs false
set_option maxRecDepth 20000
open Go.RowKit Go.Proofs.YtfgfjnlkgadkhaaMem Go.Proofs.YtfgfjnlkgadkhaaMapK

/-- Behind what turned the flows (and the lengths' map): the call's own blocks. -/
structure OutC (w w0 W : World) (b : Nat) (c : Cfg) (s : SfS) (served : Int) (F : Nat → Prop) (d : CallS) : Prop where
  bel : Below w.heap.size w w0
  md : MdPost b c s served F w0 W
  box : Blk W w.heap.size d.cells 33
  res : Blk W (w.heap.size + 1) ret0 37
  old : Lt F w
  two : w.heap.size + 1 < w0.heap.size
section
variable {w w0 W W' : World} {b : Nat} {c : Cfg} {s : SfS} {served : Int} {F : Nat → Prop} {d : CallS}
theorem OutC.below (h : OutC w w0 W b c s served F d) (hb : Below W.heap.size W W') : OutC w w0 W' b c s served F d := by
  have z := h.md.2.size
  have z2 := hb.size
  refine ⟨h.bel, ⟨(h.md.1.below hb).mono (fun k hk => hk.imp id fun hk => ⟨hk.1, by omega⟩) ?_, h.md.2.then_below hb⟩, h.box.below hb, h.res.below hb, h.old, h.two⟩
  intro k hk
  rcases hk with hk | hk
  · have := h.old k hk; have := h.bel.size; omega
  · exact hk.2
theorem OutC.out (h : OutC w w0 W b c s served F d) : W.cell? ⟨w.heap.size + 1, 0, none⟩ = some (.int .i64 0) ∧ W.cell? ⟨w.heap.size + 1, 1, none⟩ = some (.slice none 0 0) ∧ W.cell? ⟨w.heap.size + 1, 2, none⟩ = some (.int .i64 0) ∧ W.cell? ⟨w.heap.size + 1, 3, none⟩ = some (.int .u64 0) ∧
    W.frozen? ⟨w.heap.size + 1, 0, none⟩ = false ∧ W.frozen? ⟨w.heap.size + 1, 1, none⟩ = false ∧ W.frozen? ⟨w.heap.size + 1, 2, none⟩ = false ∧ W.frozen? ⟨w.heap.size + 1, 3, none⟩ = false ∧ w.heap.size + 1 < W.heap.size :=
  ⟨h.res.cell 0, h.res.cell 1, h.res.cell 2, h.res.cell 3, h.res.frozen 0, h.res.frozen 1, h.res.frozen 2, h.res.frozen 3, h.res.lt⟩
theorem OutC.refused {w4 : World} (h : OutC w w0 W b c s served F d) (hb : Below W.heap.size W w4) (v0 v1 v2 v3 : Value) :
    MdPost b c s served F w ((((w4.setCell ⟨w.heap.size + 1, 0, none⟩ v0).setCell ⟨w.heap.size + 1, 1, none⟩ v1).setCell ⟨w.heap.size + 1, 2, none⟩ v2).setCell ⟨w.heap.size + 1, 3, none⟩ v3) := by
  have I := h.below hb
  have hm : w.heap.size ≤ w.heap.size + 1 ∧ w.heap.size + 1 < w0.heap.size := ⟨Nat.le_succ _, h.two⟩
  have g0 : Fr (fun k => w.heap.size ≤ k ∧ k < w0.heap.size) w4 w4 := Fr.refl _ _
  have g1 := g0.setCell (a := ⟨w.heap.size + 1, 0, none⟩) (.inl hm) v0
  have g2 := g1.setCell (a := ⟨w.heap.size + 1, 1, none⟩) (.inl hm) v1
  have g3 := g2.setCell (a := ⟨w.heap.size + 1, 2, none⟩) (.inl hm) v2
  have g4 := g3.setCell (a := ⟨w.heap.size + 1, 3, none⟩) (.inl hm) v3
  exact md_end h.old h.bel I.md g4
end
theorem MdR.nodup {w : World} {b sb lm : Nat} {c : Cfg} {s : SfS} {served : Int} {Fs F : Nat → Prop} (h : MdR w b sb lm c s served Fs F) : (s.fs.map (·.1)).Nodup := by
  obtain ⟨es, clock, hm⟩ := h.lens
  have := hm.keys
  unfold lensV at this
  simpa [Function.comp_def] using this
theorem arrive_no {s : SfS} {p : Pk} (hn : (s.fs.map (·.1)).Nodup) (h : s.arriveE p ≠ 0) : lensV (s.arrive p) = lensV s := by
  unfold SfS.arriveE at h
  unfold SfS.arrive
  cases hg : getF s.fs p.flow with
  | none => rfl
  | some x =>
    rw [hg] at h
    simp only at h ⊢
    have hf : x.full = true := by
      cases hx : x.full with
      | true => rfl
      | false => rw [hx] at h; exact absurd rfl h
    refine lens_same hn hg ?_
    unfold FlS.arrive
    rw [if_pos hf]
theorem arrive_yes {s : SfS} {p : Pk} (h : s.arriveE p = 0) : ∃ x, getF s.fs p.flow = some x ∧ lensV (s.arrive p) = putM (lensV s) p.flow (.int .i64 ((x.l.length : Int) + 1)) ∧ x.full = false := by
  unfold SfS.arriveE at h
  unfold SfS.arrive
  cases hg : getF s.fs p.flow with
  | none => rw [hg] at h; exact absurd h (by decide)
  | some x =>
    rw [hg] at h
    simp only at h ⊢
    have hf : x.full = false := by
      cases hx : x.full with
      | false => rfl
      | true => rw [hx] at h; exact absurd h (by decide)
    refine ⟨x, rfl, ?_, hf⟩
    have hl : ((x.arrive s.v p).l.length : Int) = (x.l.length : Int) + 1 := by
      unfold FlS.arrive
      rw [if_neg (by simp [hf])]
      show ((x.l ++ [p]).length : Int) = _
      simp
    rw [← hl]
    exact (lens_set hg).symm
set_option maxHeartbeats 4000000 in
theorem enqueue_any (b : Nat) (c : Cfg) (s : SfS) (served : Int) (F : Nat → Prop) (d : CallS) (w : World) (h : MdAt w b c s served F) (ok : s.Ok) (hd : d.Ok) :
    Calls Try.prog 23 #[.pointer (some ⟨b, 0, none⟩), .agg #[.int .i64 d.op, .int .i64 d.flow, .int .i64 d.a, .int .i64 d.b]] w fun e w' => e = .returned (retE (s.enqE d)) ∧ MdPost b c (s.enq d) served F w w' := by
  obtain ⟨sb, lm, Fs, h⟩ := h
  have I := InC.start (d := d) h
  have C0 := within_any d.a 1 65536
  have hE : s.enqE d = (if inB d.a 1 65536 then s.arriveE ⟨d.flow, d.a, d.b⟩ else 3) := rfl
  have hT : s.enq d = (if inB d.a 1 65536 then s.arrive ⟨d.flow, d.a, d.b⟩ else s) := rfl
  have HE := Lib.hid hE
  have HT := Lib.hid hT
  clear hE hT h
  generalize s.enqE d = R at *
  generalize s.enq d = T at *
  go_enter Try.func23, Try.ntmps23
  go_upto_region 1 with fail
  generalize ((w.alloc (.cells #[.int .i64 d.op, .int .i64 d.flow, .int .i64 d.a, .int .i64 d.b] 33)).alloc (.cells #[.int .i64 0, .slice none 0 0, .int .i64 0, .int .u64 0] 37)) = W at *
  obtain ⟨q0, q1, q4, q5, q6, q7, hlt, z0, z1, z2, z3, hzl⟩ := I.cells
  have HI := Lib.hid I
  clear I
  go_wp2_with fail
  refine (C0 _).mono ?_
  rintro e w' ⟨rfl, rfl⟩
  generalize h0 : inB d.a 1 65536 = x0
  cases x0 with
  | false =>
    obtain rfl : R = 3 := by rw [HE.out, h0]; rfl
    obtain rfl : T = s := by rw [HT.out, h0]; rfl
    clear h0
    go_wp2_with fail
    refine (refused_any 3 _).mono ?_
    rintro e w4 ⟨rfl, hb4⟩
    obtain ⟨r0, r1, r2, r3, f0, f1, f2, f3, hrl⟩ := (HI.out.below hb4).out
    have HB4 := Lib.hid hb4
    clear hb4
    go_wp2
    refine bodyPost_ret (v := retE 3) (by simp [retE, results, Try.results23, go_sem, r0, r1, r2, r3, hrl]) rfl ⟨rfl, ?_⟩
    exact HI.out.refused HB4.out _ _ _ _
  | true =>
  obtain rfl : R = s.arriveE ⟨d.flow, d.a, d.b⟩ := by rw [HE.out, h0]; rfl
  obtain rfl : T = s.arrive ⟨d.flow, d.a, d.b⟩ := by rw [HT.out, h0]; rfl
  clear h0 HE HT
  have HNB : Hid (¬ Fs b) := Lib.hid (fun hk => (HI.out.md.sub b hk).2.1 rfl)
  have HNZ : Hid (¬ Fs w.heap.size) := Lib.hid (fun hk => by have := HI.out.old _ (HI.out.md.sub _ hk).1; omega)
  have HNR : Hid (¬ Fs (w.heap.size + 1)) := Lib.hid (fun hk => by have := HI.out.old _ (HI.out.md.sub _ hk).1; omega)
  have HI1 : Hid (InC w W.drew b sb lm c s served Fs F d) := Lib.hid (HI.out.below (Below.refl _ _).drew)
  have hS : W.drew.cell? ⟨b, 5, none⟩ = some (.pointer (some ⟨sb, 0, none⟩)) ∧ W.drew.cell? ⟨w.heap.size, 1, none⟩ = some (.int .i64 d.flow) ∧ W.drew.cell? ⟨w.heap.size, 2, none⟩ = some (.int .i64 d.a) ∧ W.drew.cell? ⟨w.heap.size, 3, none⟩ = some (.int .i64 d.b) := ⟨q5, z1, z2, z3⟩
  have hpk : (Pk.mk d.flow d.a d.b).Ok := ⟨hd.flow, hd.a, hd.b⟩
  have CA := arriveS_any sb s Fs ⟨d.flow, d.a, d.b⟩ _ HI1.out.md.sfq ok hpk
  have HA := Lib.hid CA
  clear CA q0 q1 q4 q5 q6 q7 z0 z1 z2 z3 C0
  go_upto_region 3 with fail
  go_region_held3 (fun w' => w'.cell? ⟨b, 5, none⟩ = some (.pointer (some ⟨sb, 0, none⟩)) ∧ w'.cell? ⟨w.heap.size, 1, none⟩ = some (.int .i64 d.flow) ∧ w'.cell? ⟨w.heap.size, 2, none⟩ = some (.int .i64 d.a) ∧ w'.cell? ⟨w.heap.size, 3, none⟩ = some (.int .i64 d.b)) (first | exact hS | exact ⟨(HI1.out.md.blk.fr hp.2 HNB.out).cell 5, (HI1.out.box.fr hp.2 HNZ.out).cell 1, (HI1.out.box.fr hp.2 HNZ.out).cell 2, (HI1.out.box.fr hp.2 HNZ.out).cell 3⟩)
    (first | (go_at_call 43; refine HA.out.mono ?_; rintro e w3 ⟨rfl, hp⟩))
  have hO : ∀ {s'}, MdPost b c s' served F W.drew w3 → OutC w W.drew w3 b c s' served F d := fun hm => ⟨HI1.out.bel, hm, HI1.out.box.fr hp.2 HNZ.out, HI1.out.res.fr hp.2 HNR.out, HI1.out.old, HI1.out.res.lt⟩
  by_cases hE : s.arriveE ⟨d.flow, d.a, d.b⟩ = 0
  · obtain ⟨x, hx, hln, hfu⟩ := arrive_yes hE
    have e2 : (s.arriveE ⟨d.flow, d.a, d.b⟩ != 0) = false := by simp [hE]
    have HM := Lib.hid (HI1.out.md.map1 hp)
    have hllm := HI1.out.old lm HI1.out.md.hl
    have hxl : (x.l.length : Int) ≤ 8 := by
      have hxo : x.Ok := ok.fs _ (getF_mem hx)
      have := hxo.len
      have := hxo.m8
      omega
    have BL3 := HI1.out.md.blk.fr hp.2 HNB.out
    have C3 := HI1.out.box.fr hp.2 HNZ.out
    have R3 := HI1.out.res.fr hp.2 HNR.out
    have HP := Lib.hid hp
    have y0 : w3.cell? ⟨b, 6, none⟩ = some (.map (some lm)) := BL3.cell 6
    have hcc : w3.cell? ⟨w.heap.size, 1, none⟩ = some (.int .i64 d.flow) := C3.cell 1
    have HBL := Lib.hid BL3
    have HC3 := Lib.hid C3
    have HR3 := Lib.hid R3
    have HX := Lib.hid hx
    have HLN := Lib.hid hln
    have hnl : lm ≠ b := fun e => HI1.out.md.ne e.symm
    have hlk : (Instr.lookup 63 (.map (some lm)) (.int .i64 d.flow) false).run Try.prog w3.drew = .ok (.int .i64 x.l.length) w3.drew := by
      have := run_lookup (w := w3.drew) intKey under_lens (zero_int w3.drew) (HM.out.of_eq rfl) d.flow
      rw [getM_lens, HX.out] at this
      exact this
    have HE1 := Lib.hid hE
    clear BL3 C3 R3 hp hS hx hln hO hE
    have e1 : Value.int .i64 (IntKind.i64.wrap ((x.l.length : Int) + 1)) = .int .i64 ((x.l.length : Int) + 1) := by rw [IntWalk.i64_left, IntWalk.wrap64_in _ (by omega)]
    obtain ⟨w5, hup, hm5, hg5'⟩ := run_update intKey under_lens (show IsMapAt w3.drew lm (Value.int .i64) (lensV s) from HM.out.of_eq rfl) d.flow (.int .i64 ((x.l.length : Int) + 1))
    have hg5 : w3.grownBy w5 (some lm) := ⟨hg5'.os, hg5'.tape, hg5'.output, hg5'.size, hg5'.block⟩
    go_upto_region 6 with fail
    go_region
    have p5 : MdPost b c (s.arrive ⟨d.flow, d.a, d.b⟩) served F W.drew w5 := md_turn HI1.out.md HP.out hg5 (by rw [HLN.out]; exact hm5)
    have hT : OutC w W.drew w5 b c (s.arrive ⟨d.flow, d.a, d.b⟩) served F d := ⟨HI1.out.bel, p5, HC3.out.grown hg5 (by intro e; cases e; omega), HR3.out.grown hg5 (by intro e; cases e; omega), HI1.out.old, HI1.out.res.lt⟩
    have HT := Lib.hid hT
    obtain ⟨r0, r1, r2, r3, f0, f1, f2, f3, hrl⟩ := HT.out.out
    clear hT p5 hg5 hg5' hm5 y0 hcc e1 hlk
    go_wp2
    refine bodyPost_ret (v := retE 0) (by simp [retE, results, Try.results23, go_sem, r0, r1, r2, r3, hrl]) rfl ⟨by rw [HE1.out], ?_⟩
    exact HT.out.refused (Below.refl _ _) _ _ _ _
  · have e2 : (s.arriveE ⟨d.flow, d.a, d.b⟩ != 0) = true := by simpa using hE
    have hT : OutC w W.drew w3 b c (s.arrive ⟨d.flow, d.a, d.b⟩) served F d := hO (md_turn0 HI1.out.md hp (arrive_no HI1.out.md.nodup hE))
    have HT := Lib.hid hT
    clear hT hO hp hE hS
    go_wp2_with fail
    refine (refused_any (s.arriveE ⟨d.flow, d.a, d.b⟩) _).mono ?_
    rintro e w4 ⟨rfl, hb4⟩
    obtain ⟨r0, r1, r2, r3, f0, f1, f2, f3, hrl⟩ := (HT.out.below hb4).out
    have HB4 := Lib.hid hb4
    clear hb4
    go_wp2
    refine bodyPost_ret (v := retE (s.arriveE ⟨d.flow, d.a, d.b⟩)) (by simp [retE, results, Try.results23, go_sem, r0, r1, r2, r3, hrl]) rfl ⟨rfl, ?_⟩
    exact HT.out.refused HB4.out _ _ _ _
end Go.Proofs.Ytfgfjnlkgadkhaa
