/- The model: any call. -/
import Derived.Test.YtfgfjnlkgadkhaaMod15
import Derived.Laws.EntriesVeiled
namespace Go.Proofs.Ytfgfjnlkgadkhaa
set_option linter.unusedVariables false
set_option linter.unusedSimpArgs false
set_option maxRecDepth 20000
open Go.RowKit Go.Proofs.YtfgfjnlkgadkhaaMem Go.Proofs.YtfgfjnlkgadkhaaMapK

theorem RetPost.over {w W w3 : World} {b : Nat} {c : Cfg} {m : MdS} {r : RetS} {F : Nat → Prop} {v : Value} (hF : Lt F w) (hb : Below w.heap.size w W) (hz : w.heap.size + 1 < W.heap.size) (p : RetPost b c m r F W (.returned v) w3) (v0 v1 v2 v3 : Value) :
    RetPost b c m r F w (.returned v) ((((w3.setCell ⟨w.heap.size + 1, 0, none⟩ v0).setCell ⟨w.heap.size + 1, 1, none⟩ v1).setCell ⟨w.heap.size + 1, 2, none⟩ v2).setCell ⟨w.heap.size + 1, 3, none⟩ v3) := by
  obtain ⟨ao, cap, G, h1, row, h3, md, hG, f⟩ := p
  have z1 := hb.size
  have g0 : Fr (fun k => k = w.heap.size + 1) w3 w3 := Fr.refl _ _
  have g1 := g0.setCell (a := ⟨w.heap.size + 1, 0, none⟩) (.inl rfl) v0
  have g2 := g1.setCell (a := ⟨w.heap.size + 1, 1, none⟩) (.inl rfl) v1
  have g3 := g2.setCell (a := ⟨w.heap.size + 1, 2, none⟩) (.inl rfl) v2
  have g4 := g3.setCell (a := ⟨w.heap.size + 1, 3, none⟩) (.inl rfl) v3
  have z4 := g4.size
  have f1 : Fr F w w3 := Fr.after_below hb f
  refine ⟨ao, cap, G, h1, ?_, h3, md.fr g4 fun k hk e => ?_, fun k hk => ?_, f1.trans g4 fun i hi hk => by omega⟩
  · exact owns_base (owns_fr row g4 fun k hk e => by have := (row.lt k hk).1; omega) (by omega)
  · subst e
    rcases hG _ hk with hk | hk
    · have := hF _ hk; omega
    · omega
  · rcases hG k hk with hk | hk
    · exact .inl hk
    · exact .inr ⟨by omega, by omega⟩
def doFns : List Value := [.nilFunc, .func (.func 21) #[] #[], .func (.func 22) #[] #[], .func (.func 23) #[] #[], .func (.func 24) #[] #[], .func (.func 25) #[] #[], .func (.func 26) #[] #[]]
theorem do_keep {Z A0 : Nat} {op fl a bb : Int} {t : TypeId} (k f : Nat) (hf : doFns[k]? = some (.func (.func f) #[] #[])) : ∀ w3, Blk w3 Z (CallS.cells ⟨op, fl, a, bb⟩) 33 → Blk w3 A0 doFns t →
    w3.cell? ⟨Z, 0, none⟩ = some (.int .i64 op) ∧ w3.cell? ⟨Z, 1, none⟩ = some (.int .i64 fl) ∧ w3.cell? ⟨Z, 2, none⟩ = some (.int .i64 a) ∧ w3.cell? ⟨Z, 3, none⟩ = some (.int .i64 bb) ∧ w3.cell? ⟨A0, k, none⟩ = some (.func (.func f) #[] #[]) :=
  fun w3 h1 h2 => ⟨h1.cell 0, h1.cell 1, h1.cell 2, h1.cell 3, (h2.cell k).trans hf⟩
theorem do_keep4 {Z A0 : Nat} {op fl a bb : Int} {t : TypeId} (k f : Nat) (hf : doFns[k]? = some (.func (.func f) #[] #[])) (hz : Z + 1 < A0) (w3 : World) (h1 : Blk w3 Z (CallS.cells ⟨op, fl, a, bb⟩) 33) (h2 : Blk w3 A0 doFns t) (v0 v1 v2 v3 : Value) :
    ((((w3.setCell ⟨Z + 1, 0, none⟩ v0).setCell ⟨Z + 1, 1, none⟩ v1).setCell ⟨Z + 1, 2, none⟩ v2).setCell ⟨Z + 1, 3, none⟩ v3).cell? ⟨Z, 0, none⟩ = some (.int .i64 op) ∧ ((((w3.setCell ⟨Z + 1, 0, none⟩ v0).setCell ⟨Z + 1, 1, none⟩ v1).setCell ⟨Z + 1, 2, none⟩ v2).setCell ⟨Z + 1, 3, none⟩ v3).cell? ⟨Z, 1, none⟩ = some (.int .i64 fl) ∧ ((((w3.setCell ⟨Z + 1, 0, none⟩ v0).setCell ⟨Z + 1, 1, none⟩ v1).setCell ⟨Z + 1, 2, none⟩ v2).setCell ⟨Z + 1, 3, none⟩ v3).cell? ⟨Z, 2, none⟩ = some (.int .i64 a) ∧ ((((w3.setCell ⟨Z + 1, 0, none⟩ v0).setCell ⟨Z + 1, 1, none⟩ v1).setCell ⟨Z + 1, 2, none⟩ v2).setCell ⟨Z + 1, 3, none⟩ v3).cell? ⟨Z, 3, none⟩ = some (.int .i64 bb) ∧ ((((w3.setCell ⟨Z + 1, 0, none⟩ v0).setCell ⟨Z + 1, 1, none⟩ v1).setCell ⟨Z + 1, 2, none⟩ v2).setCell ⟨Z + 1, 3, none⟩ v3).cell? ⟨A0, k, none⟩ = some (.func (.func f) #[] #[]) := by
  have e1 : Z ≠ Z + 1 := by omega
  have e2 : A0 ≠ Z + 1 := by omega
  exact do_keep k f hf _ ((((h1.set_far (a := ⟨Z + 1, 0, none⟩) e1 v0).set_far (a := ⟨Z + 1, 1, none⟩) e1 v1).set_far (a := ⟨Z + 1, 2, none⟩) e1 v2).set_far (a := ⟨Z + 1, 3, none⟩) e1 v3) ((((h2.set_far (a := ⟨Z + 1, 0, none⟩) e2 v0).set_far (a := ⟨Z + 1, 1, none⟩) e2 v1).set_far (a := ⟨Z + 1, 2, none⟩) e2 v2).set_far (a := ⟨Z + 1, 3, none⟩) e2 v3)
set_option maxHeartbeats 4000000 in
theorem do_any (b : Nat) (c : Cfg) (m : MdS) (F : Nat → Prop) (d : CallS) (w : World) (h : MdAt w b c m.s m.served F) (ok : BatOk m 0) (hd : d.Ok) (hc : W64 c.unit) (hk : c.shards ≠ 0) :
    Calls Try.prog 9 #[.pointer (some ⟨b, 0, none⟩), .agg #[.int .i64 d.op, .int .i64 d.flow, .int .i64 d.a, .int .i64 d.b]] w (RetPost b c (m.doo c d).1 (m.doo c d).2 F w) := by
  obtain ⟨sb, lm, Fs, h⟩ := h
  obtain ⟨op, fl, a, bb⟩ := d
  have I := InC.start (d := ⟨op, fl, a, bb⟩) h
  have C0 := within_any op 1 6
  have hE : m.doo c ⟨op, fl, a, bb⟩ = m.doo c ⟨op, fl, a, bb⟩ := rfl
  generalize hE2 : m.doo c ⟨op, fl, a, bb⟩ = R at hE ⊢
  have HE := Lib.hid hE2
  clear hE hE2 h
  simp only at I
  go_enter Try.func9, Try.ntmps9
  go_upto_region 1 with fail
  generalize ((w.alloc (.cells #[.int .i64 op, .int .i64 fl, .int .i64 a, .int .i64 bb] 33)).alloc (.cells #[.int .i64 0, .slice none 0 0, .int .i64 0, .int .u64 0] 37)) = W at *
  go_upto_region 2 with fail
  have hA : Blk _ W.heap.size doFns 58 := Blk.new W [.nilFunc, .func (.func 21) #[] #[], .func (.func 22) #[] #[], .func (.func 23) #[] #[], .func (.func 24) #[] #[], .func (.func 25) #[] #[], .func (.func 26) #[] #[]] 58
  have hbA := below1 W (.cells #[.nilFunc, .func (.func 21) #[] #[], .func (.func 22) #[] #[], .func (.func 23) #[] #[], .func (.func 24) #[] #[], .func (.func 25) #[] #[], .func (.func 26) #[] #[]] 58)
  have HI := Lib.hid (I.below hbA)
  have hlA : w.heap.size + 1 < W.heap.size := I.res.lt
  have HA := Lib.hid hA
  clear I hA hbA
  generalize W.alloc (.cells #[.nilFunc, .func (.func 21) #[] #[], .func (.func 22) #[] #[], .func (.func 23) #[] #[], .func (.func 24) #[] #[], .func (.func 25) #[] #[], .func (.func 26) #[] #[]] 58) = W4 at *
  generalize W.heap.size = A0 at *
  obtain ⟨q0, q1, q4, q5, q6, q7, hlt, z0, z1, z2, z3, hzl⟩ := HI.out.cells
  have hal := HA.out.lt
  simp only at z0 z1 z2 z3
  have HNZ : Hid (¬ F w.heap.size) := Lib.hid fun hk => by have := HI.out.old _ hk; omega
  have HNR : Hid (¬ F (w.heap.size + 1)) := Lib.hid fun hk => by have := HI.out.old _ hk; omega
  have HNA : Hid (¬ F A0) := Lib.hid fun hk => by have := HI.out.old _ hk; omega
  clear q0 q1 q4 q5 q6 q7 hlt
  go_wp2_with fail
  refine (C0 _).mono ?_
  rintro e w' ⟨rfl, rfl⟩
  generalize h0 : inB op 1 6 = x0
  cases x0 with
  | false =>
    obtain rfl : R = (m, .code 2) := by
      rw [← HE.out]
      unfold inB at h0
      simp only [Bool.and_eq_false_iff, decide_eq_false_iff_not] at h0
      unfold MdS.doo
      simp only
      rw [if_neg (by omega), if_neg (by omega), if_neg (by omega), if_neg (by omega), if_neg (by omega), if_neg (by omega)]
    clear h0
    go_wp2_with fail
    refine (refused_any 2 _).mono ?_
    rintro e w4 ⟨rfl, hb4⟩
    obtain ⟨r0, r1, r2, r3, f0, f1, f2, f3, hrl⟩ := (HI.out.below hb4).out
    have HB4 := Lib.hid hb4
    clear hb4
    go_wp2
    refine bodyPost_ret (v := retE 2) (by simp [retE, results, Try.results9, go_sem, r0, r1, r2, r3, hrl]) rfl ?_
    exact RetPost.code (HI.out.refused HB4.out _ _ _ _) 2
  | true =>
  have hop : op = 1 ∨ op = 2 ∨ op = 3 ∨ op = 4 ∨ op = 5 ∨ op = 6 := by
    unfold inB at h0
    simp only [Bool.and_eq_true, decide_eq_true_eq] at h0
    omega
  clear h0 C0
  go_upto_region 4 with fail
  rcases hop with rfl | rfl | rfl | rfl | rfl | rfl
  ·
    have HQ : Hid (Calls Try.prog 21 #[.pointer (some ⟨b, 0, none⟩), .agg #[.int .i64 1, .int .i64 fl, .int .i64 a, .int .i64 bb]] W4.drew (RetPost b c R.1 R.2 F W4.drew)) := Lib.hid (by
      have hR := HE.out
      rw [← hR]
      have hmd : MdAt W4.drew b c m.s m.served F := ⟨sb, lm, Fs, (HI.out.below (Below.refl _ _).drew).md⟩
      exact (register_any b c m.s m.served F ⟨1, fl, a, bb⟩ _ hmd hc hk ok.len).mono fun e w' hh => by rw [hh.1]; exact RetPost.code hh.2 _)
    have AX : W4.drew.cell? ⟨A0, 1, none⟩ = some (.func (.func 21) #[] #[]) := (HA.out.drew.cell 1).trans rfl
    have hS : W4.drew.cell? ⟨w.heap.size, 0, none⟩ = some (.int .i64 1) ∧ W4.drew.cell? ⟨w.heap.size, 1, none⟩ = some (.int .i64 fl) ∧ W4.drew.cell? ⟨w.heap.size, 2, none⟩ = some (.int .i64 a) ∧ W4.drew.cell? ⟨w.heap.size, 3, none⟩ = some (.int .i64 bb) ∧ W4.drew.cell? ⟨A0, 1, none⟩ = some (.func (.func 21) #[] #[]) := ⟨z0, z1, z2, z3, AX⟩
    clear z0 z1 z2 z3 AX
    go_region_held3 (fun w' => w'.cell? ⟨w.heap.size, 0, none⟩ = some (.int .i64 1) ∧ w'.cell? ⟨w.heap.size, 1, none⟩ = some (.int .i64 fl) ∧ w'.cell? ⟨w.heap.size, 2, none⟩ = some (.int .i64 a) ∧ w'.cell? ⟨w.heap.size, 3, none⟩ = some (.int .i64 bb) ∧ w'.cell? ⟨A0, 1, none⟩ = some (.func (.func 21) #[] #[])) (first | with_reducible exact hS | with_reducible exact HK3 | exact HK4.out _ _ _ _)
      (first | (go_at_call 21; refine HQ.out.mono ?_; rintro e w3 ⟨ao, cap, G, rfl, row, hn3, md3, hG3, fr3⟩; have BZ3 := (HI.out.box.drew).fr fr3 HNZ.out; have BR3 := (HI.out.res.drew).fr fr3 HNR.out; have BA3 := (HA.out.drew).fr fr3 HNA.out; have HK3 := do_keep 1 21 rfl w3 BZ3 BA3; have HK4 := Lib.hid (do_keep4 1 21 rfl hlA w3 BZ3 BA3); have r0 := BR3.cell 0; have r1 := BR3.cell 1; have r2 := BR3.cell 2; have r3 := BR3.cell 3; simp only [ret0, List.getElem?_cons_succ, List.getElem?_cons_zero] at r0 r1 r2 r3; have f0 := BR3.frozen 0; have f1 := BR3.frozen 1; have f2 := BR3.frozen 2; have f3 := BR3.frozen 3; have hrl := BR3.lt; have HP3 := Lib.hid (show RetPost b c R.1 R.2 F W4.drew _ w3 from ⟨ao, cap, G, rfl, row, hn3, md3, hG3, fr3⟩); clear BZ3 BR3 BA3 row hn3 md3 hG3 fr3))
    go_wp2
    refine bodyPost_ret (v := .agg #[.int .i64 R.2.e, .slice ao R.2.ps.length cap, .int .i64 R.2.n, .int .u64 R.2.v]) (by simp [results, Try.results9, go_sem, r0, r1, r2, r3, hrl]) rfl ?_
    exact RetPost.over HI.out.old HI.out.bel.drew (show w.heap.size + 1 < W4.heap.size by omega) HP3.out _ _ _ _
  ·
    have HQ : Hid (Calls Try.prog 22 #[.pointer (some ⟨b, 0, none⟩), .agg #[.int .i64 2, .int .i64 fl, .int .i64 a, .int .i64 bb]] W4.drew (RetPost b c R.1 R.2 F W4.drew)) := Lib.hid (by
      have hR := HE.out
      rw [← hR]
      have hmd : MdAt W4.drew b c m.s m.served F := ⟨sb, lm, Fs, (HI.out.below (Below.refl _ _).drew).md⟩
      exact (shut_any b c m.s m.served F ⟨2, fl, a, bb⟩ _ hmd).mono fun e w' hh => by rw [hh.1]; exact RetPost.code hh.2 _)
    have AX : W4.drew.cell? ⟨A0, 2, none⟩ = some (.func (.func 22) #[] #[]) := (HA.out.drew.cell 2).trans rfl
    have hS : W4.drew.cell? ⟨w.heap.size, 0, none⟩ = some (.int .i64 2) ∧ W4.drew.cell? ⟨w.heap.size, 1, none⟩ = some (.int .i64 fl) ∧ W4.drew.cell? ⟨w.heap.size, 2, none⟩ = some (.int .i64 a) ∧ W4.drew.cell? ⟨w.heap.size, 3, none⟩ = some (.int .i64 bb) ∧ W4.drew.cell? ⟨A0, 2, none⟩ = some (.func (.func 22) #[] #[]) := ⟨z0, z1, z2, z3, AX⟩
    clear z0 z1 z2 z3 AX
    go_region_held3 (fun w' => w'.cell? ⟨w.heap.size, 0, none⟩ = some (.int .i64 2) ∧ w'.cell? ⟨w.heap.size, 1, none⟩ = some (.int .i64 fl) ∧ w'.cell? ⟨w.heap.size, 2, none⟩ = some (.int .i64 a) ∧ w'.cell? ⟨w.heap.size, 3, none⟩ = some (.int .i64 bb) ∧ w'.cell? ⟨A0, 2, none⟩ = some (.func (.func 22) #[] #[])) (first | with_reducible exact hS | with_reducible exact HK3 | exact HK4.out _ _ _ _)
      (first | (go_at_call 22; refine HQ.out.mono ?_; rintro e w3 ⟨ao, cap, G, rfl, row, hn3, md3, hG3, fr3⟩; have BZ3 := (HI.out.box.drew).fr fr3 HNZ.out; have BR3 := (HI.out.res.drew).fr fr3 HNR.out; have BA3 := (HA.out.drew).fr fr3 HNA.out; have HK3 := do_keep 2 22 rfl w3 BZ3 BA3; have HK4 := Lib.hid (do_keep4 2 22 rfl hlA w3 BZ3 BA3); have r0 := BR3.cell 0; have r1 := BR3.cell 1; have r2 := BR3.cell 2; have r3 := BR3.cell 3; simp only [ret0, List.getElem?_cons_succ, List.getElem?_cons_zero] at r0 r1 r2 r3; have f0 := BR3.frozen 0; have f1 := BR3.frozen 1; have f2 := BR3.frozen 2; have f3 := BR3.frozen 3; have hrl := BR3.lt; have HP3 := Lib.hid (show RetPost b c R.1 R.2 F W4.drew _ w3 from ⟨ao, cap, G, rfl, row, hn3, md3, hG3, fr3⟩); clear BZ3 BR3 BA3 row hn3 md3 hG3 fr3))
    go_wp2
    refine bodyPost_ret (v := .agg #[.int .i64 R.2.e, .slice ao R.2.ps.length cap, .int .i64 R.2.n, .int .u64 R.2.v]) (by simp [results, Try.results9, go_sem, r0, r1, r2, r3, hrl]) rfl ?_
    exact RetPost.over HI.out.old HI.out.bel.drew (show w.heap.size + 1 < W4.heap.size by omega) HP3.out _ _ _ _
  ·
    have HQ : Hid (Calls Try.prog 23 #[.pointer (some ⟨b, 0, none⟩), .agg #[.int .i64 3, .int .i64 fl, .int .i64 a, .int .i64 bb]] W4.drew (RetPost b c R.1 R.2 F W4.drew)) := Lib.hid (by
      have hR := HE.out
      rw [← hR]
      have hmd : MdAt W4.drew b c m.s m.served F := ⟨sb, lm, Fs, (HI.out.below (Below.refl _ _).drew).md⟩
      exact (enqueue_any b c m.s m.served F ⟨3, fl, a, bb⟩ _ hmd ok.s hd).mono fun e w' hh => by rw [hh.1]; exact RetPost.code hh.2 _)
    have AX : W4.drew.cell? ⟨A0, 3, none⟩ = some (.func (.func 23) #[] #[]) := (HA.out.drew.cell 3).trans rfl
    have hS : W4.drew.cell? ⟨w.heap.size, 0, none⟩ = some (.int .i64 3) ∧ W4.drew.cell? ⟨w.heap.size, 1, none⟩ = some (.int .i64 fl) ∧ W4.drew.cell? ⟨w.heap.size, 2, none⟩ = some (.int .i64 a) ∧ W4.drew.cell? ⟨w.heap.size, 3, none⟩ = some (.int .i64 bb) ∧ W4.drew.cell? ⟨A0, 3, none⟩ = some (.func (.func 23) #[] #[]) := ⟨z0, z1, z2, z3, AX⟩
    clear z0 z1 z2 z3 AX
    go_region_held3 (fun w' => w'.cell? ⟨w.heap.size, 0, none⟩ = some (.int .i64 3) ∧ w'.cell? ⟨w.heap.size, 1, none⟩ = some (.int .i64 fl) ∧ w'.cell? ⟨w.heap.size, 2, none⟩ = some (.int .i64 a) ∧ w'.cell? ⟨w.heap.size, 3, none⟩ = some (.int .i64 bb) ∧ w'.cell? ⟨A0, 3, none⟩ = some (.func (.func 23) #[] #[])) (first | with_reducible exact hS | with_reducible exact HK3 | exact HK4.out _ _ _ _)
      (first | (go_at_call 23; refine HQ.out.mono ?_; rintro e w3 ⟨ao, cap, G, rfl, row, hn3, md3, hG3, fr3⟩; have BZ3 := (HI.out.box.drew).fr fr3 HNZ.out; have BR3 := (HI.out.res.drew).fr fr3 HNR.out; have BA3 := (HA.out.drew).fr fr3 HNA.out; have HK3 := do_keep 3 23 rfl w3 BZ3 BA3; have HK4 := Lib.hid (do_keep4 3 23 rfl hlA w3 BZ3 BA3); have r0 := BR3.cell 0; have r1 := BR3.cell 1; have r2 := BR3.cell 2; have r3 := BR3.cell 3; simp only [ret0, List.getElem?_cons_succ, List.getElem?_cons_zero] at r0 r1 r2 r3; have f0 := BR3.frozen 0; have f1 := BR3.frozen 1; have f2 := BR3.frozen 2; have f3 := BR3.frozen 3; have hrl := BR3.lt; have HP3 := Lib.hid (show RetPost b c R.1 R.2 F W4.drew _ w3 from ⟨ao, cap, G, rfl, row, hn3, md3, hG3, fr3⟩); clear BZ3 BR3 BA3 row hn3 md3 hG3 fr3))
    go_wp2
    refine bodyPost_ret (v := .agg #[.int .i64 R.2.e, .slice ao R.2.ps.length cap, .int .i64 R.2.n, .int .u64 R.2.v]) (by simp [results, Try.results9, go_sem, r0, r1, r2, r3, hrl]) rfl ?_
    exact RetPost.over HI.out.old HI.out.bel.drew (show w.heap.size + 1 < W4.heap.size by omega) HP3.out _ _ _ _
  ·
    have HQ : Hid (Calls Try.prog 24 #[.pointer (some ⟨b, 0, none⟩), .agg #[.int .i64 4, .int .i64 fl, .int .i64 a, .int .i64 bb]] W4.drew (RetPost b c R.1 R.2 F W4.drew)) := Lib.hid (by
      have hR := HE.out
      rw [← hR]
      have hmd : MdAt W4.drew b c m.s m.served F := ⟨sb, lm, Fs, (HI.out.below (Below.refl _ _).drew).md⟩
      exact dequeue_any b c m.s m.served F ⟨4, fl, a, bb⟩ _ hmd ok.s ok.tag ok.len ⟨ok.served.1, by have := ok.served.2; omega⟩)
    have AX : W4.drew.cell? ⟨A0, 4, none⟩ = some (.func (.func 24) #[] #[]) := (HA.out.drew.cell 4).trans rfl
    have hS : W4.drew.cell? ⟨w.heap.size, 0, none⟩ = some (.int .i64 4) ∧ W4.drew.cell? ⟨w.heap.size, 1, none⟩ = some (.int .i64 fl) ∧ W4.drew.cell? ⟨w.heap.size, 2, none⟩ = some (.int .i64 a) ∧ W4.drew.cell? ⟨w.heap.size, 3, none⟩ = some (.int .i64 bb) ∧ W4.drew.cell? ⟨A0, 4, none⟩ = some (.func (.func 24) #[] #[]) := ⟨z0, z1, z2, z3, AX⟩
    clear z0 z1 z2 z3 AX
    go_region_held3 (fun w' => w'.cell? ⟨w.heap.size, 0, none⟩ = some (.int .i64 4) ∧ w'.cell? ⟨w.heap.size, 1, none⟩ = some (.int .i64 fl) ∧ w'.cell? ⟨w.heap.size, 2, none⟩ = some (.int .i64 a) ∧ w'.cell? ⟨w.heap.size, 3, none⟩ = some (.int .i64 bb) ∧ w'.cell? ⟨A0, 4, none⟩ = some (.func (.func 24) #[] #[])) (first | with_reducible exact hS | with_reducible exact HK3 | exact HK4.out _ _ _ _)
      (first | (go_at_call 24; refine HQ.out.mono ?_; rintro e w3 ⟨ao, cap, G, rfl, row, hn3, md3, hG3, fr3⟩; have BZ3 := (HI.out.box.drew).fr fr3 HNZ.out; have BR3 := (HI.out.res.drew).fr fr3 HNR.out; have BA3 := (HA.out.drew).fr fr3 HNA.out; have HK3 := do_keep 4 24 rfl w3 BZ3 BA3; have HK4 := Lib.hid (do_keep4 4 24 rfl hlA w3 BZ3 BA3); have r0 := BR3.cell 0; have r1 := BR3.cell 1; have r2 := BR3.cell 2; have r3 := BR3.cell 3; simp only [ret0, List.getElem?_cons_succ, List.getElem?_cons_zero] at r0 r1 r2 r3; have f0 := BR3.frozen 0; have f1 := BR3.frozen 1; have f2 := BR3.frozen 2; have f3 := BR3.frozen 3; have hrl := BR3.lt; have HP3 := Lib.hid (show RetPost b c R.1 R.2 F W4.drew _ w3 from ⟨ao, cap, G, rfl, row, hn3, md3, hG3, fr3⟩); clear BZ3 BR3 BA3 row hn3 md3 hG3 fr3))
    go_wp2
    refine bodyPost_ret (v := .agg #[.int .i64 R.2.e, .slice ao R.2.ps.length cap, .int .i64 R.2.n, .int .u64 R.2.v]) (by simp [results, Try.results9, go_sem, r0, r1, r2, r3, hrl]) rfl ?_
    exact RetPost.over HI.out.old HI.out.bel.drew (show w.heap.size + 1 < W4.heap.size by omega) HP3.out _ _ _ _
  ·
    have HQ : Hid (Calls Try.prog 25 #[.pointer (some ⟨b, 0, none⟩), .agg #[.int .i64 5, .int .i64 fl, .int .i64 a, .int .i64 bb]] W4.drew (RetPost b c R.1 R.2 F W4.drew)) := Lib.hid (by
      have hR := HE.out
      rw [← hR]
      have hmd : MdAt W4.drew b c m.s m.served F := ⟨sb, lm, Fs, (HI.out.below (Below.refl _ _).drew).md⟩
      exact batch_any b c m F ⟨5, fl, a, bb⟩ _ hmd ok hd)
    have AX : W4.drew.cell? ⟨A0, 5, none⟩ = some (.func (.func 25) #[] #[]) := (HA.out.drew.cell 5).trans rfl
    have hS : W4.drew.cell? ⟨w.heap.size, 0, none⟩ = some (.int .i64 5) ∧ W4.drew.cell? ⟨w.heap.size, 1, none⟩ = some (.int .i64 fl) ∧ W4.drew.cell? ⟨w.heap.size, 2, none⟩ = some (.int .i64 a) ∧ W4.drew.cell? ⟨w.heap.size, 3, none⟩ = some (.int .i64 bb) ∧ W4.drew.cell? ⟨A0, 5, none⟩ = some (.func (.func 25) #[] #[]) := ⟨z0, z1, z2, z3, AX⟩
    clear z0 z1 z2 z3 AX
    go_region_held3 (fun w' => w'.cell? ⟨w.heap.size, 0, none⟩ = some (.int .i64 5) ∧ w'.cell? ⟨w.heap.size, 1, none⟩ = some (.int .i64 fl) ∧ w'.cell? ⟨w.heap.size, 2, none⟩ = some (.int .i64 a) ∧ w'.cell? ⟨w.heap.size, 3, none⟩ = some (.int .i64 bb) ∧ w'.cell? ⟨A0, 5, none⟩ = some (.func (.func 25) #[] #[])) (first | with_reducible exact hS | with_reducible exact HK3 | exact HK4.out _ _ _ _)
      (first | (go_at_call 25; refine HQ.out.mono ?_; rintro e w3 ⟨ao, cap, G, rfl, row, hn3, md3, hG3, fr3⟩; have BZ3 := (HI.out.box.drew).fr fr3 HNZ.out; have BR3 := (HI.out.res.drew).fr fr3 HNR.out; have BA3 := (HA.out.drew).fr fr3 HNA.out; have HK3 := do_keep 5 25 rfl w3 BZ3 BA3; have HK4 := Lib.hid (do_keep4 5 25 rfl hlA w3 BZ3 BA3); have r0 := BR3.cell 0; have r1 := BR3.cell 1; have r2 := BR3.cell 2; have r3 := BR3.cell 3; simp only [ret0, List.getElem?_cons_succ, List.getElem?_cons_zero] at r0 r1 r2 r3; have f0 := BR3.frozen 0; have f1 := BR3.frozen 1; have f2 := BR3.frozen 2; have f3 := BR3.frozen 3; have hrl := BR3.lt; have HP3 := Lib.hid (show RetPost b c R.1 R.2 F W4.drew _ w3 from ⟨ao, cap, G, rfl, row, hn3, md3, hG3, fr3⟩); clear BZ3 BR3 BA3 row hn3 md3 hG3 fr3))
    go_wp2
    refine bodyPost_ret (v := .agg #[.int .i64 R.2.e, .slice ao R.2.ps.length cap, .int .i64 R.2.n, .int .u64 R.2.v]) (by simp [results, Try.results9, go_sem, r0, r1, r2, r3, hrl]) rfl ?_
    exact RetPost.over HI.out.old HI.out.bel.drew (show w.heap.size + 1 < W4.heap.size by omega) HP3.out _ _ _ _
  ·
    have HQ : Hid (Calls Try.prog 26 #[.pointer (some ⟨b, 0, none⟩), .agg #[.int .i64 6, .int .i64 fl, .int .i64 a, .int .i64 bb]] W4.drew (RetPost b c R.1 R.2 F W4.drew)) := Lib.hid (by
      have hR := HE.out
      rw [← hR]
      have hmd : MdAt W4.drew b c m.s m.served F := ⟨sb, lm, Fs, (HI.out.below (Below.refl _ _).drew).md⟩
      exact stats_any b c m F ⟨6, fl, a, bb⟩ _ hmd)
    have AX : W4.drew.cell? ⟨A0, 6, none⟩ = some (.func (.func 26) #[] #[]) := (HA.out.drew.cell 6).trans rfl
    have hS : W4.drew.cell? ⟨w.heap.size, 0, none⟩ = some (.int .i64 6) ∧ W4.drew.cell? ⟨w.heap.size, 1, none⟩ = some (.int .i64 fl) ∧ W4.drew.cell? ⟨w.heap.size, 2, none⟩ = some (.int .i64 a) ∧ W4.drew.cell? ⟨w.heap.size, 3, none⟩ = some (.int .i64 bb) ∧ W4.drew.cell? ⟨A0, 6, none⟩ = some (.func (.func 26) #[] #[]) := ⟨z0, z1, z2, z3, AX⟩
    clear z0 z1 z2 z3 AX
    go_region_held3 (fun w' => w'.cell? ⟨w.heap.size, 0, none⟩ = some (.int .i64 6) ∧ w'.cell? ⟨w.heap.size, 1, none⟩ = some (.int .i64 fl) ∧ w'.cell? ⟨w.heap.size, 2, none⟩ = some (.int .i64 a) ∧ w'.cell? ⟨w.heap.size, 3, none⟩ = some (.int .i64 bb) ∧ w'.cell? ⟨A0, 6, none⟩ = some (.func (.func 26) #[] #[])) (first | with_reducible exact hS | with_reducible exact HK3 | exact HK4.out _ _ _ _)
      (first | (go_at_call 26; refine HQ.out.mono ?_; rintro e w3 ⟨ao, cap, G, rfl, row, hn3, md3, hG3, fr3⟩; have BZ3 := (HI.out.box.drew).fr fr3 HNZ.out; have BR3 := (HI.out.res.drew).fr fr3 HNR.out; have BA3 := (HA.out.drew).fr fr3 HNA.out; have HK3 := do_keep 6 26 rfl w3 BZ3 BA3; have HK4 := Lib.hid (do_keep4 6 26 rfl hlA w3 BZ3 BA3); have r0 := BR3.cell 0; have r1 := BR3.cell 1; have r2 := BR3.cell 2; have r3 := BR3.cell 3; simp only [ret0, List.getElem?_cons_succ, List.getElem?_cons_zero] at r0 r1 r2 r3; have f0 := BR3.frozen 0; have f1 := BR3.frozen 1; have f2 := BR3.frozen 2; have f3 := BR3.frozen 3; have hrl := BR3.lt; have HP3 := Lib.hid (show RetPost b c R.1 R.2 F W4.drew _ w3 from ⟨ao, cap, G, rfl, row, hn3, md3, hG3, fr3⟩); clear BZ3 BR3 BA3 row hn3 md3 hG3 fr3))
    go_wp2
    refine bodyPost_ret (v := .agg #[.int .i64 R.2.e, .slice ao R.2.ps.length cap, .int .i64 R.2.n, .int .u64 R.2.v]) (by simp [results, Try.results9, go_sem, r0, r1, r2, r3, hrl]) rfl ?_
    exact RetPost.over HI.out.old HI.out.bel.drew (show w.heap.size + 1 < W4.heap.size by omega) HP3.out _ _ _ _
end Go.Proofs.Ytfgfjnlkgadkhaa
