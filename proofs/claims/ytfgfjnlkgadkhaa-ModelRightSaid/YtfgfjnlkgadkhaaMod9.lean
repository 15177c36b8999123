/- The model: a flow is registered. -/
import Derived.Test.YtfgfjnlkgadkhaaMod8
import Derived.Deep.QuietTactic
namespace Go.Proofs.Ytfgfjnlkgadkhaa
set_option linter.unusedVariables false
set_option linter.unusedSimpArgs false
set_option maxRecDepth 20000
open Go.RowKit Go.Proofs.YtfgfjnlkgadkhaaMem Go.Proofs.YtfgfjnlkgadkhaaMapK

theorem lens_look {w : World} {lm : Nat} {s : SfS} (h : IsMapAt w lm (Value.int .i64) (lensV s)) (id : Int) : ∃ v, (Instr.lookup 63 (.map (some lm)) (.int .i64 id) true).run Try.prog w = .ok (.tuple #[v, .bool (getF s.fs id).isSome]) w := by
  have hk := run_lookup2 intKey under_lens (zero_int w) h id
  rw [getM_lens] at hk
  cases hg : getF s.fs id with
  | none => rw [hg] at hk; exact ⟨_, hk⟩
  | some x => rw [hg] at hk; exact ⟨_, hk⟩
set_option maxHeartbeats 4000000 in
theorem register_any (b : Nat) (c : Cfg) (s : SfS) (served : Int) (F : Nat → Prop) (d : CallS) (w : World) (h : MdAt w b c s served F) (hc : W64 c.unit) (hk : c.shards ≠ 0) (hn : s.fs.length ≤ 1000000) :
    Calls Try.prog 21 #[.pointer (some ⟨b, 0, none⟩), .agg #[.int .i64 d.op, .int .i64 d.flow, .int .i64 d.a, .int .i64 d.b]] w fun e w' => e = .returned (retE (s.regE c d)) ∧ MdPost b c (s.reg c d) served F w w' := by
  obtain ⟨sb, lm, Fs, h⟩ := h
  have I := InC.start (d := d) h
  have C0 := within_any d.flow 0 1048576
  have C1 := inv_any c.unit d.a hc
  have C2 := within_any d.b 1 8
  have hE : s.regE c d = (if inB d.flow 0 1048576 = false then 1 else if invB c.unit d.a = false then 4 else if inB d.b 1 8 = false then 1 else if (getF s.fs d.flow).isSome then 6 else if c.slots ≤ s.mates c.shards d.flow then 7 else 0) := rfl
  unfold SfS.reg
  have HE := Lib.hid hE
  clear hE h
  generalize s.regE c d = R at *
  go_enter Try.func21, Try.ntmps21
  go_upto_region 1 with fail
  generalize ((w.alloc (.cells #[.int .i64 d.op, .int .i64 d.flow, .int .i64 d.a, .int .i64 d.b] 33)).alloc (.cells #[.int .i64 0, .slice none 0 0, .int .i64 0, .int .u64 0] 37)) = W at *
  obtain ⟨q0, q1, q4, q5, q6, q7, hlt, z0, z1, z2, z3, hzl⟩ := I.cells
  have HI := Lib.hid I
  clear I
  go_wp2_with fail
  refine (C0 _).mono ?_
  rintro e w' ⟨rfl, rfl⟩
  have HX0 : Hid (inB d.flow 0 1048576 = inB d.flow 0 1048576) := Lib.hid rfl
  revert HX0
  generalize h0 : inB d.flow 0 1048576 = x0
  intro HX0
  cases x0 with
  | false =>
    obtain rfl : R = 1 := by rw [HE.out, h0]; rfl
    clear h0
    go_wp2_with fail
    refine (refused_any 1 _).mono ?_
    rintro e w4 ⟨rfl, hb4⟩
    obtain ⟨r0, r1, r2, r3, f0, f1, f2, f3, hrl⟩ := (HI.out.below hb4).out
    have HB4 := Lib.hid hb4
    clear hb4
    go_wp2
    refine bodyPost_ret (v := retE 1) (by simp [retE, results, Try.results21, go_sem, r0, r1, r2, r3, hrl]) rfl ⟨rfl, ?_⟩
    exact HI.out.refused HB4.out _ _ _ _
  | true =>
  go_upto_region 3 with fail
  go_quiet (first | (go_at_call 39; refine Calls.quiet_of_same ((C1 _).mono fun e w' h => ⟨h.1, h.2.symm⟩)))
  replace HI : Hid (InC w (W.drewN nq) b sb lm c s served Fs F d) := Lib.hid (HI.out.below (below_drewN W nq))
  generalize W.drewN nq = W2 at *
  clear q0 q1 q4 q5 q6 q7 hlt z0 z1 z2 z3 hzl C0 C1
  obtain ⟨q0, q1, q4, q5, q6, q7, hlt, z0, z1, z2, z3, hzl⟩ := HI.out.cells
  obtain ⟨v7, hlk⟩ := lens_look (w := W2.drew) (HI.out.md.lens.of_eq rfl) d.flow
  revert HE hlk
  generalize hx3 : (getF s.fs d.flow).isSome = x3
  generalize hx1 : invB c.unit d.a = x1
  generalize hx2 : inB d.b 1 8 = x2
  intro HE hlk
  go_upto_region 4 with fail
  refine wp_region_held_drew (S := (fun w' => w'.cell? ⟨b, 6, none⟩ = some (.map (some lm)) ∧ w'.cell? ⟨w.heap.size, 1, none⟩ = some (.int .i64 d.flow) ∧ (Instr.lookup 63 (.map (some lm)) (.int .i64 d.flow) true).run Try.prog w' = .ok (.tuple #[v7, .bool x3]) w')) (by kernel_rfl) ?_ (fun hHeld => ?_)
  · exact ⟨q6, z1, hlk⟩
  refine wpAnyH_take (i := 0) (v := ?_) rfl (by kernel_rfl) (by kernel_rfl) (by kernel_rfl) (fun _ _ _ h => h) (Or.inl ⟨by rfl, ?_⟩) (by assumption) ?_
  rotate_left
  · intro w hSw
    (try dsimp only at hSw)
    first | (go_simp; done) | (go_simp; with_reducible rfl)
  try simp only [List.getElem_toArray, List.getElem_cons_succ, List.getElem_cons_zero, Act.put, List.setIfInBounds_toArray, List.set_cons_zero, List.set_cons_succ]
  refine wpAnyH_take (i := 1) (v := ?_) rfl (by kernel_rfl) (by kernel_rfl) (by kernel_rfl) (fun _ _ _ h => h) (Or.inl ⟨by rfl, ?_⟩) (by assumption) ?_
  rotate_left
  · intro w hSw
    (try dsimp only at hSw)
    first | (go_simp; done) | (go_simp; with_reducible rfl)
  try simp only [List.getElem_toArray, List.getElem_cons_succ, List.getElem_cons_zero, Act.put, List.setIfInBounds_toArray, List.set_cons_zero, List.set_cons_succ]
  refine wpAnyH_take (i := 2) (v := ?_) rfl (by kernel_rfl) (by kernel_rfl) (by kernel_rfl) (fun _ _ _ h => h) (Or.inl ⟨by rfl, ?_⟩) (by assumption) ?_
  rotate_left
  · intro w hSw
    (try dsimp only at hSw)
    first | (go_simp; done) | (go_simp; with_reducible rfl)
  try simp only [List.getElem_toArray, List.getElem_cons_succ, List.getElem_cons_zero, Act.put, List.setIfInBounds_toArray, List.set_cons_zero, List.set_cons_succ]
  refine wpAnyH_take (i := 3) (v := ?_) rfl (by kernel_rfl) (by kernel_rfl) (by kernel_rfl) (fun _ _ _ h => h) (Or.inl ⟨by rfl, ?_⟩) (by assumption) ?_
  rotate_left
  · intro w hSw
    (try dsimp only at hSw)
    first | (go_simp; done) | (go_simp; with_reducible rfl)
  try simp only [List.getElem_toArray, List.getElem_cons_succ, List.getElem_cons_zero, Act.put, List.setIfInBounds_toArray, List.set_cons_zero, List.set_cons_succ]
  refine wpAnyH_take (i := 4) (v := ?_) rfl (by kernel_rfl) (by kernel_rfl) (by kernel_rfl) (fun _ _ _ h => h) (Or.inl ⟨by rfl, ?_⟩) (by assumption) ?_
  rotate_left
  · intro w hSw
    (try dsimp only at hSw)
    first | (go_simp; done) | (go_simp; with_reducible rfl)
  try simp only [List.getElem_toArray, List.getElem_cons_succ, List.getElem_cons_zero, Act.put, List.setIfInBounds_toArray, List.set_cons_zero, List.set_cons_succ]
  refine wpAnyH_take (i := 5) (v := ?_) rfl (by kernel_rfl) (by kernel_rfl) (by kernel_rfl) (fun _ _ _ h => h) (Or.inl ⟨by rfl, ?_⟩) (by assumption) ?_
  rotate_left
  · intro w hSw
    (try dsimp only at hSw)
    first | (go_simp; done) | (go_simp; with_reducible rfl)
  try simp only [List.getElem_toArray, List.getElem_cons_succ, List.getElem_cons_zero, Act.put, List.setIfInBounds_toArray, List.set_cons_zero, List.set_cons_succ]
  refine wpAnyH_take (i := 6) (v := ?_) rfl (by kernel_rfl) (by kernel_rfl) (by kernel_rfl) (fun _ _ _ h => h) (Or.inl ⟨by rfl, ?_⟩) (by assumption) ?_
  rotate_left
  · intro w hSw
    (try dsimp only at hSw)
    first | (go_simp; done) | (go_simp; with_reducible rfl)
  try simp only [List.getElem_toArray, List.getElem_cons_succ, List.getElem_cons_zero, Act.put, List.setIfInBounds_toArray, List.set_cons_zero, List.set_cons_succ]
  refine wpAnyH_take (i := 7) (v := ?_) rfl (by kernel_rfl) (by kernel_rfl) (by kernel_rfl) (fun _ _ _ h => h) (Or.inl ⟨by rfl, ?_⟩) (by assumption) ?_
  rotate_left
  · intro w hSw
    (try dsimp only at hSw)
    first | (go_simp; done) | (go_simp; with_reducible rfl)
  try simp only [List.getElem_toArray, List.getElem_cons_succ, List.getElem_cons_zero, Act.put, List.setIfInBounds_toArray, List.set_cons_zero, List.set_cons_succ]
  refine wpAnyH_take (i := 8) (v := ?_) rfl (by kernel_rfl) (by kernel_rfl) (by kernel_rfl) (fun _ _ _ h => h) (Or.inl ⟨by rfl, ?_⟩) (by assumption) ?_
  rotate_left
  · intro w hSw
    (try dsimp only at hSw)
    first | (go_simp; done) | (go_simp; with_reducible rfl)
  try simp only [List.getElem_toArray, List.getElem_cons_succ, List.getElem_cons_zero, Act.put, List.setIfInBounds_toArray, List.set_cons_zero, List.set_cons_succ]
  refine wpAnyH_take (i := 9) (v := ?_) rfl (by kernel_rfl) (by kernel_rfl) (by kernel_rfl) (fun _ _ _ h => h) (Or.inl ⟨by rfl, ?_⟩) (by assumption) ?_
  rotate_left
  · intro w hSw
    (try dsimp only at hSw)
    first | (go_simp; done) | (go_simp; with_reducible rfl)
  try simp only [List.getElem_toArray, List.getElem_cons_succ, List.getElem_cons_zero, Act.put, List.setIfInBounds_toArray, List.set_cons_zero, List.set_cons_succ]
  refine wpAnyH_take (i := 10) (v := ?_) rfl (by kernel_rfl) (by kernel_rfl) (by kernel_rfl) (fun _ _ _ h => h) (Or.inl ⟨by rfl, ?_⟩) (by assumption) ?_
  rotate_left
  · intro w hSw
    (try dsimp only at hSw)
    first | (go_simp; done) | (go_simp; with_reducible rfl)
  try simp only [List.getElem_toArray, List.getElem_cons_succ, List.getElem_cons_zero, Act.put, List.setIfInBounds_toArray, List.set_cons_zero, List.set_cons_succ]
  refine wpAnyH_take (i := 11) (v := ?_) rfl (by kernel_rfl) (by kernel_rfl) (by kernel_rfl) (fun _ _ _ h => h) (Or.inl ⟨by rfl, ?_⟩) (by assumption) ?_
  rotate_left
  · intro w hSw
    (try dsimp only at hSw)
    first | (go_simp; done) | (go_simp; with_reducible rfl)
  try simp only [List.getElem_toArray, List.getElem_cons_succ, List.getElem_cons_zero, Act.put, List.setIfInBounds_toArray, List.set_cons_zero, List.set_cons_succ]
  refine wpAnyH_done (by kernel_rfl) ?_ _
  clear hHeld hlk
  replace hx3 := Lib.hid hx3
  replace HI : Hid (InC w W2.drew b sb lm c s served Fs F d) := Lib.hid (HI.out.below (Below.refl _ _).drew)
  generalize W2.drew = W3 at *
  clear q0 q1 q4 q5 q6 q7 hlt z0 z1 z2 z3 hzl
  obtain ⟨q0, q1, q4, q5, q6, q7, hlt, z0, z1, z2, z3, hzl⟩ := HI.out.cells
  cases x1 with
  | false =>
    obtain rfl : R = 4 := by rw [HE.out, h0]; rfl
    clear h0 hx1 hx2
    go_wp2_with fail
    refine (refused_any 4 _).mono ?_
    rintro e w4 ⟨rfl, hb4⟩
    obtain ⟨r0, r1, r2, r3, f0, f1, f2, f3, hrl⟩ := (HI.out.below hb4).out
    have HB4 := Lib.hid hb4
    clear hb4
    go_wp2
    refine bodyPost_ret (v := retE 4) (by simp [retE, results, Try.results21, go_sem, r0, r1, r2, r3, hrl]) rfl ⟨rfl, ?_⟩
    exact HI.out.refused HB4.out _ _ _ _
  | true =>
  go_wp2_with fail
  refine (C2 _).mono ?_
  rw [hx2]
  rintro e w' ⟨rfl, rfl⟩
  cases x2 with
  | false =>
    obtain rfl : R = 1 := by rw [HE.out, h0]; rfl
    clear h0 hx1 hx2
    go_wp2_with fail
    refine (refused_any 1 _).mono ?_
    rintro e w4 ⟨rfl, hb4⟩
    obtain ⟨r0, r1, r2, r3, f0, f1, f2, f3, hrl⟩ := (HI.out.below hb4).out
    have HB4 := Lib.hid hb4
    clear hb4
    go_wp2
    refine bodyPost_ret (v := retE 1) (by simp [retE, results, Try.results21, go_sem, r0, r1, r2, r3, hrl]) rfl ⟨rfl, ?_⟩
    exact HI.out.refused HB4.out _ _ _ _
  | true =>
  cases x3 with
  | true =>
    obtain rfl : R = 6 := by rw [HE.out, h0]; rfl
    clear h0 hx1 hx2
    go_wp2_with fail
    refine (refused_any 6 _).mono ?_
    rintro e w4 ⟨rfl, hb4⟩
    obtain ⟨r0, r1, r2, r3, f0, f1, f2, f3, hrl⟩ := (HI.out.below hb4).out
    have HB4 := Lib.hid hb4
    clear hb4
    go_wp2
    refine bodyPost_ret (v := retE 6) (by simp [retE, results, Try.results21, go_sem, r0, r1, r2, r3, hrl]) rfl ⟨rfl, ?_⟩
    exact HI.out.refused HB4.out _ _ _ _
  | false =>
  have HM : Hid (∀ w', Below W3.heap.size W3 w' → Calls Try.prog 40 #[.pointer (some ⟨b, 0, none⟩), .int .i64 d.flow] w' fun e w2 => e = .returned (.int .i64 (s.mates c.shards d.flow)) ∧ Below w'.heap.size w' w2) := Lib.hid fun w' hb =>
    mates_any b c s served F d.flow w' ⟨sb, lm, Fs, (HI.out.below hb).md⟩ hn hk
  have HC : Hid (∀ w', Below W3.heap.size W3 w' → w'.cell? ⟨b, 1, none⟩ = some (.int .i64 c.slots) ∧ w'.cell? ⟨w.heap.size, 1, none⟩ = some (.int .i64 d.flow)) := Lib.hid fun w' hb => by
    obtain ⟨q0, q1, q4, q5, q6, q7, hlt, z0, z1, z2, z3, hzl⟩ := (HI.out.below hb).cells
    exact ⟨q1, z1⟩
  revert HE HM
  generalize s.mates c.shards d.flow = N
  intro HE HM
  have Td : Below W3.heap.size W3 W3.drew := (Below.refl _ _).drew
  generalize hx4 : decide ((N : Int) ≥ c.slots) = x4
  have HS := HC.out _ Td
  go_upto_region 11 with fail
  go_region_held3 (fun w' => w'.cell? ⟨b, 1, none⟩ = some (.int .i64 c.slots) ∧ w'.cell? ⟨w.heap.size, 1, none⟩ = some (.int .i64 d.flow)) (exact HC.out _ Td)
    (first | (go_at_call 40; refine (HM.out _ Td).mono ?_; rintro e w1 ⟨rfl, hb1⟩; replace Td := Td.trans (hb1.mono Td.size)))
  replace HI : Hid (InC w w1 b sb lm c s served Fs F d) := Lib.hid (HI.out.below Td)
  clear HM HC HS Td hb1 q0 q1 q4 q5 q6 q7 hlt z0 z1 z2 z3 hzl
  cases x4 with
  | true =>
    obtain rfl : R = 7 := by rw [HE.out, h0]; have := of_decide_eq_true hx4; simp; omega
    clear h0 hx1 hx2
    go_wp2_with fail
    refine (refused_any 7 _).mono ?_
    rintro e w4 ⟨rfl, hb4⟩
    obtain ⟨r0, r1, r2, r3, f0, f1, f2, f3, hrl⟩ := (HI.out.below hb4).out
    have HB4 := Lib.hid hb4
    clear hb4
    go_wp2
    refine bodyPost_ret (v := retE 7) (by simp [retE, results, Try.results21, go_sem, r0, r1, r2, r3, hrl]) rfl ⟨rfl, ?_⟩
    exact HI.out.refused HB4.out _ _ _ _
  | false =>
  obtain rfl : R = 0 := by rw [HE.out, h0]; have := of_decide_eq_false hx4; simp; omega
  clear HE h0 hx1 hx2
  obtain ⟨q0, q1, q4, q5, q6, q7, hlt, z0, z1, z2, z3, hzl⟩ := HI.out.cells
  generalize hr : invR c.unit d.a = r at *
  have hrw : W64 r := by rw [← hr]; exact invR_w64 hc
  clear hx4
  replace hr := Lib.hid hr
  have HNB : Hid (¬ Fs b) := Lib.hid (fun hk => (HI.out.md.sub b hk).2.1 rfl)
  have HNZ : Hid (¬ Fs w.heap.size) := Lib.hid (fun hk => by have := HI.out.old _ (HI.out.md.sub _ hk).1; omega)
  have HNR : Hid (¬ Fs (w.heap.size + 1)) := Lib.hid (fun hk => by have := HI.out.old _ (HI.out.md.sub _ hk).1; omega)
  have HI1 : Hid (InC w w1.drew b sb lm c s served Fs F d) := Lib.hid (HI.out.below (Below.refl _ _).drew)
  have hS : w1.drew.cell? ⟨b, 5, none⟩ = some (.pointer (some ⟨sb, 0, none⟩)) ∧ w1.drew.cell? ⟨w.heap.size, 1, none⟩ = some (.int .i64 d.flow) ∧ w1.drew.cell? ⟨w.heap.size, 3, none⟩ = some (.int .i64 d.b) := ⟨q5, z1, z3⟩
  clear q0 q1 q4 q5 q6 q7 z0 z1 z2 z3
  go_upto_region 13 with fail
  go_region_held3 (fun w' => w'.cell? ⟨b, 5, none⟩ = some (.pointer (some ⟨sb, 0, none⟩)) ∧ w'.cell? ⟨w.heap.size, 1, none⟩ = some (.int .i64 d.flow) ∧ w'.cell? ⟨w.heap.size, 3, none⟩ = some (.int .i64 d.b)) (first | exact hS | exact ⟨(HI1.out.md.blk.fr hp.2 HNB.out).cell 5, (HI1.out.box.fr hp.2 HNZ.out).cell 1, (HI1.out.box.fr hp.2 HNZ.out).cell 3⟩)
    (first | (go_at_call 41; refine (addS_any sb s Fs d.flow r d.b _ HI1.out.md.sfq hrw).mono ?_; rintro e w3 ⟨rfl, hp⟩))
  have hg0 : getF s.fs d.flow = none := by have := hx3.out; simpa using this
  have R3 := HI1.out.res.fr hp.2 HNR.out
  have C3 := HI1.out.box.fr hp.2 HNZ.out
  have BL3 := HI1.out.md.blk.fr hp.2 HNB.out
  have HM := Lib.hid (HI1.out.md.map1 hp)
  have hllm := HI1.out.old lm HI1.out.md.hl
  have HP := Lib.hid hp
  have y0 : w3.cell? ⟨b, 6, none⟩ = some (.map (some lm)) := BL3.cell 6
  have hcc : w3.cell? ⟨w.heap.size, 1, none⟩ = some (.int .i64 d.flow) := C3.cell 1
  have HBL := Lib.hid BL3
  have HC3 := Lib.hid C3
  have HR3 := Lib.hid R3
  have HG0 := Lib.hid hg0
  have hnl : lm ≠ b := fun e => HI1.out.md.ne e.symm
  clear BL3 C3 R3 hp hS hg0
  go_upto_region 14 with fail
  refine wp_region_held_drew (S := (fun w' => w'.cell? ⟨b, 6, none⟩ = some (.map (some lm)) ∧ w'.cell? ⟨w.heap.size, 1, none⟩ = some (.int .i64 d.flow))) (by kernel_rfl) ?_ (fun hHeld => ?_)
  · exact ⟨y0, hcc⟩
  refine wpAnyH_take (i := 0) (v := ?_) rfl (by kernel_rfl) (by kernel_rfl) (by kernel_rfl) (fun _ _ _ h => h) (Or.inl ⟨by rfl, ?_⟩) (by assumption) ?_
  rotate_left
  · intro w hSw
    (try dsimp only at hSw)
    first | (go_simp; done) | (go_simp; with_reducible rfl)
  try simp only [List.getElem_toArray, List.getElem_cons_succ, List.getElem_cons_zero, Act.put, List.setIfInBounds_toArray, List.set_cons_zero, List.set_cons_succ]
  refine wpAnyH_take (i := 1) (v := ?_) rfl (by kernel_rfl) (by kernel_rfl) (by kernel_rfl) (fun _ _ _ h => h) (Or.inl ⟨by rfl, ?_⟩) (by assumption) ?_
  rotate_left
  · intro w hSw
    (try dsimp only at hSw)
    first | (go_simp; done) | (go_simp; with_reducible rfl)
  try simp only [List.getElem_toArray, List.getElem_cons_succ, List.getElem_cons_zero, Act.put, List.setIfInBounds_toArray, List.set_cons_zero, List.set_cons_succ]
  refine wpAnyH_take (i := 2) (v := ?_) rfl (by kernel_rfl) (by kernel_rfl) (by kernel_rfl) (fun _ _ _ h => h) (Or.inl ⟨by rfl, ?_⟩) (by assumption) ?_
  rotate_left
  · intro w hSw
    (try dsimp only at hSw)
    first | (go_simp; done) | (go_simp; with_reducible rfl)
  try simp only [List.getElem_toArray, List.getElem_cons_succ, List.getElem_cons_zero, Act.put, List.setIfInBounds_toArray, List.set_cons_zero, List.set_cons_succ]
  refine wpAnyH_take (i := 3) (v := ?_) rfl (by kernel_rfl) (by kernel_rfl) (by kernel_rfl) (fun _ _ _ h => h) (Or.inl ⟨by rfl, ?_⟩) (by assumption) ?_
  rotate_left
  · intro w hSw
    (try dsimp only at hSw)
    first | (go_simp; done) | (go_simp; with_reducible rfl)
  try simp only [List.getElem_toArray, List.getElem_cons_succ, List.getElem_cons_zero, Act.put, List.setIfInBounds_toArray, List.set_cons_zero, List.set_cons_succ]
  refine wpAnyH_take (i := 4) (v := ?_) rfl (by kernel_rfl) (by kernel_rfl) (by kernel_rfl) (fun _ _ _ h => h) (Or.inl ⟨by rfl, ?_⟩) (by assumption) ?_
  rotate_left
  · intro w hSw
    (try dsimp only at hSw)
    first | (go_simp; done) | (go_simp; with_reducible rfl)
  try simp only [List.getElem_toArray, List.getElem_cons_succ, List.getElem_cons_zero, Act.put, List.setIfInBounds_toArray, List.set_cons_zero, List.set_cons_succ]
  refine wpAnyH_take (i := 5) (v := ?_) rfl (by kernel_rfl) (by kernel_rfl) (by kernel_rfl) (fun _ _ _ h => h) (Or.inl ⟨by rfl, ?_⟩) (by assumption) ?_
  rotate_left
  · intro w hSw
    (try dsimp only at hSw)
    first | (go_simp; done) | (go_simp; with_reducible rfl)
  try simp only [List.getElem_toArray, List.getElem_cons_succ, List.getElem_cons_zero, Act.put, List.setIfInBounds_toArray, List.set_cons_zero, List.set_cons_succ]
  refine wpAnyH_ready (rs := [6]) (by kernel_rfl) (by simp) ?_
  refine AllReadyH.cons rfl (fun K hK => ?_) AllReadyH.nil
  (refine step_updateK rfl _ _ _ rfl intKey under_lens d.flow (.int .i64 0) rfl rfl rfl (show IsMapAt w3.drew lm (Value.int .i64) (lensV s) from HM.out.of_eq rfl) ?_; intro w5 hm5 hg5'; have hg5 : w3.grownBy w5 (some lm) := ⟨hg5'.os, hg5'.tape, hg5'.output, hg5'.size, hg5'.block⟩; have hS5 : w5.cell? ⟨b, 6, none⟩ = some (.map (some lm)) ∧ w5.cell? ⟨w.heap.size, 1, none⟩ = some (.int .i64 d.flow) := ⟨(HBL.out.grown hg5 (by intro e; cases e; exact hnl rfl)).cell 6, (HC3.out.grown hg5 (by intro e; cases e; omega)).cell 1⟩)
  refine hK.out _ _ ?_ (fun hHeld => ?_)
  · exact hS5
  clear hK K
  try simp only [List.getElem_toArray, List.getElem_cons_succ, List.getElem_cons_zero, Act.put, List.setIfInBounds_toArray, List.set_cons_zero, List.set_cons_succ]
  refine wpAnyH_done (by kernel_rfl) ?_ _
  have p5 : MdPost b c (s.add d.flow r d.b) served F w1.drew w5 := md_turn HI1.out.md HP.out hg5 (by rw [← lens_add HG0.out]; exact hm5)
  have HP5 := Lib.hid p5
  have R4 := HR3.out.grown hg5 (by intro e; cases e; omega)
  have r0 : w5.cell? ⟨w.heap.size + 1, 0, none⟩ = some (.int .i64 0) := R4.cell 0
  have r1 : w5.cell? ⟨w.heap.size + 1, 1, none⟩ = some (.slice none 0 0) := R4.cell 1
  have r2 : w5.cell? ⟨w.heap.size + 1, 2, none⟩ = some (.int .i64 0) := R4.cell 2
  have r3 : w5.cell? ⟨w.heap.size + 1, 3, none⟩ = some (.int .u64 0) := R4.cell 3
  have f0 := R4.frozen 0
  have f1 := R4.frozen 1
  have f2 := R4.frozen 2
  have f3 := R4.frozen 3
  have hrl := R4.lt
  have hres := HI1.out.res.lt
  clear p5 R4 hg5 hg5' hm5 hS5 y0 hcc
  go_wp2
  have hm : w.heap.size ≤ w.heap.size + 1 ∧ w.heap.size + 1 < w1.drew.heap.size := ⟨Nat.le_succ _, hres⟩
  have g0 : Fr (fun k => w.heap.size ≤ k ∧ k < w1.drew.heap.size) w5 w5 := Fr.refl _ _
  have g1 := g0.setCell (a := ⟨w.heap.size + 1, 0, none⟩) (.inl hm) (.int .i64 0)
  have g2 := g1.setCell (a := ⟨w.heap.size + 1, 1, none⟩) (.inl hm) (.slice none 0 0)
  have g3 := g2.setCell (a := ⟨w.heap.size + 1, 2, none⟩) (.inl hm) (.int .i64 0)
  have g4 := g3.setCell (a := ⟨w.heap.size + 1, 3, none⟩) (.inl hm) (.int .u64 0)
  refine bodyPost_ret (v := retE 0) (by simp [retE, results, Try.results21, go_sem, r0, r1, r2, r3, hrl]) rfl ⟨rfl, ?_⟩
  rw [hr.out]
  exact md_end HI1.out.old HI1.out.bel HP5.out g4
end Go.Proofs.Ytfgfjnlkgadkhaa
