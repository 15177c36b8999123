/- The model: a flow is let go. -/
import Derived.Test.YtfgfjnlkgadkhaaMod5
namespace Go.Proofs.Ytfgfjnlkgadkhaa
set_option linter.unusedVariables false
set_option linter.unusedSimpArgs false
set_option maxRecDepth 20000
open Go.RowKit Go.Proofs.YtfgfjnlkgadkhaaMem Go.Proofs.YtfgfjnlkgadkhaaMapK

/-- 'delete(m, k)' at a step of a region that draws its order. -/
theorem step_deleteK {κ : Type} [DecidableEq κ] {P : Program} {t kt et : TypeId} {kv : κ → Value} {w : World} {b : Nat} {m : List (κ × Value)} {ops : Array Oper} {o : Oper} {a : Act} {Q : Exit → Act → World → Prop} {C : Act → World → Prop} {Ep : Prop} (hg : o.guard = none) (x y : Operand) (hop : o.op = Op.call { callee := Callee.builtin Builtin.delete, args := #[x, y], argTypes := #[t, kt] })
    (K : KeyT P kt kv) (ht : P.underlying t = some (.map kt et)) (k : κ) (hm : a.eval x = .map (some b)) (hk : a.eval y = kv k) (h : IsMapAt w b kv m)
    (hK : ∀ w', IsMapAt w' b kv (delM m k) → w.grownBy w' (some b) → C (a.put o.dst (.tuple #[])) w') :
    if Region.wanted o (yielded ops a.tmps) = true then Oper.wp P o a w C Q else Ep := by
  rw [if_pos (by simp [Region.wanted, hg])]
  obtain ⟨w', hrun, r1, r2⟩ := run_delete K ht o.type h k
  unfold Oper.wp
  simp [execOp, hop, resolve, invoke, builtin, hm, hk, hrun, Result.andThen]
  exact hK w' r1 r2

theorem MdAt.mono {w : World} {b : Nat} {c : Cfg} {s : SfS} {served : Int} {F G : Nat → Prop} (h : MdAt w b c s served F) (hF : ∀ k, F k → G k) (hG : Lt G w) : MdAt w b c s served G := by
  obtain ⟨sb, lm, Fs, h⟩ := h
  exact ⟨sb, lm, Fs, h.blk, h.sfq, h.lens, fun k hk => ⟨hF k (h.sub k hk).1, (h.sub k hk).2⟩, hF b h.hb, hF lm h.hl, h.ne, hG⟩
/-- Blocks of the call's own ahead of it, and stores into these behind it. -/
theorem md_end {w W w3 w5 : World} {b : Nat} {c : Cfg} {s : SfS} {served : Int} {F : Nat → Prop} (hF : Lt F w) (hb : Below w.heap.size w W) (p : MdPost b c s served F W w3) (hf : Fr (fun k => w.heap.size ≤ k ∧ k < W.heap.size) w3 w5) : MdPost b c s served F w w5 := by
  have z1 := hb.size
  have z2 := p.2.size
  have z3 := hf.size
  have f3 : Fr F w w3 := Fr.after_below hb p.2
  have f5 : Fr F w w5 := fr_trans f3 (hf.mono fun k _ hk => .inr ⟨hk.1, by omega⟩)
  refine ⟨(p.1.fr hf fun k hk hk2 => ?_).mono (fun k hk => ?_) (hF.ext f5.size), f5⟩
  · rcases hk with hk | hk
    · have := hF k hk; omega
    · omega
  · rcases hk with hk | hk
    · exact .inl hk
    · exact .inr ⟨by omega, by omega⟩

/-- A call's argument, as an array of cells. -/
structure CallS where
  op : Int
  flow : Int
  a : Int
  b : Int
def retE (k : Int) : Value := .agg #[.int .i64 k, .slice none 0 0, .int .i64 0, .int .u64 0]

set_option maxHeartbeats 2000000 in
theorem shut_any (b : Nat) (c : Cfg) (s : SfS) (served : Int) (F : Nat → Prop) (d : CallS) (w : World) (h : MdAt w b c s served F) :
    Calls Try.prog 22 #[.pointer (some ⟨b, 0, none⟩), .agg #[.int .i64 d.op, .int .i64 d.flow, .int .i64 d.a, .int .i64 d.b]] w fun e w' => e = .returned (retE (s.removeE d.flow)) ∧ MdPost b c (s.remove d.flow) served F w w' := by
  obtain ⟨sb, lm, Fs, h⟩ := h
  have hb1 : Below w.heap.size w ((w.alloc (.cells #[.int .i64 d.op, .int .i64 d.flow, .int .i64 d.a, .int .i64 d.b] 33)).alloc (.cells #[.int .i64 0, .slice none 0 0, .int .i64 0, .int .u64 0] 37)) := ((Below.refl _ _).alloc (Nat.le_refl _) _).alloc (by simp) _
  have B1 := (Blk.new w [.int .i64 d.op, .int .i64 d.flow, .int .i64 d.a, .int .i64 d.b] 33).alloc (.cells #[.int .i64 0, .slice none 0 0, .int .i64 0, .int .u64 0] 37)
  have B2 := Blk.new (w.alloc (.cells #[.int .i64 d.op, .int .i64 d.flow, .int .i64 d.a, .int .i64 d.b] 33)) [.int .i64 0, .slice none 0 0, .int .i64 0, .int .u64 0] 37
  have hF := h.lt
  go_enter Try.func22, Try.ntmps22
  go_upto_region 1 with fail
  have h2 := h.fr (Fr.of_below (S := fun _ => False) hb1) fun _ _ f => f
  have hzb : w.heap.size + 1 < ((w.alloc (.cells #[.int .i64 d.op, .int .i64 d.flow, .int .i64 d.a, .int .i64 d.b] 33)).alloc (.cells #[.int .i64 0, .slice none 0 0, .int .i64 0, .int .u64 0] 37)).heap.size := by simp
  have e1 : (w.alloc (.cells #[.int .i64 d.op, .int .i64 d.flow, .int .i64 d.a, .int .i64 d.b] 33)).heap.size = w.heap.size + 1 := by simp
  rw [e1] at B2
  have HB1 := Lib.hid hb1
  have HF := Lib.hid hF
  clear h hb1 hF e1
  generalize ((w.alloc (.cells #[.int .i64 d.op, .int .i64 d.flow, .int .i64 d.a, .int .i64 d.b] 33)).alloc (.cells #[.int .i64 0, .slice none 0 0, .int .i64 0, .int .u64 0] 37)) = W at *
  have h3 : MdR W.drew b sb lm c s served Fs F := h2.fr (Fr.of_below (S := fun _ => False) (Below.refl _ _).drew) fun _ _ f => f
  obtain ⟨q0, q1, q4, q5, q6, q7, hlt⟩ := h3.cells
  have x1 := B1.cell 1
  simp only [List.getElem?_cons_succ, List.getElem?_cons_zero] at x1
  have hS : W.drew.cell? ⟨b, 5, none⟩ = some (.pointer (some ⟨sb, 0, none⟩)) ∧ W.drew.cell? ⟨w.heap.size, 1, none⟩ = some (.int .i64 d.flow) := ⟨q5, x1⟩
  have H3 := Lib.hid h3
  have HNB : Hid (¬ Fs b) := Lib.hid (fun hk => (h3.sub b hk).2.1 rfl)
  have HNZ : Hid (¬ Fs w.heap.size) := Lib.hid (fun hk => by have := HF.out _ (h3.sub _ hk).1; omega)
  have HNR : Hid (¬ Fs (w.heap.size + 1)) := Lib.hid (fun hk => by have := HF.out _ (h3.sub _ hk).1; omega)
  clear h2 h3 q0 q1 q4 q5 q6 q7 x1
  go_region_held3 (fun w' => w'.cell? ⟨b, 5, none⟩ = some (.pointer (some ⟨sb, 0, none⟩)) ∧ w'.cell? ⟨w.heap.size, 1, none⟩ = some (.int .i64 d.flow)) (first | exact hS | exact ⟨(H3.out.blk.fr hp.2 HNB.out).cell 5, (B1.drew.fr hp.2 HNZ.out).cell 1⟩)
    (first | (go_at_call 42; refine (removeS_any sb s Fs d.flow _ H3.out.sfq).mono ?_; rintro e w3 ⟨rfl, hp⟩))
  have R3 := B2.drew.fr hp.2 HNR.out
  have C3 := B1.drew.fr hp.2 HNZ.out
  by_cases hE : s.removeE d.flow = 0
  · have e2 : (s.removeE d.flow != 0) = false := by simp [hE]
    have hrm : s.remove d.flow = { s with fs := s.fs.filter fun e => decide (e.1 ≠ d.flow) } := by
      unfold SfS.removeE at hE
      unfold SfS.remove
      cases hg : getF s.fs d.flow with
      | none => rw [hg] at hE; exact absurd hE (by decide)
      | some x =>
        rw [hg] at hE
        simp only at hE ⊢
        by_cases hl : x.l = []
        · rw [if_pos hl]
        · rw [if_neg hl] at hE; exact absurd hE (by decide)
    have BL3 := H3.out.blk.fr hp.2 HNB.out
    have HM := Lib.hid (H3.out.map1 hp)
    have hllm := HF.out lm H3.out.hl
    have HP := Lib.hid hp
    have hbc := BL3.cell 6
    have hcc := C3.cell 1
    have y0 : w3.cell? ⟨b, 6, none⟩ = some (.map (some lm)) := hbc
    simp only [List.getElem?_cons_succ, List.getElem?_cons_zero] at hcc
    have HBL := Lib.hid BL3
    have HC3 := Lib.hid C3
    have HR3 := Lib.hid R3
    have hnl : lm ≠ b := fun e => H3.out.ne e.symm
    clear hbc BL3 C3 R3 hp B1 B2 hS
    go_upto_region 4 with fail
    refine wp_region_held_drew (S := (fun w' => w'.cell? ⟨b, 6, none⟩ = some (.map (some lm)) ∧ w'.cell? ⟨w.heap.size, 1, none⟩ = some (.int .i64 d.flow))) (by kernel_rfl) ?_ (fun hHeld => ?_)
    · exact ⟨y0, hcc⟩
    refine wpAnyH_take (i := 0) (v := ?_) rfl (by kernel_rfl) (by kernel_rfl) (by kernel_rfl) (fun _ _ _ h => h) (Or.inl ⟨by rfl, ?_⟩) (by assumption) ?_
    rotate_left
    · intro w hSw
      (try dsimp only at hSw)
      first | (go_simp; done) | (go_simp; with_reducible rfl)
    try simp only [List.getElem_toArray, List.getElem_cons_succ, List.getElem_cons_zero, Act.put, List.setIfInBounds_toArray, List.set_cons_zero, List.set_cons_succ]
    refine wpAnyH_take (i := 1) (v := ?_) rfl (by kernel_rfl) (by kernel_rfl) (by kernel_rfl) (fun _ _ _ h => h) (Or.inl ⟨by rfl, ?_⟩) (by assumption) ?_
    rotate_left
    · intro w hSw
      (try dsimp only at hSw)
      first | (go_simp; done) | (go_simp; with_reducible rfl)
    try simp only [List.getElem_toArray, List.getElem_cons_succ, List.getElem_cons_zero, Act.put, List.setIfInBounds_toArray, List.set_cons_zero, List.set_cons_succ]
    refine wpAnyH_take (i := 2) (v := ?_) rfl (by kernel_rfl) (by kernel_rfl) (by kernel_rfl) (fun _ _ _ h => h) (Or.inl ⟨by rfl, ?_⟩) (by assumption) ?_
    rotate_left
    · intro w hSw
      (try dsimp only at hSw)
      first | (go_simp; done) | (go_simp; with_reducible rfl)
    try simp only [List.getElem_toArray, List.getElem_cons_succ, List.getElem_cons_zero, Act.put, List.setIfInBounds_toArray, List.set_cons_zero, List.set_cons_succ]
    refine wpAnyH_take (i := 3) (v := ?_) rfl (by kernel_rfl) (by kernel_rfl) (by kernel_rfl) (fun _ _ _ h => h) (Or.inl ⟨by rfl, ?_⟩) (by assumption) ?_
    rotate_left
    · intro w hSw
      (try dsimp only at hSw)
      first | (go_simp; done) | (go_simp; with_reducible rfl)
    try simp only [List.getElem_toArray, List.getElem_cons_succ, List.getElem_cons_zero, Act.put, List.setIfInBounds_toArray, List.set_cons_zero, List.set_cons_succ]
    refine wpAnyH_take (i := 4) (v := ?_) rfl (by kernel_rfl) (by kernel_rfl) (by kernel_rfl) (fun _ _ _ h => h) (Or.inl ⟨by rfl, ?_⟩) (by assumption) ?_
    rotate_left
    · intro w hSw
      (try dsimp only at hSw)
      first | (go_simp; done) | (go_simp; with_reducible rfl)
    try simp only [List.getElem_toArray, List.getElem_cons_succ, List.getElem_cons_zero, Act.put, List.setIfInBounds_toArray, List.set_cons_zero, List.set_cons_succ]
    refine wpAnyH_take (i := 5) (v := ?_) rfl (by kernel_rfl) (by kernel_rfl) (by kernel_rfl) (fun _ _ _ h => h) (Or.inl ⟨by rfl, ?_⟩) (by assumption) ?_
    rotate_left
    · intro w hSw
      (try dsimp only at hSw)
      first | (go_simp; done) | (go_simp; with_reducible rfl)
    try simp only [List.getElem_toArray, List.getElem_cons_succ, List.getElem_cons_zero, Act.put, List.setIfInBounds_toArray, List.set_cons_zero, List.set_cons_succ]
    refine wpAnyH_ready (rs := [6]) (by kernel_rfl) (by simp) ?_
    refine AllReadyH.cons rfl (fun K hK => ?_) AllReadyH.nil
    (refine step_deleteK rfl _ _ rfl intKey under_lens d.flow rfl rfl (show IsMapAt w3.drew lm (Value.int .i64) (lensV s) from HM.out.of_eq rfl) ?_; intro w5 hm5 hg5'; have hg5 : w3.grownBy w5 (some lm) := ⟨hg5'.os, hg5'.tape, hg5'.output, hg5'.size, hg5'.block⟩; have hS5 : w5.cell? ⟨b, 6, none⟩ = some (.map (some lm)) ∧ w5.cell? ⟨w.heap.size, 1, none⟩ = some (.int .i64 d.flow) := ⟨(HBL.out.grown hg5 (by intro e; cases e; exact hnl rfl)).cell 6, (HC3.out.grown hg5 (by intro e; cases e; omega)).cell 1⟩)
    refine hK.out _ _ ?_ (fun hHeld => ?_)
    · exact hS5
    clear hK K
    try simp only [List.getElem_toArray, List.getElem_cons_succ, List.getElem_cons_zero, Act.put, List.setIfInBounds_toArray, List.set_cons_zero, List.set_cons_succ]
    refine wpAnyH_done (by kernel_rfl) ?_ _
    have p5 : MdPost b c (s.remove d.flow) served F W.drew w5 := md_turn H3.out HP.out hg5 (by rw [hrm, ← lens_remove]; exact hm5)
    have HP5 := Lib.hid p5
    have R4 := HR3.out.grown hg5 (by intro e; cases e; omega)
    have r0 := R4.cell 0
    have r1 := R4.cell 1
    have r2 := R4.cell 2
    have r3 := R4.cell 3
    have f0 := R4.frozen 0
    have f1 := R4.frozen 1
    have f2 := R4.frozen 2
    have f3 := R4.frozen 3
    simp only [List.getElem?_cons_succ, List.getElem?_cons_zero] at r0 r1 r2 r3
    have hrl := R4.lt
    clear p5 R4 hg5 hg5' hm5 hS5 y0 hcc
    go_wp2
    have hm : w.heap.size ≤ w.heap.size + 1 ∧ w.heap.size + 1 < W.drew.heap.size := ⟨Nat.le_succ _, hzb⟩
    have g0 : Fr (fun k => w.heap.size ≤ k ∧ k < W.drew.heap.size) w5 w5 := Fr.refl _ _
    have g1 := g0.setCell (a := ⟨w.heap.size + 1, 0, none⟩) (.inl hm) (.int .i64 0)
    have g2 := g1.setCell (a := ⟨w.heap.size + 1, 1, none⟩) (.inl hm) (.slice none 0 0)
    have g3 := g2.setCell (a := ⟨w.heap.size + 1, 2, none⟩) (.inl hm) (.int .i64 0)
    have g4 := g3.setCell (a := ⟨w.heap.size + 1, 3, none⟩) (.inl hm) (.int .u64 0)
    refine bodyPost_ret (v := retE 0) (by simp [retE, results, Try.results22, go_sem, r0, r1, r2, r3, hrl]) rfl ⟨by rw [hE], ?_⟩
    exact md_end HF.out HB1.out.drew HP5.out g4
  · have e2 : (s.removeE d.flow != 0) = true := by simpa using hE
    have hrm : s.remove d.flow = s := by
      unfold SfS.removeE at hE
      unfold SfS.remove
      cases hg : getF s.fs d.flow with
      | none => rfl
      | some x =>
        rw [hg] at hE
        simp only at hE ⊢
        by_cases hl : x.l = []
        · rw [if_pos hl] at hE; exact absurd rfl hE
        · rw [if_neg hl]
    have hp0 : MdPost b c s served F W.drew w3 := md_turn0 H3.out (by rw [hrm] at hp; exact hp) rfl
    have HP0 := Lib.hid hp0
    clear hp0 hp
    go_wp2_with fail
    refine (refused_any _ _).mono ?_
    rintro e w4 ⟨rfl, hb4⟩
    have R4 := R3.below hb4
    have r0 := R4.cell 0
    have r1 := R4.cell 1
    have r2 := R4.cell 2
    have r3 := R4.cell 3
    have f0 := R4.frozen 0
    have f1 := R4.frozen 1
    have f2 := R4.frozen 2
    have f3 := R4.frozen 3
    simp only [List.getElem?_cons_succ, List.getElem?_cons_zero] at r0 r1 r2 r3
    have hrl := R4.lt
    have HB4 := Lib.hid hb4
    clear hb4 R4 R3 C3 B1 B2
    go_wp2
    have hm : w.heap.size ≤ w.heap.size + 1 ∧ w.heap.size + 1 < W.drew.heap.size := ⟨Nat.le_succ _, hzb⟩
    have g0 : Fr (fun k => w.heap.size ≤ k ∧ k < W.drew.heap.size) w3 w4 := Fr.of_below HB4.out
    have g1 := g0.setCell (a := ⟨w.heap.size + 1, 0, none⟩) (.inl hm) (.int .i64 (s.removeE d.flow))
    have g2 := g1.setCell (a := ⟨w.heap.size + 1, 1, none⟩) (.inl hm) (.slice none 0 0)
    have g3 := g2.setCell (a := ⟨w.heap.size + 1, 2, none⟩) (.inl hm) (.int .i64 0)
    have g4 := g3.setCell (a := ⟨w.heap.size + 1, 3, none⟩) (.inl hm) (.int .u64 0)
    refine bodyPost_ret (v := retE (s.removeE d.flow)) (by simp [retE, results, Try.results22, go_sem, r0, r1, r2, r3, hrl]) rfl ⟨rfl, ?_⟩
    rw [hrm]
    exact md_end HF.out HB1.out.drew HP0.out g4
end Go.Proofs.Ytfgfjnlkgadkhaa
