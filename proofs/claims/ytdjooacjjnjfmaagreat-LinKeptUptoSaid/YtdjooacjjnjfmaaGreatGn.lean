/- Several texts in one: Rmd4 Rmd5 Rmd6 Rmd7. -/
import Derived.Test.YtdjooacjjnjfmaaGreatGj
import Derived.Laws.OwnMore
import Derived.Deep.CutRange
import Derived.Deep.CutBlock
import Derived.Test.YtdjooacjjnjfmaaGreatGi
-- The reference's model: a packet goes.
section
namespace Go.Proofs.YtdjooacjjnjfmaaGreat
set_option linter.unusedVariables false
set_option linter.unusedSimpArgs false
set_option maxRecDepth 20000
open Go.RowKit Go.Proofs.YtdjooacjjnjfmaaGreatMem Go.Proofs.YtdjooacjjnjfmaaGreatMapK

/-- A call of the reference's under way: its result in a block of its own. -/
structure InO (w W : World) (b : Nat) (c : Cfg) (t : SfS) (served : Int) (F : Nat → Prop) (z : Nat) : Prop where
  bel : Below w.heap.size w W
  md : RmAt W b c t served F
  res : Blk W z ret0 38
  old : Lt F w
  hz : w.heap.size ≤ z
section
variable {w W W' w4 : World} {b z : Nat} {c : Cfg} {t : SfS} {served : Int} {F : Nat → Prop}
theorem InO.below (h : InO w W b c t served F z) (hb : Below W.heap.size W W') : InO w W' b c t served F z :=
  ⟨h.bel.trans (hb.mono h.bel.size), h.md.below hb, h.res.below hb, h.old, h.hz⟩
theorem InO.out (h : InO w W b c t served F z) : W.cell? ⟨z, 0, none⟩ = some (.int .i64 0) ∧ W.cell? ⟨z, 1, none⟩ = some (.slice none 0 0) ∧ W.cell? ⟨z, 2, none⟩ = some (.int .i64 0) ∧ W.cell? ⟨z, 3, none⟩ = some (.int .u64 0) ∧
    W.frozen? ⟨z, 0, none⟩ = false ∧ W.frozen? ⟨z, 1, none⟩ = false ∧ W.frozen? ⟨z, 2, none⟩ = false ∧ W.frozen? ⟨z, 3, none⟩ = false ∧ z < W.heap.size :=
  ⟨h.res.cell 0, h.res.cell 1, h.res.cell 2, h.res.cell 3, h.res.frozen 0, h.res.frozen 1, h.res.frozen 2, h.res.frozen 3, h.res.lt⟩
/-- Nothing turned of it; the result's cells were written. -/
theorem InO.refused (h : InO w W b c t served F z) (hb : Below W.heap.size W w4) (v0 v1 v2 v3 : Value) :
    RmPost b c t served F w ((((w4.setCell ⟨z, 0, none⟩ v0).setCell ⟨z, 1, none⟩ v1).setCell ⟨z, 2, none⟩ v2).setCell ⟨z, 3, none⟩ v3) := by
  have I := h.below hb
  have hz := h.hz
  have g0 : Fr (fun k => k = z) w4 w4 := Fr.refl _ _
  have g1 := g0.setCell (a := ⟨z, 0, none⟩) (.inl rfl) v0
  have g2 := g1.setCell (a := ⟨z, 1, none⟩) (.inl rfl) v1
  have g3 := g2.setCell (a := ⟨z, 2, none⟩) (.inl rfl) v2
  have g4 := g3.setCell (a := ⟨z, 3, none⟩) (.inl rfl) v3
  have hb2 := (((I.bel.setCell (p := ⟨z, 0, none⟩) hz v0).setCell (p := ⟨z, 1, none⟩) hz v1).setCell (p := ⟨z, 2, none⟩) hz v2).setCell (p := ⟨z, 3, none⟩) hz v3
  have hm := I.md.fr g4 fun k hk e => by have := h.old k hk; omega
  exact ⟨hm.mono (fun k hk => .inl hk) (h.old.ext hb2.size), Fr.of_below hb2⟩
end
/-- Behind what turned it. -/
structure OutO (w w0 W : World) (b : Nat) (c : Cfg) (t : SfS) (served : Int) (F : Nat → Prop) (z : Nat) : Prop where
  bel : Below w.heap.size w w0
  md : RmPost b c t served F w0 W
  res : Blk W z ret0 38
  old : Lt F w
  hz : w.heap.size ≤ z ∧ z < w0.heap.size
section
variable {w w0 W W' w4 : World} {b z : Nat} {c : Cfg} {t : SfS} {served : Int} {F : Nat → Prop}
theorem OutO.below (h : OutO w w0 W b c t served F z) (hb : Below W.heap.size W W') : OutO w w0 W' b c t served F z :=
  ⟨h.bel, h.md.then_below (h.old.mono h.bel.size) hb, h.res.below hb, h.old, h.hz⟩
theorem OutO.out (h : OutO w w0 W b c t served F z) : W.cell? ⟨z, 0, none⟩ = some (.int .i64 0) ∧ W.cell? ⟨z, 1, none⟩ = some (.slice none 0 0) ∧ W.cell? ⟨z, 2, none⟩ = some (.int .i64 0) ∧ W.cell? ⟨z, 3, none⟩ = some (.int .u64 0) ∧
    W.frozen? ⟨z, 0, none⟩ = false ∧ W.frozen? ⟨z, 1, none⟩ = false ∧ W.frozen? ⟨z, 2, none⟩ = false ∧ W.frozen? ⟨z, 3, none⟩ = false ∧ z < W.heap.size :=
  ⟨h.res.cell 0, h.res.cell 1, h.res.cell 2, h.res.cell 3, h.res.frozen 0, h.res.frozen 1, h.res.frozen 2, h.res.frozen 3, h.res.lt⟩
theorem OutO.refused (h : OutO w w0 W b c t served F z) (hb : Below W.heap.size W w4) (v0 v1 v2 v3 : Value) :
    RmPost b c t served F w ((((w4.setCell ⟨z, 0, none⟩ v0).setCell ⟨z, 1, none⟩ v1).setCell ⟨z, 2, none⟩ v2).setCell ⟨z, 3, none⟩ v3) := by
  have I := h.below hb
  have g0 : Fr (fun k => w.heap.size ≤ k ∧ k < w0.heap.size) w4 w4 := Fr.refl _ _
  have g1 := g0.setCell (a := ⟨z, 0, none⟩) (.inl h.hz) v0
  have g2 := g1.setCell (a := ⟨z, 1, none⟩) (.inl h.hz) v1
  have g3 := g2.setCell (a := ⟨z, 2, none⟩) (.inl h.hz) v2
  have g4 := g3.setCell (a := ⟨z, 3, none⟩) (.inl h.hz) v3
  exact rm_end h.old h.bel I.md g4
end
set_option maxHeartbeats 4000000 in
theorem oneR_any (b : Nat) (c : Cfg) (t : SfS) (served : Int) (F : Nat → Prop) (w : World) (h : RmAt w b c t served F) (hv : 0 ≤ served ∧ served ≤ 1000000000) :
    Calls Tryz.prog 50 #[.pointer (some ⟨b, 0, none⟩)] w (RrPost b c (MdS.mk t served).one (MdS.mk t served).oneRet F w) := by
  have hE : (MdS.mk t served).oneRet = (if t.has then ⟨0, [t.head], 0, 0⟩ else .code 10) := rfl
  have hT : (MdS.mk t served).one = ⟨t.serve, if t.has then served + 1 else served⟩ := rfl
  have HE := Lib.hid hE
  have HT := Lib.hid hT
  have hF := h.lt
  have hb0 := below1 w (.cells #[.int .i64 0, .slice none 0 0, .int .i64 0, .int .u64 0] 38)
  have R0 : Blk (w.alloc (.cells #[.int .i64 0, .slice none 0 0, .int .i64 0, .int .u64 0] 38)) w.heap.size ret0 38 := Blk.new w ret0 38
  obtain ⟨sb, Fs, R⟩ := h.below hb0
  clear hE hT h
  generalize (MdS.mk t served).oneRet = RR at *
  generalize (MdS.mk t served).one = T at *
  go_enter Tryz.func50, Tryz.ntmps50
  go_upto_region 1 with fail
  generalize (w.alloc (.cells #[.int .i64 0, .slice none 0 0, .int .i64 0, .int .u64 0] 38)) = W at *
  obtain ⟨q0, q1, q4, q5, q6, hlt⟩ := R.cells
  have HB0 := Lib.hid hb0
  have HM := Lib.hid R
  have HR0 := Lib.hid R0
  have hzW := R0.lt
  have HS := Lib.hid (serveR_any sb t Fs W R.sfq)
  have HNB : Hid (¬ Fs b) := Lib.hid (fun hk => (R.sub b hk).2 rfl)
  have HNR : Hid (¬ Fs w.heap.size) := Lib.hid (fun hk => by have := hF _ (R.sub _ hk).1; omega)
  have hFb : F b := R.hb
  clear R R0 hb0
  go_wp2_with fail
  refine HS.out.mono ?_
  rintro e w3 ⟨rfl, hp⟩
  have hO : OutO w W w3 b c t.serve served F w.heap.size := ⟨HB0.out, rm_turn HM.out hp, HR0.out.fr hp.2 HNR.out, hF, Nat.le_refl _, hzW⟩
  have BL3 := HM.out.blk.fr hp.2 HNB.out
  unfold Pk.val
  generalize hh : t.has = hs
  cases hs with
  | false =>
    obtain rfl : RR = .code 10 := by rw [HE.out, hh]; rfl
    obtain rfl : T = ⟨t.serve, served⟩ := by rw [HT.out, hh]; rfl
    have HT0 := Lib.hid (hO.below (below1 w3 (.cells #[.int .i64 t.head.flow, .int .i64 t.head.len, .int .i64 t.head.mark] 59)))
    clear hO hp HS q0 q1 q4 q5 q6 BL3
    go_wp2_with fail
    refine (code_any 10 _).mono ?_
    unfold retE
    rintro e w4 ⟨rfl, hb4⟩
    obtain ⟨r0, r1, r2, r3, f0, f1, f2, f3, hrl⟩ := (HT0.out.below hb4).out
    have HB4 := Lib.hid hb4
    clear hb4
    go_wp2
    refine bodyPost_ret (v := retE 10) (by simp [retE, results, Tryz.results50, go_sem, r0, r1, r2, r3, hrl]) rfl ?_
    exact RrPost.code (HT0.out.refused HB4.out _ _ _ _) 10
  | true =>
    obtain rfl : RR = ⟨0, [t.head], 0, 0⟩ := by rw [HE.out, hh]; rfl
    obtain rfl : T = ⟨t.serve, served + 1⟩ := by rw [HT.out, hh]; rfl
    have hb4 := below1 w3 (.cells #[.int .i64 t.head.flow, .int .i64 t.head.len, .int .i64 t.head.mark] 59)
    have P4 : Blk (w3.alloc (.cells #[.int .i64 t.head.flow, .int .i64 t.head.len, .int .i64 t.head.mark] 59)) w3.heap.size t.head.cells 59 := Blk.new w3 t.head.cells 59
    have BL4 := BL3.below hb4
    have O4 := hO.below hb4
    have e2 : Value.int .i64 (IntKind.i64.wrap (served + 1)) = .int .i64 (served + 1) := by rw [IntWalk.i64_left, IntWalk.wrap64_in _ (by omega)]
    go_upto_region 4 with fail
    generalize (w3.alloc (.cells #[.int .i64 t.head.flow, .int .i64 t.head.len, .int .i64 t.head.mark] 59)) = w4 at *
    have s6 : w4.cell? ⟨b, 6, none⟩ = some (.int .i64 served) := BL4.cell 6
    have g6 := BL4.frozen 6
    have hBl := BL4.lt
    have hP4 := P4.lt
    have hbw := hF b hFb
    have hz3 := hp.2.size
    have P6 := P4.set_far (a := ⟨b, 6, none⟩) (by simp only; omega) (.int .i64 (served + 1))
    have R6 := O4.res.set_far (a := ⟨b, 6, none⟩) (by simp only; omega) (.int .i64 (served + 1))
    have HP5 := Lib.hid (O4.md.setServed hFb (served + 1))
    have HP6 := Lib.hid P6
    have HR6 := Lib.hid R6
    clear P6 R6 P4 BL4 BL3 O4 hO hp HS q0 q1 q4 q5 q6 HE HT hh hb4
    go_upto_region 5 with fail
    generalize hw6 : w4.setCell ⟨b, 6, none⟩ (.int .i64 (served + 1)) = w6 at *
    clear hw6 s6 g6 hBl hP4
    have u0 : w6.cell? ⟨w3.heap.size, 0, none⟩ = some (.int .i64 t.head.flow) := HP6.out.cell 0
    have u1 : w6.cell? ⟨w3.heap.size, 1, none⟩ = some (.int .i64 t.head.len) := HP6.out.cell 1
    have u2 : w6.cell? ⟨w3.heap.size, 2, none⟩ = some (.int .i64 t.head.mark) := HP6.out.cell 2
    have hul := HP6.out.lt
    have r0 : w6.cell? ⟨w.heap.size, 0, none⟩ = some (.int .i64 0) := HR6.out.cell 0
    have r1 : w6.cell? ⟨w.heap.size, 1, none⟩ = some (.slice none 0 0) := HR6.out.cell 1
    have r2 : w6.cell? ⟨w.heap.size, 2, none⟩ = some (.int .i64 0) := HR6.out.cell 2
    have r3 : w6.cell? ⟨w.heap.size, 3, none⟩ = some (.int .u64 0) := HR6.out.cell 3
    have f0 := HR6.out.frozen 0
    have f1 := HR6.out.frozen 1
    have f2 := HR6.out.frozen 2
    have f3 := HR6.out.frozen 3
    have hrl := HR6.out.lt
    have hrw : ¬ w.heap.size = w6.heap.size := by omega
    go_wp2_with fail
    refine bodyPost_ret (v := .agg #[.int .i64 0, .slice (some ⟨w6.heap.size, 0, none⟩) 1 1, .int .i64 0, .int .u64 0]) (by simp [results, Tryz.results50, go_sem, r0, r1, r2, r3, hrl]) rfl ?_
    have hm : w.heap.size ≤ w.heap.size ∧ w.heap.size < W.heap.size := ⟨Nat.le_refl _, hzW⟩
    have g0 : Fr (fun k => w.heap.size ≤ k ∧ k < W.heap.size) w6 w6 := Fr.refl _ _
    have g1 := g0.setCell (a := ⟨w.heap.size, 0, none⟩) (.inl hm) (.int .i64 0)
    have g2 := g1.setCell (a := ⟨w.heap.size, 1, none⟩) (.inl hm) (.slice (some ⟨w6.heap.size, 0, none⟩) 1 1)
    have g3 := g2.setCell (a := ⟨w.heap.size, 2, none⟩) (.inl hm) (.int .i64 0)
    have g4 := g3.setCell (a := ⟨w.heap.size, 3, none⟩) (.inl hm) (.int .u64 0)
    have hs7 : ((((w6.setCell ⟨w.heap.size, 0, none⟩ (.int .i64 0)).setCell ⟨w.heap.size, 1, none⟩ (.slice (some ⟨w6.heap.size, 0, none⟩) 1 1)).setCell ⟨w.heap.size, 2, none⟩ (.int .i64 0)).setCell ⟨w.heap.size, 3, none⟩ (.int .u64 0)).heap.size = w6.heap.size := by simp [World.setCell]
    generalize ((((w6.setCell ⟨w.heap.size, 0, none⟩ (.int .i64 0)).setCell ⟨w.heap.size, 1, none⟩ (.slice (some ⟨w6.heap.size, 0, none⟩) 1 1)).setCell ⟨w.heap.size, 2, none⟩ (.int .i64 0)).setCell ⟨w.heap.size, 3, none⟩ (.int .u64 0)) = w7 at *
    have hsz := HB0.out.size
    have hzz := HP5.out.2.size
    have hrow := World.ownsRow_lit (base := w.heap.size) (e := 59) (size := 3) w7 #[.int .i64 t.head.flow, .int .i64 t.head.len, .int .i64 t.head.mark] 1 (by omega) (by decide) rfl
    rw [hs7] at hrow
    have g5 := g4.alloc (.cells #[.int .i64 t.head.flow, .int .i64 t.head.len, .int .i64 t.head.mark] 59)
    exact RrPost.row (r := ⟨0, [t.head], 0, 0⟩) (m := ⟨t.serve, served + 1⟩) hF HB0.out HP5.out g5 (Nat.le_refl _) hrow
end Go.Proofs.YtdjooacjjnjfmaaGreat
end

-- The reference's model: a batch goes.
section
namespace Go.Proofs.YtdjooacjjnjfmaaGreat
set_option linter.unusedVariables false
set_option linter.unusedSimpArgs false
set_option maxRecDepth 20000
open Go.RowKit Go.Proofs.YtdjooacjjnjfmaaGreatMem Go.Proofs.YtdjooacjjnjfmaaGreatMapK

/-- A batch under way: what came lies in the row that the variable at X holds. -/
structure RbSt (w wr : World) (X b : Nat) (c : Cfg) (m : MdS) (F : Nat → Prop) (e : Int) (acc : List Pk) (ao : Option Addr) (cap : Nat) : Prop where
  md : ∃ G : Nat → Prop, RmAt wr b c m.s m.served G ∧ (∀ k, G k → F k ∨ (X < k ∧ k < wr.heap.size)) ∧ ∀ a, ao = some a → ¬ G a.block
  fr : Fr F w wr
  res : Blk wr w.heap.size ret0 38
  out : Blk wr X [.int .i64 e, .slice ao acc.length cap, .int .i64 0, .int .u64 0] 38
  row : wr.ownsRow (X + 1) 59 3 (.slice ao acc.length cap) acc.length (pks acc)
  old : Lt F w
  hX : w.heap.size < X
section
variable {w wr w' : World} {X b : Nat} {c : Cfg} {m : MdS} {F : Nat → Prop} {e : Int} {acc : List Pk} {ao : Option Addr} {cap : Nat}
theorem RbSt.below (h : RbSt w wr X b c m F e acc ao cap) (hb : Below wr.heap.size wr w') : RbSt w w' X b c m F e acc ao cap := by
  obtain ⟨G, h1, h2, h3⟩ := h.md
  have z := hb.size
  exact ⟨⟨G, h1.below hb, fun k hk => (h2 k hk).imp id fun hk => ⟨hk.1, by omega⟩, h3⟩, h.fr.then_below hb, h.res.below hb, h.out.below hb, owns_below (B := 0) h.row hb, h.old, h.hX⟩
theorem RbSt.served {G G' : Nat → Prop} {m' : MdS} (h : RbSt w wr X b c m F e acc ao cap) (h2 : ∀ k, G k → F k ∨ (X < k ∧ k < wr.heap.size)) (h3 : ∀ a, ao = some a → ¬ G a.block)
    (p : RmAt w' b c m'.s m'.served G') (hG : ∀ k, G' k → Ext G wr w' k) (f : Fr G wr w') : RbSt w w' X b c m' F e acc ao cap := by
  have z := f.size
  have hlX := h.out.lt
  have hX := h.hX
  have hn : ∀ k, k ≤ X → w.heap.size ≤ k → ¬ G k := fun k hk hk1 hk2 => by
    rcases h2 k hk2 with hk2 | hk2
    · have := h.old k hk2; omega
    · omega
  refine ⟨⟨G', p, fun k hk => ?_, fun a ha hk => ?_⟩, ?_, h.res.fr f (hn _ (by omega) (by omega)), h.out.fr f (hn _ (by omega) (by omega)), owns_fr h.row f fun k hk => ?_, h.old, h.hX⟩
  · rcases hG k hk with hk | hk
    · exact (h2 k hk).imp id fun hk => ⟨hk.1, by omega⟩
    · exact .inr ⟨by omega, hk.2⟩
  · rcases hG _ hk with hk | hk
    · exact h3 a ha hk
    · have := (h.row.lt a.block (by rw [ha]; rfl)).2; omega
  · refine h.fr.trans f fun i hi hk => ?_
    rcases h2 i hk with hk | hk
    · exact hk
    · omega
  · cases ao with
    | none => cases hk
    | some a => cases hk; exact h3 a rfl
/-- The variable's number was written. -/
theorem RbSt.setE (h : RbSt w wr X b c m F e acc ao cap) (e' : Int) : RbSt w (wr.setCell ⟨X, 0, none⟩ (.int .i64 e')) X b c m F e' acc ao cap := by
  obtain ⟨G, h1, h2, h3⟩ := h.md
  have hX := h.hX
  have hs : (wr.setCell ⟨X, 0, none⟩ (.int .i64 e')).heap.size = wr.heap.size := by simp [World.setCell]
  have f : Fr (fun k => k = X) wr (wr.setCell ⟨X, 0, none⟩ (.int .i64 e')) := Fr.setCell (S := fun k => k = X) (Fr.refl _ _) (a := ⟨X, 0, none⟩) (.inl rfl) _
  have hn : ¬ G X := fun hk => by
    rcases h2 X hk with hk | hk
    · have := h.old X hk; omega
    · omega
  refine ⟨⟨G, h1.fr f fun k hk e => by subst e; exact hn hk, fun k hk => by rw [hs]; exact h2 k hk, h3⟩, ?_, h.res.fr f (by omega), h.out.set 0 _, owns_fr h.row f fun k hk e => ?_, h.old, h.hX⟩
  · refine h.fr.trans f fun i hi hk => ?_
    omega
  · have := (h.row.lt k hk).1; omega
/-- The row was appended to. -/
theorem RbSt.grow (h : RbSt w wr X b c m F e acc ao cap) {ao' : Option Addr} {cap' : Nat} {acc' : List Pk} (row : w'.ownsRow (X + 1) 59 3 (.slice ao' acc'.length cap') acc'.length (pks acc'))
    (hg : wr.grownBy w' (Value.slice ao acc.length cap).ownBlock) (hf : FreshOr wr (.slice ao acc.length cap) (.slice ao' acc'.length cap')) :
    RbSt w (w'.setCell ⟨X, 1, none⟩ (.slice ao' acc'.length cap')) X b c m F e acc' ao' cap' := by
  obtain ⟨G, h1, h2, h3⟩ := h.md
  have hX := h.hX
  have hlX := h.out.lt
  have hs : (w'.setCell ⟨X, 1, none⟩ (.slice ao' acc'.length cap')).heap.size = w'.heap.size := by simp [World.setCell]
  have hro : ∀ k, (Value.slice ao acc.length cap).ownBlock = some k → X + 1 ≤ k ∧ k < wr.heap.size := h.row.lt
  have hG : ∀ k, G k → k ≠ X ∧ (Value.slice ao acc.length cap).ownBlock ≠ some k := fun k hk => by
    refine ⟨fun e => ?_, fun e => ?_⟩
    · subst e
      rcases h2 k hk with hk | hk
      · have := h.old k hk; omega
      · omega
    · cases ao with
      | none => cases e
      | some a => cases e; exact h3 a rfl hk
  have f1 : Fr (fun k => (Value.slice ao acc.length cap).ownBlock = some k) wr w' := (Fr.refl _ _).grown hg fun k e => .inl e
  have f2 : Fr (fun k => (Value.slice ao acc.length cap).ownBlock = some k ∨ k = X) wr (w'.setCell ⟨X, 1, none⟩ (.slice ao' acc'.length cap')) := Fr.setCell (S := fun k => (Value.slice ao acc.length cap).ownBlock = some k ∨ k = X) (f1.mono fun k _ hk => .inl hk) (a := ⟨X, 1, none⟩) (.inl (.inr rfl)) _
  have hz := f1.size
  have hB : ∀ k, k < X → ¬ ((Value.slice ao acc.length cap).ownBlock = some k ∨ k = X) := fun k hk h => by
    rcases h with h | h
    · have := (hro k h).1; omega
    · omega
  have f3 : Fr (fun k => k = X) w' (w'.setCell ⟨X, 1, none⟩ (.slice ao' acc'.length cap')) := Fr.setCell (S := fun k => k = X) (Fr.refl _ _) (a := ⟨X, 1, none⟩) (.inl rfl) _
  refine ⟨⟨G, h1.fr f2 fun k hk h => ?_, fun k hk => by rw [hs]; exact (h2 k hk).imp id fun hk => ⟨hk.1, by omega⟩, fun a ha hk => ?_⟩, ?_, h.res.fr f2 (hB _ (by omega)), (h.out.fr f1 fun e => by have := (hro X e).1; omega).set 1 _, owns_fr row f3 fun k hk e => ?_, h.old, h.hX⟩
  · rcases h with h | h
    · exact (hG k hk).2 h
    · exact (hG k hk).1 h
  · rcases hf with hf | hf
    · exact (hG _ hk).2 (by rw [← hf, ha]; rfl)
    · have h4 := hf a.block (by rw [ha]; rfl)
      have := h1.lt _ hk
      omega
  · refine h.fr.trans f2 fun i hi hk => ?_
    rcases hk with hk | hk
    · have := (hro i hk).1; omega
    · omega
  · have := (row.lt k hk).1; omega
theorem RbSt.done (h : RbSt w wr X b c m F e acc ao cap) : RrPost b c m ⟨e, acc, 0, 0⟩ F w (.returned (.agg #[.int .i64 e, .slice ao acc.length cap, .int .i64 0, .int .u64 0]))
    ((((wr.setCell ⟨w.heap.size, 0, none⟩ (.int .i64 e)).setCell ⟨w.heap.size, 1, none⟩ (.slice ao acc.length cap)).setCell ⟨w.heap.size, 2, none⟩ (.int .i64 0)).setCell ⟨w.heap.size, 3, none⟩ (.int .u64 0)) := by
  obtain ⟨G, h1, h2, h3⟩ := h.md
  have hX := h.hX
  have g0 : Fr (fun k => k = w.heap.size) wr wr := Fr.refl _ _
  have g1 := g0.setCell (a := ⟨w.heap.size, 0, none⟩) (.inl rfl) (.int .i64 e)
  have g2 := g1.setCell (a := ⟨w.heap.size, 1, none⟩) (.inl rfl) (.slice ao acc.length cap)
  have g3 := g2.setCell (a := ⟨w.heap.size, 2, none⟩) (.inl rfl) (.int .i64 0)
  have g4 := g3.setCell (a := ⟨w.heap.size, 3, none⟩) (.inl rfl) (.int .u64 0)
  have f : Fr F w _ := h.fr.trans g4 fun i hi hk => by omega
  refine ⟨ao, cap, G, rfl, ?_, h3, h1.fr g4 fun k hk e => ?_, fun k hk => ?_, f⟩
  · exact owns_base (owns_fr h.row g4 fun k hk e => by have := (h.row.lt k hk).1; omega) (by omega)
  · subst e
    rcases h2 _ hk with hk | hk
    · have := h.old _ hk; omega
    · omega
  · have := g4.size
    exact (h2 k hk).imp id fun hk => ⟨by omega, by omega⟩
end
end Go.Proofs.YtdjooacjjnjfmaaGreat
end

-- The reference's model: a batch goes, the walk.
section
namespace Go.Proofs.YtdjooacjjnjfmaaGreat
set_option linter.unusedVariables false
set_option linter.unusedSimpArgs false
set_option maxRecDepth 20000
open Go.RowKit Go.Proofs.YtdjooacjjnjfmaaGreatMem Go.Proofs.YtdjooacjjnjfmaaGreatMapK

set_option maxHeartbeats 4000000 in
theorem batchR_any (b : Nat) (c : Cfg) (m : MdS) (F : Nat → Prop) (da : Int) (w : World) (h : RmAt w b c m.s m.served F) (hv : 0 ≤ m.served ∧ m.served ≤ 900000000) :
    Calls Tryz.prog 51 #[.pointer (some ⟨b, 0, none⟩), .int .i64 da] w (RrPost b c (m.batch da).1 (m.batch da).2 F w) := by
  have hF := h.lt
  have hE : m.batch da = if inB da 1 16 then m.bat da.toNat [] else (m, .code 1) := rfl
  have HE := Lib.hid hE
  have hb0 := below1 w (.cells #[.int .i64 0, .slice none 0 0, .int .i64 0, .int .u64 0] 38)
  have R0 : Blk (w.alloc (.cells #[.int .i64 0, .slice none 0 0, .int .i64 0, .int .u64 0] 38)) w.heap.size ret0 38 := Blk.new w ret0 38
  have I : InO w (w.alloc (.cells #[.int .i64 0, .slice none 0 0, .int .i64 0, .int .u64 0] 38)) b c m.s m.served F w.heap.size := ⟨hb0, h.below hb0, R0, hF, Nat.le_refl _⟩
  have HI := Lib.hid I
  clear hE h hb0 R0 I
  generalize m.batch da = R at *
  go_enter Tryz.func51, Tryz.ntmps51
  go_upto_region 1 with fail
  generalize (w.alloc (.cells #[.int .i64 0, .slice none 0 0, .int .i64 0, .int .u64 0] 38)) = W at *
  by_cases h1 : da < 1
  · obtain rfl : R = (m, .code 1) := by
      rw [HE.out]
      have : inB da 1 16 = false := by unfold inB; simp only [Bool.and_eq_false_iff, decide_eq_false_iff_not]; omega
      rw [this]; rfl
    go_wp2_with fail
    refine (code_any 1 _).mono ?_
    unfold retE
    rintro e w4 ⟨rfl, hb4⟩
    obtain ⟨r0, r1, r2, r3, f0, f1, f2, f3, hrl⟩ := (HI.out.below hb4).out
    have HB4 := Lib.hid hb4
    clear hb4
    go_wp2
    refine bodyPost_ret (v := retE 1) (by simp [retE, results, Tryz.results51, go_sem, r0, r1, r2, r3, hrl]) rfl ?_
    exact RrPost.code (HI.out.refused HB4.out _ _ _ _) 1
  by_cases h2 : da > 16
  · obtain rfl : R = (m, .code 1) := by
      rw [HE.out]
      have : inB da 1 16 = false := by unfold inB; simp only [Bool.and_eq_false_iff, decide_eq_false_iff_not]; omega
      rw [this]; rfl
    go_wp2_with fail
    refine (code_any 1 _).mono ?_
    unfold retE
    rintro e w4 ⟨rfl, hb4⟩
    obtain ⟨r0, r1, r2, r3, f0, f1, f2, f3, hrl⟩ := (HI.out.below hb4).out
    have HB4 := Lib.hid hb4
    clear hb4
    go_wp2
    refine bodyPost_ret (v := retE 1) (by simp [retE, results, Tryz.results51, go_sem, r0, r1, r2, r3, hrl]) rfl ?_
    exact RrPost.code (HI.out.refused HB4.out _ _ _ _) 1
  obtain ⟨n, hdn, hn1, hn16⟩ : ∃ n : Nat, da = n ∧ 1 ≤ n ∧ n ≤ 16 := ⟨da.toNat, by omega, by omega, by omega⟩
  have hR : R = m.bat n [] := by
    have : inB da 1 16 = true := by unfold inB; simp only [Bool.and_eq_true, decide_eq_true_eq]; omega
    rw [HE.out, this]; simp [hdn]
  have hb1 := below1 W (.cells #[.int .i64 0, .slice none 0 0, .int .i64 0, .int .u64 0] 38)
  have HI1 := HI.out.below hb1
  have hres := HI.out.res.lt
  have S0 : RbSt w (W.alloc (.cells #[.int .i64 0, .slice none 0 0, .int .i64 0, .int .u64 0] 38)) W.heap.size b c m F 0 [] none 0 :=
    ⟨⟨F, HI1.md, fun k hk => .inl hk, fun a ha => by cases ha⟩, Fr.of_below HI1.bel, HI1.res, Blk.new W [.int .i64 0, .slice none 0 0, .int .i64 0, .int .u64 0] 38, owns_nil _ _ _ _, HI.out.old, hres⟩
  have HR := Lib.hid hR
  have HS0 := Lib.hid S0
  have HDN := Lib.hid hdn
  clear HE HI1 hR S0 hdn hF
  go_upto_block 0 with fail
  clear h1 h2
  go_cut [] from 6 to 36 (fun wx => ∃ e acc ao cap, RbSt w wx W.heap.size b c R.1 F e acc ao cap ∧ R.2 = ⟨e, acc, 0, 0⟩)
  case first =>
    generalize W.alloc (.cells #[.int .i64 0, .slice none 0 0, .int .i64 0, .int .u64 0] 38) = W1 at *
    generalize W.heap.size = X at *
    go_wp2_with fail
    go_loopw [6] (fun v6 wr => ∃ (k : Nat) (mk : MdS) (e : Int) (acc : List Pk) (ao : Option Addr) (cap : Nat), k ≤ n ∧ v6 = .int .i64 k ∧ (e = 0 ∧ mk.bat (n - k) acc = R ∨ e = 10 ∧ R = (mk, ⟨10, acc, 0, 0⟩)) ∧ (0 ≤ mk.served ∧ mk.served ≤ 900000000 + k) ∧ acc.length ≤ k ∧ RbSt w wr X b c mk F e acc ao cap) (fun v6 _ => n - (intOf v6).toNat)
    case atStart => exact ⟨0, m, 0, [], none, 0, Nat.zero_le _, rfl, .inl ⟨rfl, HR.out.symm⟩, ⟨hv.1, by omega⟩, Nat.le_refl _, HS0.out⟩
    case round =>
      obtain ⟨k, mk, e, acc, ao, cap, hk, rfl, hbat, hsv, hal, bs⟩ := hrel
      have x0 : wr.cell? ⟨X, 0, none⟩ = some (.int .i64 e) := bs.out.cell 0
      have xl := bs.out.lt
      by_cases hl : k < n
      · have i1 : (k : Int) < da := by have := HDN.out; omega
        rcases hbat with ⟨rfl, hbat⟩ | ⟨rfl, hbat⟩
        · obtain ⟨G, g1, g2, g3⟩ := bs.md
          have HQ := Lib.hid (oneR_any b c mk.s mk.served G wr g1 ⟨hsv.1, by omega⟩)
          have HBAT := Lib.hid hbat
          have BS := Lib.hid bs
          clear hbat bs g1
          go_wp2_with fail
          refine HQ.out.mono ?_
          rintro e w1 ⟨ao1, cap1, G1, rfl, row1, n1, p1, s1, fr1⟩
          have B1 := BS.out.served g2 g3 p1 s1 fr1
          have hrow1 := row1
          have hXwr := BS.out.out.lt
          have hone : (MdS.mk mk.s mk.served).oneRet = mk.oneRet := rfl
          rw [hone] at hrow1 ⊢
          have hone2 : (MdS.mk mk.s mk.served).one = mk.one := rfl
          rw [hone2] at B1
          clear hone hone2 row1 n1 p1 s1 fr1 x0 xl
          obtain ⟨rr, hrr⟩ : ∃ rr, mk.oneRet = rr := ⟨_, rfl⟩
          have hRR := Lib.hid hrr
          rw [hrr] at hrow1 ⊢
          have hb2 := below1 w1 (.cells #[.int .i64 rr.e, .slice ao1 rr.ps.length cap1, .int .i64 rr.n, .int .u64 rr.v] 38)
          have B2 := B1.below hb2
          have R2 := Blk.new w1 [.int .i64 rr.e, .slice ao1 rr.ps.length cap1, .int .i64 rr.n, .int .u64 rr.v] 38
          have D2 := owns_below (B := 0) hrow1 hb2
          have hXl := B1.out.lt
          clear hrr hb2 hrow1 B1
          go_upto_region 8 with fail
          generalize w1.alloc (.cells #[.int .i64 rr.e, .slice ao1 rr.ps.length cap1, .int .i64 rr.n, .int .u64 rr.v] 38) = w2 at *
          have c0 : w2.cell? ⟨w1.heap.size, 0, none⟩ = some (.int .i64 rr.e) := R2.cell 0
          have c1 := R2.lt
          have x0 : w2.cell? ⟨X, 0, none⟩ = some (.int .i64 0) := B2.out.cell 0
          have xf := B2.out.frozen 0
          have xl := B2.out.lt
          have B3 := B2.setE rr.e
          have R3 := R2.set_far (a := ⟨X, 0, none⟩) (by simp only; omega) (.int .i64 rr.e)
          have HB3 := Lib.hid B3
          have HR3 := Lib.hid R3
          have D3 := owns_fr D2 (Fr.setCell (S := fun k => k = X) (Fr.refl _ w2) (a := ⟨X, 0, none⟩) (.inl rfl) (.int .i64 rr.e)) fun k hk e => by have := (D2.lt k hk).1; omega
          have HD3 := Lib.hid D3
          clear B2 R2 B3 R3 D2 D3
          go_upto_region 9 with fail
          generalize w2.setCell ⟨X, 0, none⟩ (.int .i64 rr.e) = w3 at *
          clear c0 c1 x0 xf xl
          have x1 : w3.cell? ⟨X, 1, none⟩ = some (.slice ao acc.length cap) := HB3.out.out.cell 1
          have xf := HB3.out.out.frozen 1
          have xl := HB3.out.out.lt
          have y1 : w3.cell? ⟨w1.heap.size, 1, none⟩ = some (.slice ao1 rr.ps.length cap1) := HR3.out.cell 1
          have yl := HR3.out.lt
          have hnk : n - k = (n - (k + 1)) + 1 := by omega
          have hrr : (mk.s.has = true ∧ rr = ⟨0, [mk.s.head], 0, 0⟩) ∨ (mk.s.has = false ∧ rr = .code 10) := by
            rw [← hRR.out]
            unfold MdS.oneRet
            cases mk.s.has with
            | true => exact .inl ⟨rfl, rfl⟩
            | false => exact .inr ⟨rfl, rfl⟩
          have hlen : rr.ps.length ≤ 1 := by rcases hrr with ⟨_, h⟩ | ⟨_, h⟩ <;> rw [h] <;> simp [RetS.code]
          have hLen := Lib.hid hlen
          have HRR2 := Lib.hid hrr
          have hal2 := Lib.hid hal
          have hsv2 : 0 ≤ mk.one.served ∧ mk.one.served ≤ 900000000 + ((k + 1 : Nat) : Int) := by
            show 0 ≤ (if mk.s.has then mk.served + 1 else mk.served) ∧ (if mk.s.has then mk.served + 1 else mk.served) ≤ _
            split <;> omega
          have HSV := Lib.hid hsv2
          clear hrr hlen hal hsv2
          go_wp2_with ((at_builtin; refine ap_src w3 EP rfl _ _ rfl (X + 1) _ acc.length (pks acc) rfl HB3.out.row (by omega) ao1 rr.ps.length cap1 (pks rr.ps) rfl (fun h => (owns_cap HD3.out).2.2.2 h) (pks_length _) (fun j u hu => by obtain ⟨g, h1, -, -, h2⟩ := owns_at HD3.out hu; exact ⟨g, 0, h1, h2⟩) (pks_one _) (by have := hal2.out; have := hLen.out; omega) ?_; intro v' w4 hown4 hg4 hb4 hfr4; rw [← List.length_append, ← pks_append] at hown4; obtain ⟨acc5, hacc⟩ : ∃ l, Hid (l = acc ++ rr.ps) := ⟨_, Lib.hid rfl⟩; rw [← hacc.out] at hown4; obtain ⟨ao4, cap4, rfl⟩ := owns_slice hown4; have O4 := HB3.out.out.grown hg4 (by intro e; have := (HB3.out.row.lt X e).1; omega); have x4 := O4.cell 1; have xf4 := O4.frozen 1; have xl4 := O4.lt; simp only [List.getElem?_cons_succ, List.getElem?_cons_zero] at x4))
          have B5 := HB3.out.grow hown4 hg4 hfr4
          go_roundw
          case rel =>
            refine ⟨k + 1, mk.one, rr.e, acc5, ao4, cap4, by omega, by go_num, ?_, HSV.out, by rw [hacc.out, List.length_append]; have := hal2.out; have := hLen.out; omega, B5⟩
            rcases HRR2.out with ⟨h1, h2⟩ | ⟨h1, h2⟩
            · exact .inl ⟨by rw [h2], by rw [← HBAT.out, hnk, bat_succ, h1, hacc.out, h2]; rfl⟩
            · exact .inr ⟨by rw [h2]; rfl, by rw [← HBAT.out, hnk, bat_succ, h1, hacc.out, h2]; show (mk.one, (⟨10, acc, 0, 0⟩ : RetS)) = (mk.one, ⟨10, acc ++ [], 0, 0⟩); rw [List.append_nil]⟩
          case measure => simp [intOf]; omega
        · have e2 : ((10 : Int) == 0) = false := by decide
          have BS := Lib.hid bs
          have HB := Lib.hid hbat
          clear bs hbat
          go_wp2
          go_meet
          exact ⟨10, acc, ao, cap, by rw [HB.out]; exact BS.out, by rw [HB.out]⟩
      · have i1 : ¬ (k : Int) < da := by have := HDN.out; omega
        have BS := Lib.hid bs
        have HB := Lib.hid hbat
        clear bs hbat
        go_wp2
        go_meet
        rcases HB.out with ⟨rfl, hbat⟩ | ⟨rfl, hbat⟩
        · obtain rfl : k = n := by omega
          refine ⟨0, acc, ao, cap, ?_, ?_⟩
          · rw [← hbat, Nat.sub_self]; exact BS.out
          · rw [← hbat, Nat.sub_self]; rfl
        · exact ⟨10, acc, ao, cap, by rw [hbat]; exact BS.out, by rw [hbat]⟩
  case rest =>
    obtain ⟨e, acc, ao, cap, bs, h2⟩ := hcut
    have o0 : wc.cell? ⟨W.heap.size, 0, none⟩ = some (.int .i64 e) := bs.out.cell 0
    have o1 : wc.cell? ⟨W.heap.size, 1, none⟩ = some (.slice ao acc.length cap) := bs.out.cell 1
    have o2 : wc.cell? ⟨W.heap.size, 2, none⟩ = some (.int .i64 0) := bs.out.cell 2
    have o3 : wc.cell? ⟨W.heap.size, 3, none⟩ = some (.int .u64 0) := bs.out.cell 3
    have hxl := bs.out.lt
    have r0 : wc.cell? ⟨w.heap.size, 0, none⟩ = some (.int .i64 0) := bs.res.cell 0
    have r1 : wc.cell? ⟨w.heap.size, 1, none⟩ = some (.slice none 0 0) := bs.res.cell 1
    have r2 : wc.cell? ⟨w.heap.size, 2, none⟩ = some (.int .i64 0) := bs.res.cell 2
    have r3 : wc.cell? ⟨w.heap.size, 3, none⟩ = some (.int .u64 0) := bs.res.cell 3
    have f0 := bs.res.frozen 0
    have f1 := bs.res.frozen 1
    have f2 := bs.res.frozen 2
    have f3 := bs.res.frozen 3
    have hrl := bs.res.lt
    have BS := Lib.hid bs
    have H2 := Lib.hid h2
    clear bs h2
    go_wp2
    refine bodyPost_ret (v := .agg #[.int .i64 e, .slice ao acc.length cap, .int .i64 0, .int .u64 0]) (by simp [results, Tryz.results51, go_sem, r0, r1, r2, r3, hrl]) rfl ?_
    rw [H2.out]
    exact BS.out.done
end Go.Proofs.YtdjooacjjnjfmaaGreat
end

-- The reference's model: any call.
section
namespace Go.Proofs.YtdjooacjjnjfmaaGreat
set_option linter.unusedVariables false
set_option linter.unusedSimpArgs false
set_option maxRecDepth 20000
open Go.RowKit Go.Proofs.YtdjooacjjnjfmaaGreatMem Go.Proofs.YtdjooacjjnjfmaaGreatMapK

theorem RrPost.over {w W w3 : World} {b z : Nat} {c : Cfg} {m : MdS} {r : RetS} {F : Nat → Prop} {v : Value} (hF : Lt F w) (hb : Below w.heap.size w W) (hz : w.heap.size ≤ z ∧ z < W.heap.size) (p : RrPost b c m r F W (.returned v) w3) (v0 v1 v2 v3 : Value) :
    RrPost b c m r F w (.returned v) ((((w3.setCell ⟨z, 0, none⟩ v0).setCell ⟨z, 1, none⟩ v1).setCell ⟨z, 2, none⟩ v2).setCell ⟨z, 3, none⟩ v3) := by
  obtain ⟨ao, cap, G, h1, row, h3, md, hG, f⟩ := p
  have z1 := hb.size
  have g0 : Fr (fun k => k = z) w3 w3 := Fr.refl _ _
  have g1 := g0.setCell (a := ⟨z, 0, none⟩) (.inl rfl) v0
  have g2 := g1.setCell (a := ⟨z, 1, none⟩) (.inl rfl) v1
  have g3 := g2.setCell (a := ⟨z, 2, none⟩) (.inl rfl) v2
  have g4 := g3.setCell (a := ⟨z, 3, none⟩) (.inl rfl) v3
  have z4 := g4.size
  have f1 : Fr F w w3 := Fr.after_below hb f
  refine ⟨ao, cap, G, h1, ?_, h3, md.fr g4 fun k hk e => ?_, fun k hk => ?_, f1.trans g4 fun i hi hk => by omega⟩
  · exact owns_base (owns_fr row g4 fun k hk e => by have := (row.lt k hk).1; omega) (by omega)
  · subst e
    rcases hG _ hk with hk | hk
    · have := hF _ hk; omega
    · omega
  · rcases hG k hk with hk | hk
    · exact .inl hk
    · exact .inr ⟨by omega, by omega⟩
structure InD (w W : World) (b sb : Nat) (c : Cfg) (t : SfS) (served : Int) (Fs F : Nat → Prop) (d : CallS) : Prop where
  bel : Below w.heap.size w W
  md : RmR W b sb c t served Fs F
  box : Blk W w.heap.size d.cells 40
  res : Blk W (w.heap.size + 1) ret0 38
  old : Lt F w
section
variable {w W W' w3 : World} {b sb : Nat} {c : Cfg} {t t' : SfS} {served : Int} {Fs F : Nat → Prop} {d : CallS}
theorem InD.below (h : InD w W b sb c t served Fs F d) (hb : Below W.heap.size W W') : InD w W' b sb c t served Fs F d :=
  ⟨h.bel.trans (hb.mono h.bel.size), h.md.below hb, h.box.below hb, h.res.below hb, h.old⟩
theorem InD.start (h : RmR w b sb c t served Fs F) : InD w ((w.alloc (.cells #[.int .i64 d.op, .int .i64 d.flow, .int .i64 d.a, .int .i64 d.b] 40)).alloc (.cells #[.int .i64 0, .slice none 0 0, .int .i64 0, .int .u64 0] 38)) b sb c t served Fs F d := by
  have hb1 : Below w.heap.size w ((w.alloc (.cells #[.int .i64 d.op, .int .i64 d.flow, .int .i64 d.a, .int .i64 d.b] 40)).alloc (.cells #[.int .i64 0, .slice none 0 0, .int .i64 0, .int .u64 0] 38)) := ((Below.refl _ _).alloc (Nat.le_refl _) _).alloc (by simp) _
  have B2 := Blk.new (w.alloc (.cells #[.int .i64 d.op, .int .i64 d.flow, .int .i64 d.a, .int .i64 d.b] 40)) ret0 38
  have e1 : (w.alloc (.cells #[.int .i64 d.op, .int .i64 d.flow, .int .i64 d.a, .int .i64 d.b] 40)).heap.size = w.heap.size + 1 := by simp
  rw [e1] at B2
  exact ⟨hb1, h.below hb1, (Blk.new w d.cells 40).alloc _, B2, h.lt⟩
theorem InD.cells (h : InD w W b sb c t served Fs F d) : W.cell? ⟨b, 5, none⟩ = some (.pointer (some ⟨sb, 0, none⟩)) ∧ W.cell? ⟨b, 6, none⟩ = some (.int .i64 served) ∧ b < W.heap.size ∧
    W.cell? ⟨w.heap.size, 0, none⟩ = some (.int .i64 d.op) ∧ W.cell? ⟨w.heap.size, 1, none⟩ = some (.int .i64 d.flow) ∧ W.cell? ⟨w.heap.size, 2, none⟩ = some (.int .i64 d.a) ∧ W.cell? ⟨w.heap.size, 3, none⟩ = some (.int .i64 d.b) ∧ w.heap.size < W.heap.size :=
  ⟨h.md.blk.cell 5, h.md.blk.cell 6, h.md.blk.lt, h.box.cell 0, h.box.cell 1, h.box.cell 2, h.box.cell 3, h.box.lt⟩
theorem InD.inO (h : InD w W b sb c t served Fs F d) : InO w W b c t served F (w.heap.size + 1) := ⟨h.bel, ⟨sb, Fs, h.md⟩, h.res, h.old, Nat.le_succ _⟩
theorem InD.outO (h : InD w W b sb c t served Fs F d) (p : RmPost b c t' served F W w3) : OutO w W w3 b c t' served F (w.heap.size + 1) :=
  ⟨h.bel, p, h.res.fr p.2 fun hk => by have := h.old _ hk; omega, h.old, Nat.le_succ _, h.res.lt⟩
theorem far4 {b Z : Nat} {cs : List Value} {ty : TypeId} (hbz : b ≠ Z) (h : Blk w b cs ty) (v0 v1 v2 v3 : Value) : Blk ((((w.setCell ⟨Z, 0, none⟩ v0).setCell ⟨Z, 1, none⟩ v1).setCell ⟨Z, 2, none⟩ v2).setCell ⟨Z, 3, none⟩ v3) b cs ty :=
  (((h.set_far (a := ⟨Z, 0, none⟩) hbz v0).set_far (a := ⟨Z, 1, none⟩) hbz v1).set_far (a := ⟨Z, 2, none⟩) hbz v2).set_far (a := ⟨Z, 3, none⟩) hbz v3
end
set_option maxHeartbeats 4000000 in
theorem doR_any (b : Nat) (c : Cfg) (m : MdS) (F : Nat → Prop) (d : CallS) (w : World) (h : RmAt w b c m.s m.served F) (ok : BatOk m 0) (hd : d.Ok) (hu : 1 ≤ c.unit ∧ c.unit ≤ 4611686018427387904) (hk : c.shards ≠ 0) :
    Calls Tryz.prog 23 #[.pointer (some ⟨b, 0, none⟩), .agg #[.int .i64 d.op, .int .i64 d.flow, .int .i64 d.a, .int .i64 d.b]] w (RrPost b c (m.dooR c d).1 (m.dooR c d).2 F w) := by
  obtain ⟨sb, Fs, h⟩ := h
  obtain ⟨op, fl, a, bb⟩ := d
  have I := InD.start (d := ⟨op, fl, a, bb⟩) h
  have hE : m.dooR c ⟨op, fl, a, bb⟩ = m.dooR c ⟨op, fl, a, bb⟩ := rfl
  generalize hE2 : m.dooR c ⟨op, fl, a, bb⟩ = R at hE ⊢
  have HE := Lib.hid hE2
  clear hE hE2 h
  simp only at I
  go_enter Tryz.func23, Tryz.ntmps23
  go_upto_region 1 with fail
  generalize ((w.alloc (.cells #[.int .i64 op, .int .i64 fl, .int .i64 a, .int .i64 bb] 40)).alloc (.cells #[.int .i64 0, .slice none 0 0, .int .i64 0, .int .u64 0] 38)) = W at *
  obtain ⟨q5, q6, hlt, z0, z1, z2, z3, hzl⟩ := I.cells
  simp only at z0 z1 z2 z3
  have HI := Lib.hid I
  have HNZ : Hid (¬ F w.heap.size) := Lib.hid fun hk => by have := I.old _ hk; omega
  have HNR : Hid (¬ F (w.heap.size + 1)) := Lib.hid fun hk => by have := I.old _ hk; omega
  have hbz : b ≠ w.heap.size + 1 := by have := I.old b I.md.hb; omega
  have hmd : RmAt W b c m.s m.served F := ⟨sb, Fs, I.md⟩
  have HMD := Lib.hid hmd
  clear I hmd
  have HI1 := Lib.hid (HI.out.below (Below.refl _ _).drew)
  have HNB : Hid (¬ Fs b) := Lib.hid fun hk => (HI.out.md.sub b hk).2 rfl
  have HFZ : Hid (¬ Fs w.heap.size) := Lib.hid fun hk => by have := HI.out.old _ (HI.out.md.sub _ hk).1; omega
  have hzz : w.heap.size ≠ w.heap.size + 1 := by omega
  by_cases h1 : op = 1
  · subst h1
    obtain rfl : R = (⟨m.s.regR c ⟨1, fl, a, bb⟩, m.served⟩, .code (m.s.regE c ⟨1, fl, a, bb⟩)) := by rw [← HE.out]; unfold MdS.dooR; rw [if_pos rfl]
    clear HE
    go_wp2_with fail
    refine (registerR_any b c m.s m.served F ⟨1, fl, a, bb⟩ W HMD.out hu hk ok.len).mono ?_
    rintro e w3 ⟨rfl, hp⟩
    have HO := Lib.hid (HI.out.outO hp)
    clear hp
    go_wp2_with fail
    refine (code_any (m.s.regE c ⟨1, fl, a, bb⟩) _).mono ?_
    unfold retE
    rintro e w4 ⟨rfl, hb4⟩
    obtain ⟨r0, r1, r2, r3, f0, f1, f2, f3, hrl⟩ := (HO.out.below hb4).out
    have HB4 := Lib.hid hb4
    clear hb4
    go_wp2
    refine bodyPost_ret (v := retE (m.s.regE c ⟨1, fl, a, bb⟩)) (by simp [retE, results, Tryz.results23, go_sem, r0, r1, r2, r3, hrl]) rfl ?_
    exact RrPost.code (HO.out.refused HB4.out _ _ _ _) (m.s.regE c ⟨1, fl, a, bb⟩)
  have hR : R = m.doo c ⟨op, fl, a, bb⟩ := by rw [← HE.out]; unfold MdS.dooR; rw [if_neg h1]
  have HR := Lib.hid hR
  clear HE hR
  have e1 : (op == 1) = false := by simpa using h1
  by_cases h2 : op = 2
  · subst h2
    obtain rfl : R = (⟨m.s.remove fl, m.served⟩, .code (m.s.removeE fl)) := by rw [HR.out]; rfl
    clear HR
    have hS : W.drew.cell? ⟨b, 5, none⟩ = some (.pointer (some ⟨sb, 0, none⟩)) ∧ W.drew.cell? ⟨w.heap.size, 1, none⟩ = some (.int .i64 fl) := ⟨q5, z1⟩
    go_upto_region 5 with fail
    go_region_held3 (fun w' => w'.cell? ⟨b, 5, none⟩ = some (.pointer (some ⟨sb, 0, none⟩)) ∧ w'.cell? ⟨w.heap.size, 1, none⟩ = some (.int .i64 fl)) (first | with_reducible exact hS | with_reducible exact hS3 | with_reducible exact hS4 | exact HK4.out _ _ _ _)
      (first
        | (go_at_call 48; refine (removeR_any sb m.s Fs fl _ HI1.out.md.sfq ok.len).mono ?_; rintro e w3 ⟨rfl, hp⟩; have MB3 := HI1.out.md.blk.fr hp.2 HNB.out; have ZB3 := HI1.out.box.fr hp.2 HFZ.out; have HMB3 := Lib.hid MB3; have HZB3 := Lib.hid ZB3; have hS3 : w3.cell? ⟨b, 5, none⟩ = some (.pointer (some ⟨sb, 0, none⟩)) ∧ w3.cell? ⟨w.heap.size, 1, none⟩ = some (.int .i64 fl) := ⟨MB3.cell 5, ZB3.cell 1⟩; have HO := Lib.hid (HI1.out.outO (rm_turn HI1.out.md hp)); clear MB3 ZB3 hp)
        | (go_at_call 46; refine (code_any _ _).mono ?_; unfold retE; rintro e w4 ⟨rfl, hb4⟩; have HB4 := Lib.hid hb4; have hS4 : w4.cell? ⟨b, 5, none⟩ = some (.pointer (some ⟨sb, 0, none⟩)) ∧ w4.cell? ⟨w.heap.size, 1, none⟩ = some (.int .i64 fl) := ⟨(HMB3.out.below hb4).cell 5, (HZB3.out.below hb4).cell 1⟩; have HK4 : Hid (∀ v0 v1 v2 v3, ((((w4.setCell ⟨w.heap.size + 1, 0, none⟩ v0).setCell ⟨w.heap.size + 1, 1, none⟩ v1).setCell ⟨w.heap.size + 1, 2, none⟩ v2).setCell ⟨w.heap.size + 1, 3, none⟩ v3).cell? ⟨b, 5, none⟩ = some (.pointer (some ⟨sb, 0, none⟩)) ∧ ((((w4.setCell ⟨w.heap.size + 1, 0, none⟩ v0).setCell ⟨w.heap.size + 1, 1, none⟩ v1).setCell ⟨w.heap.size + 1, 2, none⟩ v2).setCell ⟨w.heap.size + 1, 3, none⟩ v3).cell? ⟨w.heap.size, 1, none⟩ = some (.int .i64 fl)) := Lib.hid (fun v0 v1 v2 v3 => ⟨(far4 hbz (HMB3.out.below HB4.out) v0 v1 v2 v3).cell 5, (far4 hzz (HZB3.out.below HB4.out) v0 v1 v2 v3).cell 1⟩); obtain ⟨r0, r1, r2, r3, f0, f1, f2, f3, hrl⟩ := (HO.out.below hb4).out; clear hb4))
    go_wp2
    refine bodyPost_ret (v := retE (m.s.removeE fl)) (by simp [retE, results, Tryz.results23, go_sem, r0, r1, r2, r3, hrl]) rfl ?_
    exact RrPost.code (HO.out.refused HB4.out _ _ _ _) (m.s.removeE fl)
  have e2 : (op == 2) = false := by simpa using h2
  by_cases h3 : op = 3
  · subst h3
    have hR3 : R = (⟨m.s.enq ⟨3, fl, a, bb⟩, m.served⟩, .code (m.s.enqE ⟨3, fl, a, bb⟩)) := by rw [HR.out]; rfl
    clear HR
    have hin : inB a 1 65536 = false ↔ a < 1 ∨ a > 65536 := by unfold inB; simp only [Bool.and_eq_false_iff, decide_eq_false_iff_not]; omega
    by_cases b1 : a < 1
    · obtain rfl : R = (⟨m.s, m.served⟩, .code 3) := by
        rw [hR3]
        unfold SfS.enq SfS.enqE
        rw [hin.2 (.inl b1)]
        rfl
      have HO := Lib.hid HI.out.inO
      clear hR3 hin
      go_wp2_with fail
      refine (code_any 3 _).mono ?_
      unfold retE
      rintro e w4 ⟨rfl, hb4⟩
      obtain ⟨r0, r1, r2, r3, f0, f1, f2, f3, hrl⟩ := (HO.out.below hb4).out
      have HB4 := Lib.hid hb4
      clear hb4
      go_wp2
      refine bodyPost_ret (v := retE 3) (by simp [retE, results, Tryz.results23, go_sem, r0, r1, r2, r3, hrl]) rfl ?_
      exact RrPost.code (HO.out.refused HB4.out _ _ _ _) 3
    by_cases b2 : a > 65536
    · obtain rfl : R = (⟨m.s, m.served⟩, .code 3) := by
        rw [hR3]
        unfold SfS.enq SfS.enqE
        rw [hin.2 (.inr b2)]
        rfl
      have HO := Lib.hid HI.out.inO
      clear hR3 hin
      go_wp2_with fail
      refine (code_any 3 _).mono ?_
      unfold retE
      rintro e w4 ⟨rfl, hb4⟩
      obtain ⟨r0, r1, r2, r3, f0, f1, f2, f3, hrl⟩ := (HO.out.below hb4).out
      have HB4 := Lib.hid hb4
      clear hb4
      go_wp2
      refine bodyPost_ret (v := retE 3) (by simp [retE, results, Tryz.results23, go_sem, r0, r1, r2, r3, hrl]) rfl ?_
      exact RrPost.code (HO.out.refused HB4.out _ _ _ _) 3
    obtain rfl : R = (⟨m.s.arrive ⟨fl, a, bb⟩, m.served⟩, .code (m.s.arriveE ⟨fl, a, bb⟩)) := by
      have hi : inB a 1 65536 = true := by
        cases hx : inB a 1 65536 with
        | true => rfl
        | false => exact absurd (hin.1 hx) (fun h => h.elim b1 b2)
      rw [hR3]
      unfold SfS.enq SfS.enqE
      rw [hi]
      rfl
    clear hR3 hin
    have hpk : (Pk.mk fl a bb).Ok := ⟨hd.flow, hd.a, hd.b⟩
    have hS : W.drew.cell? ⟨b, 5, none⟩ = some (.pointer (some ⟨sb, 0, none⟩)) ∧ W.drew.cell? ⟨w.heap.size, 1, none⟩ = some (.int .i64 fl) ∧ W.drew.cell? ⟨w.heap.size, 2, none⟩ = some (.int .i64 a) ∧ W.drew.cell? ⟨w.heap.size, 3, none⟩ = some (.int .i64 bb) := ⟨q5, z1, z2, z3⟩
    go_upto_region 9 with fail
    go_region_held3 (fun w' => w'.cell? ⟨b, 5, none⟩ = some (.pointer (some ⟨sb, 0, none⟩)) ∧ w'.cell? ⟨w.heap.size, 1, none⟩ = some (.int .i64 fl) ∧ w'.cell? ⟨w.heap.size, 2, none⟩ = some (.int .i64 a) ∧ w'.cell? ⟨w.heap.size, 3, none⟩ = some (.int .i64 bb)) (first | with_reducible exact hS | with_reducible exact hS3 | with_reducible exact hS4 | exact HK4.out _ _ _ _)
      (first
        | (go_at_call 49; refine (arriveR_any sb m.s Fs ⟨fl, a, bb⟩ _ HI1.out.md.sfq ok.s.v hpk).mono ?_; rintro e w3 ⟨rfl, hp⟩; have MB3 := HI1.out.md.blk.fr hp.2 HNB.out; have ZB3 := HI1.out.box.fr hp.2 HFZ.out; have HMB3 := Lib.hid MB3; have HZB3 := Lib.hid ZB3; have hS3 : w3.cell? ⟨b, 5, none⟩ = some (.pointer (some ⟨sb, 0, none⟩)) ∧ w3.cell? ⟨w.heap.size, 1, none⟩ = some (.int .i64 fl) ∧ w3.cell? ⟨w.heap.size, 2, none⟩ = some (.int .i64 a) ∧ w3.cell? ⟨w.heap.size, 3, none⟩ = some (.int .i64 bb) := ⟨MB3.cell 5, ZB3.cell 1, ZB3.cell 2, ZB3.cell 3⟩; have HO := Lib.hid (HI1.out.outO (rm_turn HI1.out.md hp)); clear MB3 ZB3 hp)
        | (go_at_call 46; refine (code_any _ _).mono ?_; unfold retE; rintro e w4 ⟨rfl, hb4⟩; have HB4 := Lib.hid hb4; have hS4 : w4.cell? ⟨b, 5, none⟩ = some (.pointer (some ⟨sb, 0, none⟩)) ∧ w4.cell? ⟨w.heap.size, 1, none⟩ = some (.int .i64 fl) ∧ w4.cell? ⟨w.heap.size, 2, none⟩ = some (.int .i64 a) ∧ w4.cell? ⟨w.heap.size, 3, none⟩ = some (.int .i64 bb) := ⟨(HMB3.out.below hb4).cell 5, (HZB3.out.below hb4).cell 1, (HZB3.out.below hb4).cell 2, (HZB3.out.below hb4).cell 3⟩; have HK4 : Hid (∀ v0 v1 v2 v3, ((((w4.setCell ⟨w.heap.size + 1, 0, none⟩ v0).setCell ⟨w.heap.size + 1, 1, none⟩ v1).setCell ⟨w.heap.size + 1, 2, none⟩ v2).setCell ⟨w.heap.size + 1, 3, none⟩ v3).cell? ⟨b, 5, none⟩ = some (.pointer (some ⟨sb, 0, none⟩)) ∧ ((((w4.setCell ⟨w.heap.size + 1, 0, none⟩ v0).setCell ⟨w.heap.size + 1, 1, none⟩ v1).setCell ⟨w.heap.size + 1, 2, none⟩ v2).setCell ⟨w.heap.size + 1, 3, none⟩ v3).cell? ⟨w.heap.size, 1, none⟩ = some (.int .i64 fl) ∧ ((((w4.setCell ⟨w.heap.size + 1, 0, none⟩ v0).setCell ⟨w.heap.size + 1, 1, none⟩ v1).setCell ⟨w.heap.size + 1, 2, none⟩ v2).setCell ⟨w.heap.size + 1, 3, none⟩ v3).cell? ⟨w.heap.size, 2, none⟩ = some (.int .i64 a) ∧ ((((w4.setCell ⟨w.heap.size + 1, 0, none⟩ v0).setCell ⟨w.heap.size + 1, 1, none⟩ v1).setCell ⟨w.heap.size + 1, 2, none⟩ v2).setCell ⟨w.heap.size + 1, 3, none⟩ v3).cell? ⟨w.heap.size, 3, none⟩ = some (.int .i64 bb)) := Lib.hid (fun v0 v1 v2 v3 => ⟨(far4 hbz (HMB3.out.below HB4.out) v0 v1 v2 v3).cell 5, (far4 hzz (HZB3.out.below HB4.out) v0 v1 v2 v3).cell 1, (far4 hzz (HZB3.out.below HB4.out) v0 v1 v2 v3).cell 2, (far4 hzz (HZB3.out.below HB4.out) v0 v1 v2 v3).cell 3⟩); obtain ⟨r0, r1, r2, r3, f0, f1, f2, f3, hrl⟩ := (HO.out.below hb4).out; clear hb4))
    go_wp2
    refine bodyPost_ret (v := retE (m.s.arriveE ⟨fl, a, bb⟩)) (by simp [retE, results, Tryz.results23, go_sem, r0, r1, r2, r3, hrl]) rfl ?_
    exact RrPost.code (HO.out.refused HB4.out _ _ _ _) (m.s.arriveE ⟨fl, a, bb⟩)
  have e3 : (op == 3) = false := by simpa using h3
  by_cases h4 : op = 4
  · subst h4
    obtain rfl : R = (m.one, m.oneRet) := by rw [HR.out]; rfl
    clear HR
    generalize hRg : ((m.one, m.oneRet) : MdS × RetS) = R at *
    have HC := Lib.hid (oneR_any b c m.s m.served F W HMD.out ⟨ok.served.1, by have := ok.served.2; omega⟩)
    replace HC : Hid (Calls Tryz.prog 50 #[.pointer (some ⟨b, 0, none⟩)] W (RrPost b c R.1 R.2 F W)) := Lib.hid (by rw [← hRg]; exact HC.out)
    clear hRg
    go_wp2_with fail
    refine (HC.out).mono ?_
    rintro e w3 ⟨ao, cap, G, rfl, row, hn3, md3, hG3, fr3⟩
    have BR3 := HI.out.res.fr fr3 HNR.out
    have r0 : w3.cell? ⟨w.heap.size + 1, 0, none⟩ = some (.int .i64 0) := BR3.cell 0
    have r1 : w3.cell? ⟨w.heap.size + 1, 1, none⟩ = some (.slice none 0 0) := BR3.cell 1
    have r2 : w3.cell? ⟨w.heap.size + 1, 2, none⟩ = some (.int .i64 0) := BR3.cell 2
    have r3 : w3.cell? ⟨w.heap.size + 1, 3, none⟩ = some (.int .u64 0) := BR3.cell 3
    have f0 := BR3.frozen 0
    have f1 := BR3.frozen 1
    have f2 := BR3.frozen 2
    have f3 := BR3.frozen 3
    have hrl := BR3.lt
    have HP3 := Lib.hid (show RrPost b c R.1 R.2 F W _ w3 from ⟨ao, cap, G, rfl, row, hn3, md3, hG3, fr3⟩)
    clear BR3 row hn3 md3 hG3 fr3
    go_wp2
    refine bodyPost_ret (v := .agg #[.int .i64 R.2.e, .slice ao R.2.ps.length cap, .int .i64 R.2.n, .int .u64 R.2.v]) (by simp [results, Tryz.results23, go_sem, r0, r1, r2, r3, hrl]) rfl ?_
    exact RrPost.over HI.out.old HI.out.bel ⟨Nat.le_succ _, HI.out.res.lt⟩ HP3.out _ _ _ _
  have e4 : (op == 4) = false := by simpa using h4
  by_cases h5 : op = 5
  · subst h5
    have HC : Hid (Calls Tryz.prog 51 #[.pointer (some ⟨b, 0, none⟩), .int .i64 a] W (RrPost b c R.1 R.2 F W)) := Lib.hid (by rw [HR.out]; exact batchR_any b c m F a W HMD.out ⟨ok.served.1, by have := ok.served.2; omega⟩)
    clear HR
    go_wp2_with fail
    refine (HC.out).mono ?_
    rintro e w3 ⟨ao, cap, G, rfl, row, hn3, md3, hG3, fr3⟩
    have BR3 := HI.out.res.fr fr3 HNR.out
    have r0 : w3.cell? ⟨w.heap.size + 1, 0, none⟩ = some (.int .i64 0) := BR3.cell 0
    have r1 : w3.cell? ⟨w.heap.size + 1, 1, none⟩ = some (.slice none 0 0) := BR3.cell 1
    have r2 : w3.cell? ⟨w.heap.size + 1, 2, none⟩ = some (.int .i64 0) := BR3.cell 2
    have r3 : w3.cell? ⟨w.heap.size + 1, 3, none⟩ = some (.int .u64 0) := BR3.cell 3
    have f0 := BR3.frozen 0
    have f1 := BR3.frozen 1
    have f2 := BR3.frozen 2
    have f3 := BR3.frozen 3
    have hrl := BR3.lt
    have HP3 := Lib.hid (show RrPost b c R.1 R.2 F W _ w3 from ⟨ao, cap, G, rfl, row, hn3, md3, hG3, fr3⟩)
    clear BR3 row hn3 md3 hG3 fr3
    go_wp2
    refine bodyPost_ret (v := .agg #[.int .i64 R.2.e, .slice ao R.2.ps.length cap, .int .i64 R.2.n, .int .u64 R.2.v]) (by simp [results, Tryz.results23, go_sem, r0, r1, r2, r3, hrl]) rfl ?_
    exact RrPost.over HI.out.old HI.out.bel ⟨Nat.le_succ _, HI.out.res.lt⟩ HP3.out _ _ _ _
  have e5 : (op == 5) = false := by simpa using h5
  by_cases h6 : op = 6
  · subst h6
    obtain rfl : R = (m, ⟨0, [], m.served, m.s.v⟩) := by rw [HR.out]; rfl
    clear HR
    obtain ⟨l, hl, RR⟩ := HI.out.md.sfq
    obtain ⟨ao, cap, -, v1, -⟩ := RR.cells
    have hsl := RR.lt sb RR.hb
    have HO := Lib.hid HI.out.inO
    obtain ⟨r0, r1, r2, r3, f0, f1, f2, f3, hrl⟩ := HO.out.out
    clear RR hl
    go_upto_region 15 with fail
    go_region
    go_wp2
    refine bodyPost_ret (v := .agg #[.int .i64 0, .slice none 0 0, .int .i64 m.served, .int .u64 m.s.v]) (by simp [results, Tryz.results23, go_sem, r0, r1, r2, r3, hrl]) rfl ?_
    have hp := HO.out.refused (Below.refl _ _) (.int .i64 0) (.slice none 0 0) (.int .i64 m.served) (.int .u64 m.s.v)
    have hp2 := hp.then_below HI.out.old ((Below.refl _ _).drew)
    exact RrPost.plain m.served m.s.v hp2 0
  have e6 : (op == 6) = false := by simpa using h6
  obtain rfl : R = (m, .code 2) := by
    rw [HR.out]
    unfold MdS.doo
    simp only
    rw [if_neg h1, if_neg h2, if_neg h3, if_neg h4, if_neg h5, if_neg h6]
  have HO := Lib.hid HI.out.inO
  clear HR h1 h2 h3 h4 h5 h6
  go_wp2_with fail
  refine (code_any 2 _).mono ?_
  unfold retE
  rintro e w4 ⟨rfl, hb4⟩
  obtain ⟨r0, r1, r2, r3, f0, f1, f2, f3, hrl⟩ := (HO.out.below hb4).out
  have HB4 := Lib.hid hb4
  clear hb4
  go_wp2
  refine bodyPost_ret (v := retE 2) (by simp [retE, results, Tryz.results23, go_sem, r0, r1, r2, r3, hrl]) rfl ?_
  exact RrPost.code (HO.out.refused HB4.out _ _ _ _) 2
end Go.Proofs.YtdjooacjjnjfmaaGreat
end
