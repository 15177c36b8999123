/- Several texts in one: Mod12 Mod13 Mod14 Mod15 Mod16 Mod17 Mod18. -/
import Derived.Test.YtdjooacjjnjfmaaGreatGh
import Derived.Laws.OwnMore
import Derived.Deep.CutRange
import Derived.Deep.CutBlock
import Derived.StillTailTactics
import Derived.Laws.EntriesVeiled
import Derived.Deep.RegionWith
-- The model: a packet goes.
section
namespace Go.Proofs.YtdjooacjjnjfmaaGreat
set_option linter.unusedVariables false
set_option linter.unusedSimpArgs false
set_option maxRecDepth 20000
open Go.RowKit Go.Proofs.YtdjooacjjnjfmaaGreatMem Go.Proofs.YtdjooacjjnjfmaaGreatMapK

/-- What a call of the model tells: the answer, its packets in a row of the call's own that is no part of the model. -/
def RetPost (b : Nat) (c : Cfg) (m : MdS) (r : RetS) (F : Nat → Prop) (w : World) (e : Ending) (w' : World) : Prop :=
  ∃ ao cap G, e = .returned (.agg #[.int .i64 r.e, .slice ao r.ps.length cap, .int .i64 r.n, .int .u64 r.v]) ∧ w'.ownsRow w.heap.size 59 3 (.slice ao r.ps.length cap) r.ps.length (pks r.ps) ∧
    (∀ a, ao = some a → ¬ G a.block) ∧ MdAt w' b c m.s m.served G ∧ (∀ k, G k → Ext F w w' k) ∧ Fr F w w'
section
variable {w w0 w' w5 w6 : World} {b : Nat} {c : Cfg} {s : SfS} {served : Int} {F : Nat → Prop}
theorem RetPost.plain (n v : Int) (p : MdPost b c s served F w w') (e : Int) : RetPost b c ⟨s, served⟩ ⟨e, [], n, v⟩ F w (.returned (.agg #[.int .i64 e, .slice none 0 0, .int .i64 n, .int .u64 v])) w' :=
  ⟨none, 0, _, rfl, owns_nil _ _ _ _, (fun a h => by cases h), p.1, fun k hk => hk, p.2⟩
theorem RetPost.code (p : MdPost b c s served F w w') (e : Int) : RetPost b c ⟨s, served⟩ (.code e) F w (.returned (retE e)) w' := RetPost.plain 0 0 p e
theorem MdPost.setServed (p : MdPost b c s served F w w') (hF : F b) (n : Int) : MdPost b c s n F w (w'.setCell ⟨b, 7, none⟩ (.int .i64 n)) := by
  obtain ⟨⟨sb, lm, Fs, R⟩, f⟩ := p
  have hg : Fr (fun k => k = b) w' (w'.setCell ⟨b, 7, none⟩ (.int .i64 n)) := Fr.setCell (S := fun k => k = b) (Fr.refl _ _) (a := ⟨b, 7, none⟩) (.inl rfl) _
  refine ⟨⟨sb, lm, Fs, R.blk.set 7 (.int .i64 n), R.sfq.fr hg fun k hk e => (R.sub k hk).2.1 e, R.lens.of_eq (hg.block lm (R.lt lm R.hl) fun e => R.ne e.symm), fun k hk => ⟨?_, (R.sub k hk).2⟩, ?_, ?_, R.ne, ?_⟩, f.setCell (.inl hF) _⟩
  · have := (R.sub k hk).1
    simpa [Ext, World.setCell] using this
  · simpa [Ext, World.setCell] using R.hb
  · simpa [Ext, World.setCell] using R.hl
  · intro k hk
    have := R.lt k (by simpa [Ext, World.setCell] using hk)
    simpa [World.setCell] using this
/-- A row made behind all that turned. -/
theorem RetPost.row {m : MdS} {r : RetS} {cap : Nat} (hF : Lt F w) (hb : Below w.heap.size w w0) (p : MdPost b c m.s m.served F w0 w5) (hf : Fr (fun k => w.heap.size ≤ k ∧ k < w0.heap.size) w5 w6) {B : Nat} (hB : w5.heap.size ≤ B)
    (ho : w6.ownsRow w.heap.size 59 3 (.slice (some ⟨B, 0, none⟩) r.ps.length cap) r.ps.length (pks r.ps)) : RetPost b c m r F w (.returned (.agg #[.int .i64 r.e, .slice (some ⟨B, 0, none⟩) r.ps.length cap, .int .i64 r.n, .int .u64 r.v])) w6 := by
  have z1 := hb.size
  have z2 := p.2.size
  have z3 := hf.size
  have q := md_end hF hb p hf
  refine ⟨_, _, fun k => Ext F w0 w5 k, rfl, ho, fun a ha hk => ?_, p.1.fr hf fun k hk hk2 => ?_, fun k hk => ?_, q.2⟩
  · cases ha
    rcases hk with hk | hk
    · have := hF _ hk; simp only at this; omega
    · simp only at hk; omega
  · rcases hk with hk | hk
    · have := hF k hk; omega
    · omega
  · rcases hk with hk | hk
    · exact .inl hk
    · exact .inr ⟨by omega, by omega⟩
end
set_option maxHeartbeats 4000000 in
theorem dequeue_any (b : Nat) (c : Cfg) (s : SfS) (served : Int) (F : Nat → Prop) (d : CallS) (w : World) (h : MdAt w b c s served F) (ok : s.Ok) (ht : s.Tagged) (hn : s.fs.length ≤ 1000000) (hv : 0 ≤ served ∧ served ≤ 1000000000) :
    Calls Tryz.prog 67 #[.pointer (some ⟨b, 0, none⟩), .agg #[.int .i64 d.op, .int .i64 d.flow, .int .i64 d.a, .int .i64 d.b]] w (RetPost b c (MdS.mk s served).one (MdS.mk s served).oneRet F w) := by
  obtain ⟨sb, lm, Fs, h⟩ := h
  have I := InC.start (d := d) h
  have hE : (MdS.mk s served).oneRet = (if s.has then ⟨0, [s.head], 0, 0⟩ else .code 10) := rfl
  have hT : (MdS.mk s served).one = ⟨s.serve, if s.has then served + 1 else served⟩ := rfl
  have HE := Lib.hid hE
  have HT := Lib.hid hT
  have hFb := h.hb
  clear hE hT h
  generalize (MdS.mk s served).oneRet = R at *
  generalize (MdS.mk s served).one = T at *
  go_enter Tryz.func67, Tryz.ntmps67
  go_upto_region 1 with fail
  generalize ((w.alloc (.cells #[.int .i64 d.op, .int .i64 d.flow, .int .i64 d.a, .int .i64 d.b] 40)).alloc (.cells #[.int .i64 0, .slice none 0 0, .int .i64 0, .int .u64 0] 38)) = W at *
  obtain ⟨q0, q1, q4, q5, q6, q7, hlt, z0, z1, z2, z3, hzl⟩ := I.cells
  have HI := Lib.hid I
  have HS := Lib.hid (serveS_any sb s Fs W I.md.sfq ok hn)
  clear I
  have HNB : Hid (¬ Fs b) := Lib.hid (fun hk => (HI.out.md.sub b hk).2.1 rfl)
  have HNZ : Hid (¬ Fs w.heap.size) := Lib.hid (fun hk => by have := HI.out.old _ (HI.out.md.sub _ hk).1; omega)
  have HNR : Hid (¬ Fs (w.heap.size + 1)) := Lib.hid (fun hk => by have := HI.out.old _ (HI.out.md.sub _ hk).1; omega)
  go_wp2_with fail
  refine HS.out.mono ?_
  rintro e w3 ⟨rfl, hp⟩
  have hO : ∀ {s'}, MdPost b c s' served F W w3 → OutC w W w3 b c s' served F d := fun hm => ⟨HI.out.bel, hm, HI.out.box.fr hp.2 HNZ.out, HI.out.res.fr hp.2 HNR.out, HI.out.old, HI.out.res.lt⟩
  unfold Pk.val
  generalize hh : s.has = hs
  cases hs with
  | false =>
    obtain rfl : R = .code 10 := by rw [HE.out, hh]; rfl
    obtain rfl : T = ⟨s.serve, served⟩ := by rw [HT.out, hh]; rfl
    have hT : OutC w W w3 b c s.serve served F d := hO (md_turn0 HI.out.md hp (serve_no hh))
    have HT0 := Lib.hid (hT.below (below1 w3 (.cells #[.int .i64 s.head.flow, .int .i64 s.head.len, .int .i64 s.head.mark] 59)))
    clear hT hO hp HS q0 q1 q4 q5 q6 q7 z0 z1 z2 z3
    go_wp2_with fail
    refine (refused_any 10 _).mono ?_
    rintro e w4 ⟨rfl, hb4⟩
    obtain ⟨r0, r1, r2, r3, f0, f1, f2, f3, hrl⟩ := (HT0.out.below hb4).out
    have HB4 := Lib.hid hb4
    clear hb4
    go_wp2
    refine bodyPost_ret (v := retE 10) (by simp [retE, results, Tryz.results67, go_sem, r0, r1, r2, r3, hrl]) rfl ?_
    exact RetPost.code (HT0.out.refused HB4.out _ _ _ _) 10
  | true =>
    obtain rfl : R = ⟨0, [s.head], 0, 0⟩ := by rw [HE.out, hh]; rfl
    obtain rfl : T = ⟨s.serve, served + 1⟩ := by rw [HT.out, hh]; rfl
    obtain ⟨x, hx, hln, hpos⟩ := serve_yes HI.out.md.nodup ht hh
    have hM1 := HI.out.md.map1 hp
    have hllm := HI.out.old lm HI.out.md.hl
    have hbl := HI.out.old b hFb
    have hbZ := HI.out.bel.size
    have hnl : lm ≠ b := fun e => HI.out.md.ne e.symm
    have hz3 := hp.2.size
    have hb4 := below1 w3 (.cells #[.int .i64 s.head.flow, .int .i64 s.head.len, .int .i64 s.head.mark] 59)
    have P4 : Blk (w3.alloc (.cells #[.int .i64 s.head.flow, .int .i64 s.head.len, .int .i64 s.head.mark] 59)) w3.heap.size s.head.cells 59 := Blk.new w3 s.head.cells 59
    have BL4 := (HI.out.md.blk.fr hp.2 HNB.out).below hb4
    have R4 := (HI.out.res.fr hp.2 HNR.out).below hb4
    have HP := Lib.hid hp
    have hM4 := hM1.of_eq (hb4.block lm (by omega))
    have e1 : Value.int .i64 (IntKind.i64.wrap ((x.l.length : Int) - 1)) = .int .i64 ((x.l.length : Int) - 1) := by
      have hxo : x.Ok := ok.fs _ (getF_mem hx)
      have := hxo.len
      have := hxo.m8
      rw [IntWalk.i64_left, IntWalk.wrap64_in _ (by omega)]
    have e2 : Value.int .i64 (IntKind.i64.wrap (served + 1)) = .int .i64 (served + 1) := by rw [IntWalk.i64_left, IntWalk.wrap64_in _ (by omega)]
    have HG4 : Hid (Below w3.heap.size w3 (w3.alloc (.cells #[.int .i64 s.head.flow, .int .i64 s.head.len, .int .i64 s.head.mark] 59)).drew) := Lib.hid hb4.drew
    go_upto_region 4 with fail
    generalize hW4 : (w3.alloc (.cells #[.int .i64 s.head.flow, .int .i64 s.head.len, .int .i64 s.head.mark] 59)) = w4 at *
    have hlk : (Instr.lookup 107 (.map (some lm)) (.int .i64 s.head.flow) false).run Tryz.prog w4.drew = .ok (.int .i64 x.l.length) w4.drew := by
      have := run_lookupP (w := w4.drew) intKey under_lens (zero_int w4.drew) (hM4.of_eq rfl) s.head.flow
      rw [getM_lens, hx] at this
      exact this
    obtain ⟨w5, hup, hm5, hg5⟩ := run_updateP intKey under_lens (show IsMapP w4.drew lm (Value.int .i64) (lensV s) from hM4.of_eq rfl) s.head.flow (.int .i64 ((x.l.length : Int) - 1))
    have y6 : w4.drew.cell? ⟨b, 6, none⟩ = some (.map (some lm)) := BL4.cell 6
    have p0 : w4.drew.cell? ⟨w3.heap.size, 0, none⟩ = some (.int .i64 s.head.flow) := P4.cell 0
    have hP4l := P4.lt
    have hBl := BL4.lt
    have hlm4 : lm < w3.heap.size := by omega
    have BL5 : Blk w5 b _ _ := BL4.drew.grown hg5 (by intro e; cases e; exact hnl rfl)
    have P5 : Blk w5 w3.heap.size _ _ := P4.drew.grown hg5 (by intro e; cases e; omega)
    have R5 : Blk w5 (w.heap.size + 1) _ _ := R4.drew.grown hg5 (by intro e; cases e; omega)
    have p5 : MdPost b c s.serve served F W w5 := md_turn HI.out.md HP.out (grown_through (w1 := w4.drew) ⟨HG4.out.os, HG4.out.tape, HG4.out.output, HG4.out.size, fun k hk _ => HG4.out.block k hk⟩ hg5) (by rw [hln]; exact hm5)
    have s7 : w5.cell? ⟨b, 7, none⟩ = some (.int .i64 served) := BL5.cell 7
    have g7 := BL5.frozen 7
    have HP5 := Lib.hid (p5.setServed hFb (served + 1))
    have P6 := P5.set_far (a := ⟨b, 7, none⟩) (by simp only; omega) (.int .i64 (served + 1))
    have R6 := R5.set_far (a := ⟨b, 7, none⟩) (by simp only; omega) (.int .i64 (served + 1))
    have HR6 := Lib.hid R6
    have HP6 := Lib.hid P6
    have hBl5 := BL5.lt
    have hz5 := p5.2.size
    clear hO HS q0 q1 q4 q5 q6 q7 z0 z1 z2 z3 hzl hp hM1 hM4 P4 BL4 R4 BL5 P5 R5 P6 R6 hln hx p5 hm5 hg5 hh HE HT HG4
    go_region
    go_upto_region 5 with fail
    go_upto_region 6 with fail
    generalize hw6 : w5.setCell ⟨b, 7, none⟩ (.int .i64 (served + 1)) = w6 at *
    have hz6 : w6.heap.size = w5.heap.size := by rw [← hw6]; simp [World.setCell]
    clear hw6 s7 g7 hBl5 p0 y6 hBl
    have u0 : w6.cell? ⟨w3.heap.size, 0, none⟩ = some (.int .i64 s.head.flow) := HP6.out.cell 0
    have u1 : w6.cell? ⟨w3.heap.size, 1, none⟩ = some (.int .i64 s.head.len) := HP6.out.cell 1
    have u2 : w6.cell? ⟨w3.heap.size, 2, none⟩ = some (.int .i64 s.head.mark) := HP6.out.cell 2
    have hul := HP6.out.lt
    have HZ6 := Lib.hid hz6
    have r0 : w6.cell? ⟨w.heap.size + 1, 0, none⟩ = some (.int .i64 0) := HR6.out.cell 0
    have r1 : w6.cell? ⟨w.heap.size + 1, 1, none⟩ = some (.slice none 0 0) := HR6.out.cell 1
    have r2 : w6.cell? ⟨w.heap.size + 1, 2, none⟩ = some (.int .i64 0) := HR6.out.cell 2
    have r3 : w6.cell? ⟨w.heap.size + 1, 3, none⟩ = some (.int .u64 0) := HR6.out.cell 3
    have f0 := HR6.out.frozen 0
    have f1 := HR6.out.frozen 1
    have f2 := HR6.out.frozen 2
    have f3 := HR6.out.frozen 3
    have hrl := HR6.out.lt
    have hrw : ¬ w.heap.size + 1 = w6.heap.size := by omega
    clear hz6
    go_wp2_with fail
    refine bodyPost_ret (v := .agg #[.int .i64 0, .slice (some ⟨w6.heap.size, 0, none⟩) 1 1, .int .i64 0, .int .u64 0]) (by simp [results, Tryz.results67, go_sem, r0, r1, r2, r3, hrl]) rfl ?_
    have hm : w.heap.size ≤ w.heap.size + 1 ∧ w.heap.size + 1 < W.heap.size := ⟨Nat.le_succ _, HI.out.res.lt⟩
    have g0 : Fr (fun k => w.heap.size ≤ k ∧ k < W.heap.size) w6 w6 := Fr.refl _ _
    have g1 := g0.setCell (a := ⟨w.heap.size + 1, 0, none⟩) (.inl hm) (.int .i64 0)
    have g2 := g1.setCell (a := ⟨w.heap.size + 1, 1, none⟩) (.inl hm) (.slice (some ⟨w6.heap.size, 0, none⟩) 1 1)
    have g3 := g2.setCell (a := ⟨w.heap.size + 1, 2, none⟩) (.inl hm) (.int .i64 0)
    have g4 := g3.setCell (a := ⟨w.heap.size + 1, 3, none⟩) (.inl hm) (.int .u64 0)
    have hs7 : ((((w6.setCell ⟨w.heap.size + 1, 0, none⟩ (.int .i64 0)).setCell ⟨w.heap.size + 1, 1, none⟩ (.slice (some ⟨w6.heap.size, 0, none⟩) 1 1)).setCell ⟨w.heap.size + 1, 2, none⟩ (.int .i64 0)).setCell ⟨w.heap.size + 1, 3, none⟩ (.int .u64 0)).heap.size = w6.heap.size := by simp [World.setCell]
    generalize ((((w6.setCell ⟨w.heap.size + 1, 0, none⟩ (.int .i64 0)).setCell ⟨w.heap.size + 1, 1, none⟩ (.slice (some ⟨w6.heap.size, 0, none⟩) 1 1)).setCell ⟨w.heap.size + 1, 2, none⟩ (.int .i64 0)).setCell ⟨w.heap.size + 1, 3, none⟩ (.int .u64 0)) = w7 at *
    have hsz := HI.out.bel.size
    have hzz := HP5.out.2.size
    have hrow := World.ownsRow_lit (base := w.heap.size) (e := 59) (size := 3) w7 #[.int .i64 s.head.flow, .int .i64 s.head.len, .int .i64 s.head.mark] 1 (by omega) (by decide) rfl
    rw [hs7] at hrow
    have g5 := g4.alloc (.cells #[.int .i64 s.head.flow, .int .i64 s.head.len, .int .i64 s.head.mark] 59)
    exact RetPost.row (r := ⟨0, [s.head], 0, 0⟩) (m := ⟨s.serve, served + 1⟩) HI.out.old HI.out.bel HP5.out g5 (Nat.le_refl _) hrow
end Go.Proofs.YtdjooacjjnjfmaaGreat
end

-- The model: a batch goes.
section
namespace Go.Proofs.YtdjooacjjnjfmaaGreat
set_option linter.unusedVariables false
set_option linter.unusedSimpArgs false
set_option maxRecDepth 20000
open Go.RowKit Go.Proofs.YtdjooacjjnjfmaaGreatMem Go.Proofs.YtdjooacjjnjfmaaGreatMapK

/-- A batch under way: what came lies in the row that the variable at X holds. -/
structure BatSt (w wr : World) (X b : Nat) (c : Cfg) (m : MdS) (F : Nat → Prop) (d : CallS) (e : Int) (acc : List Pk) (ao : Option Addr) (cap : Nat) : Prop where
  md : ∃ G : Nat → Prop, MdAt wr b c m.s m.served G ∧ (∀ k, G k → F k ∨ (X < k ∧ k < wr.heap.size)) ∧ ∀ a, ao = some a → ¬ G a.block
  fr : Fr F w wr
  box : Blk wr w.heap.size d.cells 40
  res : Blk wr (w.heap.size + 1) ret0 38
  out : Blk wr X [.int .i64 e, .slice ao acc.length cap, .int .i64 0, .int .u64 0] 38
  row : wr.ownsRow (X + 1) 59 3 (.slice ao acc.length cap) acc.length (pks acc)
  old : Lt F w
  hX : w.heap.size + 1 < X
section
variable {w wr w' : World} {X b : Nat} {c : Cfg} {m : MdS} {F : Nat → Prop} {d : CallS} {e : Int} {acc : List Pk} {ao : Option Addr} {cap : Nat}
theorem BatSt.below (h : BatSt w wr X b c m F d e acc ao cap) (hb : Below wr.heap.size wr w') : BatSt w w' X b c m F d e acc ao cap := by
  obtain ⟨G, h1, h2, h3⟩ := h.md
  have z := hb.size
  exact ⟨⟨G, h1.below hb, fun k hk => (h2 k hk).imp id fun hk => ⟨hk.1, by omega⟩, h3⟩, h.fr.then_below hb, h.box.below hb, h.res.below hb, h.out.below hb, owns_below (B := 0) h.row hb, h.old, h.hX⟩
theorem MdAt.lt {w : World} {b : Nat} {c : Cfg} {s : SfS} {served : Int} {F : Nat → Prop} (h : MdAt w b c s served F) : Lt F w := let ⟨_, _, _, h⟩ := h; h.lt
theorem BatSt.served {G G' : Nat → Prop} {m' : MdS} (h : BatSt w wr X b c m F d e acc ao cap) (h2 : ∀ k, G k → F k ∨ (X < k ∧ k < wr.heap.size)) (h3 : ∀ a, ao = some a → ¬ G a.block)
    (p : MdAt w' b c m'.s m'.served G') (hG : ∀ k, G' k → Ext G wr w' k) (f : Fr G wr w') : BatSt w w' X b c m' F d e acc ao cap := by
  have z := f.size
  have hlX := h.out.lt
  have hX := h.hX
  have hn : ∀ k, k ≤ X → w.heap.size ≤ k → ¬ G k := fun k hk hk1 hk2 => by
    rcases h2 k hk2 with hk2 | hk2
    · have := h.old k hk2; omega
    · omega
  refine ⟨⟨G', p, fun k hk => ?_, fun a ha hk => ?_⟩, ?_, h.box.fr f (hn _ (by omega) (by omega)), h.res.fr f (hn _ (by omega) (by omega)), h.out.fr f (hn _ (by omega) (by omega)), owns_fr h.row f fun k hk => ?_, h.old, h.hX⟩
  · rcases hG k hk with hk | hk
    · exact (h2 k hk).imp id fun hk => ⟨hk.1, by omega⟩
    · exact .inr ⟨by omega, hk.2⟩
  · rcases hG _ hk with hk | hk
    · exact h3 a ha hk
    · have := (h.row.lt a.block (by rw [ha]; rfl)).2; omega
  · refine h.fr.trans f fun i hi hk => ?_
    rcases h2 i hk with hk | hk
    · exact hk
    · omega
  · cases ao with
    | none => cases hk
    | some a => cases hk; exact h3 a rfl
/-- The variable's number was written. -/
theorem BatSt.setE (h : BatSt w wr X b c m F d e acc ao cap) (e' : Int) : BatSt w (wr.setCell ⟨X, 0, none⟩ (.int .i64 e')) X b c m F d e' acc ao cap := by
  obtain ⟨G, h1, h2, h3⟩ := h.md
  have hX := h.hX
  have hs : (wr.setCell ⟨X, 0, none⟩ (.int .i64 e')).heap.size = wr.heap.size := by simp [World.setCell]
  have f : Fr (fun k => k = X) wr (wr.setCell ⟨X, 0, none⟩ (.int .i64 e')) := Fr.setCell (S := fun k => k = X) (Fr.refl _ _) (a := ⟨X, 0, none⟩) (.inl rfl) _
  have hn : ¬ G X := fun hk => by
    rcases h2 X hk with hk | hk
    · have := h.old X hk; omega
    · omega
  refine ⟨⟨G, h1.fr f fun k hk e => by subst e; exact hn hk, fun k hk => by rw [hs]; exact h2 k hk, h3⟩, ?_, h.box.fr f (by omega), h.res.fr f (by omega), h.out.set 0 _, owns_fr h.row f fun k hk e => ?_, h.old, h.hX⟩
  · refine h.fr.trans f fun i hi hk => ?_
    omega
  · have := (h.row.lt k hk).1; omega
/-- The row was appended to. -/
theorem BatSt.grow (h : BatSt w wr X b c m F d e acc ao cap) {ao' : Option Addr} {cap' : Nat} {acc' : List Pk} (row : w'.ownsRow (X + 1) 59 3 (.slice ao' acc'.length cap') acc'.length (pks acc'))
    (hg : wr.grownBy w' (Value.slice ao acc.length cap).ownBlock) (hf : FreshOr wr (.slice ao acc.length cap) (.slice ao' acc'.length cap')) :
    BatSt w (w'.setCell ⟨X, 1, none⟩ (.slice ao' acc'.length cap')) X b c m F d e acc' ao' cap' := by
  obtain ⟨G, h1, h2, h3⟩ := h.md
  have hX := h.hX
  have hlX := h.out.lt
  have hs : (w'.setCell ⟨X, 1, none⟩ (.slice ao' acc'.length cap')).heap.size = w'.heap.size := by simp [World.setCell]
  have hro : ∀ k, (Value.slice ao acc.length cap).ownBlock = some k → X + 1 ≤ k ∧ k < wr.heap.size := h.row.lt
  have hG : ∀ k, G k → k ≠ X ∧ (Value.slice ao acc.length cap).ownBlock ≠ some k := fun k hk => by
    refine ⟨fun e => ?_, fun e => ?_⟩
    · subst e
      rcases h2 k hk with hk | hk
      · have := h.old k hk; omega
      · omega
    · cases ao with
      | none => cases e
      | some a => cases e; exact h3 a rfl hk
  have f1 : Fr (fun k => (Value.slice ao acc.length cap).ownBlock = some k) wr w' := (Fr.refl _ _).grown hg fun k e => .inl e
  have f2 : Fr (fun k => (Value.slice ao acc.length cap).ownBlock = some k ∨ k = X) wr (w'.setCell ⟨X, 1, none⟩ (.slice ao' acc'.length cap')) := Fr.setCell (S := fun k => (Value.slice ao acc.length cap).ownBlock = some k ∨ k = X) (f1.mono fun k _ hk => .inl hk) (a := ⟨X, 1, none⟩) (.inl (.inr rfl)) _
  have hz := f1.size
  have hB : ∀ k, k < X → ¬ ((Value.slice ao acc.length cap).ownBlock = some k ∨ k = X) := fun k hk h => by
    rcases h with h | h
    · have := (hro k h).1; omega
    · omega
  have f3 : Fr (fun k => k = X) w' (w'.setCell ⟨X, 1, none⟩ (.slice ao' acc'.length cap')) := Fr.setCell (S := fun k => k = X) (Fr.refl _ _) (a := ⟨X, 1, none⟩) (.inl rfl) _
  refine ⟨⟨G, h1.fr f2 fun k hk h => ?_, fun k hk => by rw [hs]; exact (h2 k hk).imp id fun hk => ⟨hk.1, by omega⟩, fun a ha hk => ?_⟩, ?_, h.box.fr f2 (hB _ (by omega)), h.res.fr f2 (hB _ (by omega)), (h.out.fr f1 fun e => by have := (hro X e).1; omega).set 1 _, owns_fr row f3 fun k hk e => ?_, h.old, h.hX⟩
  · rcases h with h | h
    · exact (hG k hk).2 h
    · exact (hG k hk).1 h
  · rcases hf with hf | hf
    · exact (hG _ hk).2 (by rw [← hf, ha]; rfl)
    · have h4 := hf a.block (by rw [ha]; rfl)
      have := h1.lt _ hk
      omega
  · refine h.fr.trans f2 fun i hi hk => ?_
    rcases hk with hk | hk
    · have := (hro i hk).1; omega
    · omega
  · have := (row.lt k hk).1; omega
theorem BatSt.done (h : BatSt w wr X b c m F d e acc ao cap) : RetPost b c m ⟨e, acc, 0, 0⟩ F w (.returned (.agg #[.int .i64 e, .slice ao acc.length cap, .int .i64 0, .int .u64 0]))
    ((((wr.setCell ⟨w.heap.size + 1, 0, none⟩ (.int .i64 e)).setCell ⟨w.heap.size + 1, 1, none⟩ (.slice ao acc.length cap)).setCell ⟨w.heap.size + 1, 2, none⟩ (.int .i64 0)).setCell ⟨w.heap.size + 1, 3, none⟩ (.int .u64 0)) := by
  obtain ⟨G, h1, h2, h3⟩ := h.md
  have hX := h.hX
  have g0 : Fr (fun k => k = w.heap.size + 1) wr wr := Fr.refl _ _
  have g1 := g0.setCell (a := ⟨w.heap.size + 1, 0, none⟩) (.inl rfl) (.int .i64 e)
  have g2 := g1.setCell (a := ⟨w.heap.size + 1, 1, none⟩) (.inl rfl) (.slice ao acc.length cap)
  have g3 := g2.setCell (a := ⟨w.heap.size + 1, 2, none⟩) (.inl rfl) (.int .i64 0)
  have g4 := g3.setCell (a := ⟨w.heap.size + 1, 3, none⟩) (.inl rfl) (.int .u64 0)
  have f : Fr F w _ := h.fr.trans g4 fun i hi hk => by omega
  refine ⟨ao, cap, G, rfl, ?_, h3, h1.fr g4 fun k hk e => ?_, fun k hk => ?_, f⟩
  · exact owns_base (owns_fr h.row g4 fun k hk e => by have := (h.row.lt k hk).1; omega) (by omega)
  · subst e
    rcases h2 _ hk with hk | hk
    · have := h.old _ hk; omega
    · omega
  · have := g4.size
    exact (h2 k hk).imp id fun hk => ⟨by omega, by omega⟩
end
end Go.Proofs.YtdjooacjjnjfmaaGreat
end

-- The model: a batch goes, the walk.
section
namespace Go.Proofs.YtdjooacjjnjfmaaGreat
set_option linter.unusedVariables false
set_option linter.unusedSimpArgs false
set_option maxRecDepth 20000
open Go.RowKit Go.Proofs.YtdjooacjjnjfmaaGreatMem Go.Proofs.YtdjooacjjnjfmaaGreatMapK

def MdS.batch (m : MdS) (n : Int) : MdS × RetS := if inB n 1 16 then m.bat n.toNat [] else (m, .code 1)
theorem bat_succ (j : Nat) (m : MdS) (ps : List Pk) : m.bat (j + 1) ps = if m.s.has then m.one.bat j (ps ++ [m.s.head]) else (m.one, ⟨10, ps, 0, 0⟩) := rfl
/-- So far right. -/
structure BatOk (m : MdS) (k : Nat) : Prop where
  s : m.s.Ok
  tag : m.s.Tagged
  len : m.s.fs.length ≤ 1000000
  served : 0 ≤ m.served ∧ m.served ≤ 900000000 + k
theorem BatOk.one {m : MdS} {k : Nat} (h : BatOk m k) : BatOk m.one (k + 1) := by
  have hs := h.served
  refine ⟨SfS.serve_ok h.s, h.tag.serve, ?_, ?_⟩
  · show m.s.serve.fs.length ≤ _
    rw [SfS.serve_len]; exact h.len
  · show 0 ≤ (if m.s.has then m.served + 1 else m.served) ∧ (if m.s.has then m.served + 1 else m.served) ≤ _
    split <;> omega
set_option maxHeartbeats 4000000 in
theorem batch_any (b : Nat) (c : Cfg) (m : MdS) (F : Nat → Prop) (d : CallS) (w : World) (h : MdAt w b c m.s m.served F) (ok : BatOk m 0) (hd : d.Ok) :
    Calls Tryz.prog 68 #[.pointer (some ⟨b, 0, none⟩), .agg #[.int .i64 d.op, .int .i64 d.flow, .int .i64 d.a, .int .i64 d.b]] w (RetPost b c (m.batch d.a).1 (m.batch d.a).2 F w) := by
  obtain ⟨sb, lm, Fs, h⟩ := h
  have I := InC.start (d := d) h
  have C0 := within_any d.a 1 16
  have hE : m.batch d.a = if inB d.a 1 16 then m.bat d.a.toNat [] else (m, .code 1) := rfl
  have HE := Lib.hid hE
  clear hE h
  generalize m.batch d.a = R at *
  go_enter Tryz.func68, Tryz.ntmps68
  go_upto_region 1 with fail
  generalize ((w.alloc (.cells #[.int .i64 d.op, .int .i64 d.flow, .int .i64 d.a, .int .i64 d.b] 40)).alloc (.cells #[.int .i64 0, .slice none 0 0, .int .i64 0, .int .u64 0] 38)) = W at *
  obtain ⟨q0, q1, q4, q5, q6, q7, hlt, z0, z1, z2, z3, hzl⟩ := I.cells
  have HI := Lib.hid I
  clear I
  go_wp2_with fail
  refine (C0 _).mono ?_
  rintro e w' ⟨rfl, rfl⟩
  generalize h0 : inB d.a 1 16 = x0
  cases x0 with
  | false =>
    obtain rfl : R = (m, .code 1) := by rw [HE.out, h0]; rfl
    clear h0
    go_wp2_with fail
    refine (refused_any 1 _).mono ?_
    rintro e w4 ⟨rfl, hb4⟩
    obtain ⟨r0, r1, r2, r3, f0, f1, f2, f3, hrl⟩ := (HI.out.below hb4).out
    have HB4 := Lib.hid hb4
    clear hb4
    go_wp2
    refine bodyPost_ret (v := retE 1) (by simp [retE, results, Tryz.results68, go_sem, r0, r1, r2, r3, hrl]) rfl ?_
    exact RetPost.code (HI.out.refused HB4.out _ _ _ _) 1
  | true =>
  obtain ⟨n, hn⟩ : ∃ n : Nat, d.a = n ∧ 1 ≤ n ∧ n ≤ 16 := by
    unfold inB at h0
    simp only [Bool.and_eq_true, decide_eq_true_eq] at h0
    exact ⟨d.a.toNat, by omega, by omega, by omega⟩
  obtain ⟨hdn, hn1, hn16⟩ := hn
  have hR : R = m.bat n [] := by rw [HE.out, h0]; simp [hdn]
  have hb1 := below1 W (.cells #[.int .i64 0, .slice none 0 0, .int .i64 0, .int .u64 0] 38)
  have HI1 := HI.out.below hb1
  have hres := HI.out.res.lt
  have S0 : BatSt w (W.alloc (.cells #[.int .i64 0, .slice none 0 0, .int .i64 0, .int .u64 0] 38)) W.heap.size b c m F d 0 [] none 0 :=
    ⟨⟨F, ⟨sb, lm, Fs, HI1.md⟩, fun k hk => .inl hk, fun a ha => by cases ha⟩, Fr.of_below HI1.bel, HI1.box, HI1.res, Blk.new W [.int .i64 0, .slice none 0 0, .int .i64 0, .int .u64 0] 38, owns_nil _ _ _ _, HI.out.old, hres⟩
  have HR := Lib.hid hR
  have HS0 := Lib.hid S0
  have HDN := Lib.hid hdn
  clear HE h0 HI1 hR S0 q0 q1 q4 q5 q6 q7 z0 z1 z3 C0 hdn
  go_upto_block 0 with fail
  go_cut [] from 6 to 31 (fun wx => ∃ e acc ao cap, BatSt w wx W.heap.size b c R.1 F d e acc ao cap ∧ R.2 = ⟨e, acc, 0, 0⟩)
  case first =>
    generalize W.alloc (.cells #[.int .i64 0, .slice none 0 0, .int .i64 0, .int .u64 0] 38) = W1 at *
    generalize W.heap.size = X at *
    go_wp2_with fail
    go_loopw [14] (fun v14 wr => ∃ (k : Nat) (mk : MdS) (acc : List Pk) (ao : Option Addr) (cap : Nat), k ≤ n ∧ v14 = .int .i64 k ∧ mk.bat (n - k) acc = R ∧ BatOk mk k ∧ acc.length = k ∧ BatSt w wr X b c mk F d 0 acc ao cap) (fun v14 _ => n - (intOf v14).toNat)
    case atStart => exact ⟨0, m, [], none, 0, Nat.zero_le _, rfl, HR.out.symm, ok, rfl, HS0.out⟩
    case round =>
      obtain ⟨k, mk, acc, ao, cap, hk, rfl, hbat, bok, hal, bs⟩ := hrel
      by_cases hl : k < n
      · have i1 : (k : Int) < d.a := by have := HDN.out; omega
        have z0 : wr.cell? ⟨w.heap.size, 0, none⟩ = some (.int .i64 d.op) := bs.box.cell 0
        have z1 : wr.cell? ⟨w.heap.size, 1, none⟩ = some (.int .i64 d.flow) := bs.box.cell 1
        have z2 : wr.cell? ⟨w.heap.size, 2, none⟩ = some (.int .i64 d.a) := bs.box.cell 2
        have z3 : wr.cell? ⟨w.heap.size, 3, none⟩ = some (.int .i64 d.b) := bs.box.cell 3
        have hbl := bs.box.lt
        obtain ⟨G, g1, g2, g3⟩ := bs.md
        have hse := bok.served
        have HQ := Lib.hid (dequeue_any b c mk.s mk.served G d wr g1 bok.s bok.tag bok.len ⟨hse.1, by omega⟩)
        have HBAT := Lib.hid hbat
        have BS := Lib.hid bs
        have BOK := Lib.hid bok
        clear hbat bs bok g1 hlt hzl
        go_wp2_with fail
        refine HQ.out.mono ?_
        rintro e w1 ⟨ao1, cap1, G1, rfl, row1, n1, p1, s1, fr1⟩
        have B1 := BS.out.served g2 g3 p1 s1 fr1
        have hrow1 := row1
        have hXwr := BS.out.out.lt
        have hone : (MdS.mk mk.s mk.served).oneRet = mk.oneRet := rfl
        rw [hone] at hrow1 ⊢
        have hone2 : (MdS.mk mk.s mk.served).one = mk.one := rfl
        rw [hone2] at B1
        clear hone hone2 row1 n1 p1 s1 fr1
        obtain ⟨rr, hrr⟩ : ∃ rr, mk.oneRet = rr := ⟨_, rfl⟩
        have hRR := Lib.hid hrr
        rw [hrr] at hrow1 ⊢
        have hb2 := below1 w1 (.cells #[.int .i64 rr.e, .slice ao1 rr.ps.length cap1, .int .i64 rr.n, .int .u64 rr.v] 38)
        have B2 := B1.below hb2
        have R2 := Blk.new w1 [.int .i64 rr.e, .slice ao1 rr.ps.length cap1, .int .i64 rr.n, .int .u64 rr.v] 38
        have D2 := owns_below (B := 0) hrow1 hb2
        have hXl := B1.out.lt
        clear hrr hb2 hrow1 B1 z0 z1 z2 z3 hbl
        go_upto_region 7 with fail
        generalize w1.alloc (.cells #[.int .i64 rr.e, .slice ao1 rr.ps.length cap1, .int .i64 rr.n, .int .u64 rr.v] 38) = w2 at *
        have c0 : w2.cell? ⟨w1.heap.size, 0, none⟩ = some (.int .i64 rr.e) := R2.cell 0
        have c1 := R2.lt
        have x0 : w2.cell? ⟨X, 0, none⟩ = some (.int .i64 0) := B2.out.cell 0
        have xf := B2.out.frozen 0
        have xl := B2.out.lt
        have B3 := B2.setE rr.e
        have R3 := R2.set_far (a := ⟨X, 0, none⟩) (by simp only; omega) (.int .i64 rr.e)
        have HB3 := Lib.hid B3
        have HR3 := Lib.hid R3
        have D3 := owns_fr D2 (Fr.setCell (S := fun k => k = X) (Fr.refl _ w2) (a := ⟨X, 0, none⟩) (.inl rfl) (.int .i64 rr.e)) fun k hk e => by have := (D2.lt k hk).1; omega
        have HD3 := Lib.hid D3
        clear B2 R2 B3 R3 D2 D3
        go_upto_region 8 with fail
        generalize w2.setCell ⟨X, 0, none⟩ (.int .i64 rr.e) = w3 at *
        clear c0 c1 x0 xf xl
        have x0 : w3.cell? ⟨X, 0, none⟩ = some (.int .i64 rr.e) := HB3.out.out.cell 0
        have x1 : w3.cell? ⟨X, 1, none⟩ = some (.slice ao acc.length cap) := HB3.out.out.cell 1
        have xf := HB3.out.out.frozen 1
        have xl := HB3.out.out.lt
        have y1 : w3.cell? ⟨w1.heap.size, 1, none⟩ = some (.slice ao1 rr.ps.length cap1) := HR3.out.cell 1
        have yl := HR3.out.lt
        have hnk : n - k = (n - (k + 1)) + 1 := by omega
        cases hh : mk.s.has with
        | false =>
          have hrr : rr = .code 10 := by rw [← hRR.out]; unfold MdS.oneRet; rw [hh]; rfl
          have e2 : (rr.e != 0) = true := by rw [hrr]; rfl
          have hRR2 := Lib.hid hrr
          have hH := Lib.hid hh
          clear hrr hh
          go_wp2
          go_meet
          refine ⟨rr.e, acc, ao, cap, ?_, ?_⟩
          · rw [← HBAT.out, hnk]
            unfold MdS.bat
            rw [hH.out]
            exact HB3.out
          · rw [← HBAT.out, hnk, hRR2.out]
            unfold MdS.bat
            rw [hH.out]
            rfl
        | true =>
          have hrr : rr = ⟨0, [mk.s.head], 0, 0⟩ := by rw [← hRR.out]; unfold MdS.oneRet; rw [hh]; rfl
          have e2 : (rr.e != 0) = false := by rw [hrr]; rfl
          have hlen : rr.ps.length = 1 := by rw [hrr]; rfl
          have hLen := Lib.hid hlen
          have hRR2 := Lib.hid hrr
          have hH := Lib.hid hh
          have hal2 := Lib.hid hal
          clear hrr hh hlen hal
          go_upto_region 9 with fail
          go_wp2_with ((at_builtin; refine ap_src w3 EP rfl _ _ rfl (X + 1) _ acc.length (pks acc) rfl HB3.out.row (by omega) ao1 rr.ps.length cap1 (pks rr.ps) rfl (fun h => (owns_cap HD3.out).2.2.2 h) (pks_length _) (fun j u hu => by obtain ⟨g, h1, -, -, h2⟩ := owns_at HD3.out hu; exact ⟨g, 0, h1, h2⟩) (pks_one _) (by rw [hal2.out, hLen.out]; omega) ?_; intro v' w4 hown4 hg4 hb4 hfr4; rw [← List.length_append, ← pks_append] at hown4; obtain ⟨acc5, hacc⟩ : ∃ l, Hid (l = acc ++ rr.ps) := ⟨_, Lib.hid rfl⟩; rw [← hacc.out] at hown4; obtain ⟨ao4, cap4, rfl⟩ := owns_slice hown4; have O4 := HB3.out.out.grown hg4 (by intro e; have := (HB3.out.row.lt X e).1; omega); have x4 := O4.cell 1; have xf4 := O4.frozen 1; have xl4 := O4.lt; simp only [List.getElem?_cons_succ, List.getElem?_cons_zero] at x4))
          have B5 := HB3.out.grow hown4 hg4 hfr4
          have hz : rr.e = 0 := by rw [hRR2.out]
          rw [hz] at B5
          go_roundw
          case rel => exact ⟨k + 1, mk.one, acc5, ao4, cap4, by omega, by go_num, by rw [← HBAT.out, hnk, bat_succ, hH.out, hacc.out, hRR2.out]; rfl, BOK.out.one, by rw [hacc.out, List.length_append, hal2.out, hLen.out], B5⟩
          case measure => simp [intOf]; omega
      · have i1 : ¬ (k : Int) < d.a := by have := HDN.out; omega
        obtain rfl : k = n := by omega
        go_wp2
        go_meet
        refine ⟨0, acc, ao, cap, ?_, ?_⟩
        · rw [← hbat, Nat.sub_self]; exact bs
        · rw [← hbat, Nat.sub_self]; rfl
  case rest =>
    obtain ⟨e, acc, ao, cap, bs, h2⟩ := hcut
    have o0 : wc.cell? ⟨W.heap.size, 0, none⟩ = some (.int .i64 e) := bs.out.cell 0
    have o1 : wc.cell? ⟨W.heap.size, 1, none⟩ = some (.slice ao acc.length cap) := bs.out.cell 1
    have o2 : wc.cell? ⟨W.heap.size, 2, none⟩ = some (.int .i64 0) := bs.out.cell 2
    have o3 : wc.cell? ⟨W.heap.size, 3, none⟩ = some (.int .u64 0) := bs.out.cell 3
    have hxl := bs.out.lt
    have r0 : wc.cell? ⟨w.heap.size + 1, 0, none⟩ = some (.int .i64 0) := bs.res.cell 0
    have r1 : wc.cell? ⟨w.heap.size + 1, 1, none⟩ = some (.slice none 0 0) := bs.res.cell 1
    have r2 : wc.cell? ⟨w.heap.size + 1, 2, none⟩ = some (.int .i64 0) := bs.res.cell 2
    have r3 : wc.cell? ⟨w.heap.size + 1, 3, none⟩ = some (.int .u64 0) := bs.res.cell 3
    have f0 := bs.res.frozen 0
    have f1 := bs.res.frozen 1
    have f2 := bs.res.frozen 2
    have f3 := bs.res.frozen 3
    have hrl := bs.res.lt
    have BS := Lib.hid bs
    have H2 := Lib.hid h2
    clear bs h2
    go_wp2
    refine bodyPost_ret (v := .agg #[.int .i64 e, .slice ao acc.length cap, .int .i64 0, .int .u64 0]) (by simp [results, Tryz.results68, go_sem, r0, r1, r2, r3, hrl]) rfl ?_
    rw [H2.out]
    exact BS.out.done
end Go.Proofs.YtdjooacjjnjfmaaGreat
end

-- The model: how far it is; any call.
section
namespace Go.Proofs.YtdjooacjjnjfmaaGreat
set_option linter.unusedVariables false
set_option linter.unusedSimpArgs false
set_option maxRecDepth 20000
open Go.RowKit Go.Proofs.YtdjooacjjnjfmaaGreatMem Go.Proofs.YtdjooacjjnjfmaaGreatMapK

theorem MdPost.drew {w w' : World} {b : Nat} {c : Cfg} {s : SfS} {served : Int} {F : Nat → Prop} (h : MdPost b c s served F w w') : MdPost b c s served F w w'.drew :=
  ⟨h.1.fr (w' := w'.drew) (Fr.of_below (S := fun _ => False) (Below.refl w'.heap.size w').drew) fun _ _ f => f, h.2.drew⟩
set_option maxHeartbeats 4000000 in
theorem stats_any (b : Nat) (c : Cfg) (m : MdS) (F : Nat → Prop) (d : CallS) (w : World) (h : MdAt w b c m.s m.served F) :
    Calls Tryz.prog 69 #[.pointer (some ⟨b, 0, none⟩), .agg #[.int .i64 d.op, .int .i64 d.flow, .int .i64 d.a, .int .i64 d.b]] w (RetPost b c m ⟨0, [], m.served, m.s.v⟩ F w) := by
  obtain ⟨sb, lm, Fs, h⟩ := h
  have I := InC.start (d := d) h
  clear h
  go_enter Tryz.func69, Tryz.ntmps69
  go_upto_region 1 with fail
  generalize ((w.alloc (.cells #[.int .i64 d.op, .int .i64 d.flow, .int .i64 d.a, .int .i64 d.b] 40)).alloc (.cells #[.int .i64 0, .slice none 0 0, .int .i64 0, .int .u64 0] 38)) = W at *
  have HI := Lib.hid (I.below (Below.refl W.heap.size W).drew)
  have hV : Hid (Calls Tryz.prog 103 #[.pointer (some ⟨sb, 0, none⟩)] W.drew fun e w' => e = .returned (.int .u64 m.s.v) ∧ W.drew = w') := Lib.hid (by
    obtain ⟨mb, l, hl, h1⟩ := HI.out.md.sfq
    exact sfqV_any sb m.s.v m.s.most l Fs W.drew ⟨mb, h1⟩)
  obtain ⟨q0, q1, q4, q5, q6, q7, hlt, z0, z1, z2, z3, hzl⟩ := HI.out.cells
  obtain ⟨r0, r1, r2, r3, f0, f1, f2, f3, hrl⟩ := I.out
  have hbz : b ≠ w.heap.size + 1 := by have := I.old b I.md.hb; omega
  have HK : Hid (∀ v0 v1 v2 v3, ((((W.setCell ⟨w.heap.size + 1, 0, none⟩ v0).setCell ⟨w.heap.size + 1, 1, none⟩ v1).setCell ⟨w.heap.size + 1, 2, none⟩ v2).setCell ⟨w.heap.size + 1, 3, none⟩ v3).drew.cell? ⟨b, 5, none⟩ = some (.pointer (some ⟨sb, 0, none⟩)) ∧ ((((W.setCell ⟨w.heap.size + 1, 0, none⟩ v0).setCell ⟨w.heap.size + 1, 1, none⟩ v1).setCell ⟨w.heap.size + 1, 2, none⟩ v2).setCell ⟨w.heap.size + 1, 3, none⟩ v3).drew.cell? ⟨b, 7, none⟩ = some (.int .i64 m.served)) := Lib.hid fun v0 v1 v2 v3 => by
    have B := (((I.md.blk.set_far (a := ⟨w.heap.size + 1, 0, none⟩) hbz v0).set_far (a := ⟨w.heap.size + 1, 1, none⟩) hbz v1).set_far (a := ⟨w.heap.size + 1, 2, none⟩) hbz v2).set_far (a := ⟨w.heap.size + 1, 3, none⟩) hbz v3
    exact ⟨B.drew.cell 5, B.drew.cell 7⟩
  replace HI := Lib.hid I
  clear I hbz
  go_region_held3 (fun w' => w'.cell? ⟨b, 5, none⟩ = some (.pointer (some ⟨sb, 0, none⟩)) ∧ w'.cell? ⟨b, 7, none⟩ = some (.int .i64 m.served)) (first | with_reducible exact ⟨q5, q7⟩ | exact HK.out _ _ _ _)
    (first | (go_at_call 103; refine hV.out.mono ?_; rintro e w3 ⟨rfl, rfl⟩))
  go_wp2
  refine bodyPost_ret (v := .agg #[.int .i64 0, .slice none 0 0, .int .i64 m.served, .int .u64 m.s.v]) (by simp [results, Tryz.results69, go_sem, r0, r1, r2, r3, hrl]) rfl ?_
  have hp := HI.out.refused (Below.refl _ _) (.int .i64 0) (.slice none 0 0) (.int .i64 m.served) (.int .u64 m.s.v)
  exact RetPost.plain m.served m.s.v hp.drew 0
end Go.Proofs.YtdjooacjjnjfmaaGreat
end

-- The model: any call.
section
namespace Go.Proofs.YtdjooacjjnjfmaaGreat
set_option linter.unusedVariables false
set_option linter.unusedSimpArgs false
set_option maxRecDepth 20000
open Go.RowKit Go.Proofs.YtdjooacjjnjfmaaGreatMem Go.Proofs.YtdjooacjjnjfmaaGreatMapK

theorem RetPost.over {w W w3 : World} {b : Nat} {c : Cfg} {m : MdS} {r : RetS} {F : Nat → Prop} {v : Value} (hF : Lt F w) (hb : Below w.heap.size w W) (hz : w.heap.size + 1 < W.heap.size) (p : RetPost b c m r F W (.returned v) w3) (v0 v1 v2 v3 : Value) :
    RetPost b c m r F w (.returned v) ((((w3.setCell ⟨w.heap.size + 1, 0, none⟩ v0).setCell ⟨w.heap.size + 1, 1, none⟩ v1).setCell ⟨w.heap.size + 1, 2, none⟩ v2).setCell ⟨w.heap.size + 1, 3, none⟩ v3) := by
  obtain ⟨ao, cap, G, h1, row, h3, md, hG, f⟩ := p
  have z1 := hb.size
  have g0 : Fr (fun k => k = w.heap.size + 1) w3 w3 := Fr.refl _ _
  have g1 := g0.setCell (a := ⟨w.heap.size + 1, 0, none⟩) (.inl rfl) v0
  have g2 := g1.setCell (a := ⟨w.heap.size + 1, 1, none⟩) (.inl rfl) v1
  have g3 := g2.setCell (a := ⟨w.heap.size + 1, 2, none⟩) (.inl rfl) v2
  have g4 := g3.setCell (a := ⟨w.heap.size + 1, 3, none⟩) (.inl rfl) v3
  have z4 := g4.size
  have f1 : Fr F w w3 := Fr.after_below hb f
  refine ⟨ao, cap, G, h1, ?_, h3, md.fr g4 fun k hk e => ?_, fun k hk => ?_, f1.trans g4 fun i hi hk => by omega⟩
  · exact owns_base (owns_fr row g4 fun k hk e => by have := (row.lt k hk).1; omega) (by omega)
  · subst e
    rcases hG _ hk with hk | hk
    · have := hF _ hk; omega
    · omega
  · rcases hG k hk with hk | hk
    · exact .inl hk
    · exact .inr ⟨by omega, by omega⟩
def doFns : List Value := [.nilFunc, .func (.func 64) #[] #[], .func (.func 65) #[] #[], .func (.func 66) #[] #[], .func (.func 67) #[] #[], .func (.func 68) #[] #[], .func (.func 69) #[] #[]]
theorem do_keep {Z A0 : Nat} {op fl a bb : Int} {t : TypeId} (k f : Nat) (hf : doFns[k]? = some (.func (.func f) #[] #[])) : ∀ w3, Blk w3 Z (CallS.cells ⟨op, fl, a, bb⟩) 40 → Blk w3 A0 doFns t →
    w3.cell? ⟨Z, 0, none⟩ = some (.int .i64 op) ∧ w3.cell? ⟨Z, 1, none⟩ = some (.int .i64 fl) ∧ w3.cell? ⟨Z, 2, none⟩ = some (.int .i64 a) ∧ w3.cell? ⟨Z, 3, none⟩ = some (.int .i64 bb) ∧ w3.cell? ⟨A0, k, none⟩ = some (.func (.func f) #[] #[]) :=
  fun w3 h1 h2 => ⟨h1.cell 0, h1.cell 1, h1.cell 2, h1.cell 3, (h2.cell k).trans hf⟩
theorem do_keep4 {Z A0 : Nat} {op fl a bb : Int} {t : TypeId} (k f : Nat) (hf : doFns[k]? = some (.func (.func f) #[] #[])) (hz : Z + 1 < A0) (w3 : World) (h1 : Blk w3 Z (CallS.cells ⟨op, fl, a, bb⟩) 40) (h2 : Blk w3 A0 doFns t) (v0 v1 v2 v3 : Value) :
    ((((w3.setCell ⟨Z + 1, 0, none⟩ v0).setCell ⟨Z + 1, 1, none⟩ v1).setCell ⟨Z + 1, 2, none⟩ v2).setCell ⟨Z + 1, 3, none⟩ v3).cell? ⟨Z, 0, none⟩ = some (.int .i64 op) ∧ ((((w3.setCell ⟨Z + 1, 0, none⟩ v0).setCell ⟨Z + 1, 1, none⟩ v1).setCell ⟨Z + 1, 2, none⟩ v2).setCell ⟨Z + 1, 3, none⟩ v3).cell? ⟨Z, 1, none⟩ = some (.int .i64 fl) ∧ ((((w3.setCell ⟨Z + 1, 0, none⟩ v0).setCell ⟨Z + 1, 1, none⟩ v1).setCell ⟨Z + 1, 2, none⟩ v2).setCell ⟨Z + 1, 3, none⟩ v3).cell? ⟨Z, 2, none⟩ = some (.int .i64 a) ∧ ((((w3.setCell ⟨Z + 1, 0, none⟩ v0).setCell ⟨Z + 1, 1, none⟩ v1).setCell ⟨Z + 1, 2, none⟩ v2).setCell ⟨Z + 1, 3, none⟩ v3).cell? ⟨Z, 3, none⟩ = some (.int .i64 bb) ∧ ((((w3.setCell ⟨Z + 1, 0, none⟩ v0).setCell ⟨Z + 1, 1, none⟩ v1).setCell ⟨Z + 1, 2, none⟩ v2).setCell ⟨Z + 1, 3, none⟩ v3).cell? ⟨A0, k, none⟩ = some (.func (.func f) #[] #[]) := by
  have e1 : Z ≠ Z + 1 := by omega
  have e2 : A0 ≠ Z + 1 := by omega
  exact do_keep k f hf _ ((((h1.set_far (a := ⟨Z + 1, 0, none⟩) e1 v0).set_far (a := ⟨Z + 1, 1, none⟩) e1 v1).set_far (a := ⟨Z + 1, 2, none⟩) e1 v2).set_far (a := ⟨Z + 1, 3, none⟩) e1 v3) ((((h2.set_far (a := ⟨Z + 1, 0, none⟩) e2 v0).set_far (a := ⟨Z + 1, 1, none⟩) e2 v1).set_far (a := ⟨Z + 1, 2, none⟩) e2 v2).set_far (a := ⟨Z + 1, 3, none⟩) e2 v3)
set_option maxHeartbeats 4000000 in
theorem do_any (b : Nat) (c : Cfg) (m : MdS) (F : Nat → Prop) (d : CallS) (w : World) (h : MdAt w b c m.s m.served F) (ok : BatOk m 0) (hd : d.Ok) (hc : W64 c.unit) (hk : c.shards ≠ 0) :
    Calls Tryz.prog 38 #[.pointer (some ⟨b, 0, none⟩), .agg #[.int .i64 d.op, .int .i64 d.flow, .int .i64 d.a, .int .i64 d.b]] w (RetPost b c (m.doo c d).1 (m.doo c d).2 F w) := by
  obtain ⟨sb, lm, Fs, h⟩ := h
  obtain ⟨op, fl, a, bb⟩ := d
  have I := InC.start (d := ⟨op, fl, a, bb⟩) h
  have C0 := within_any op 1 6
  have hE : m.doo c ⟨op, fl, a, bb⟩ = m.doo c ⟨op, fl, a, bb⟩ := rfl
  generalize hE2 : m.doo c ⟨op, fl, a, bb⟩ = R at hE ⊢
  have HE := Lib.hid hE2
  clear hE hE2 h
  simp only at I
  go_enter Tryz.func38, Tryz.ntmps38
  go_upto_region 1 with fail
  generalize ((w.alloc (.cells #[.int .i64 op, .int .i64 fl, .int .i64 a, .int .i64 bb] 40)).alloc (.cells #[.int .i64 0, .slice none 0 0, .int .i64 0, .int .u64 0] 38)) = W at *
  go_upto_region 2 with fail
  have hA : Blk _ W.heap.size doFns 111 := Blk.new W [.nilFunc, .func (.func 64) #[] #[], .func (.func 65) #[] #[], .func (.func 66) #[] #[], .func (.func 67) #[] #[], .func (.func 68) #[] #[], .func (.func 69) #[] #[]] 111
  have hbA := below1 W (.cells #[.nilFunc, .func (.func 64) #[] #[], .func (.func 65) #[] #[], .func (.func 66) #[] #[], .func (.func 67) #[] #[], .func (.func 68) #[] #[], .func (.func 69) #[] #[]] 111)
  have HI := Lib.hid (I.below hbA)
  have hlA : w.heap.size + 1 < W.heap.size := I.res.lt
  have HA := Lib.hid hA
  clear I hA hbA
  generalize W.alloc (.cells #[.nilFunc, .func (.func 64) #[] #[], .func (.func 65) #[] #[], .func (.func 66) #[] #[], .func (.func 67) #[] #[], .func (.func 68) #[] #[], .func (.func 69) #[] #[]] 111) = W4 at *
  generalize W.heap.size = A0 at *
  obtain ⟨q0, q1, q4, q5, q6, q7, hlt, z0, z1, z2, z3, hzl⟩ := HI.out.cells
  have hal := HA.out.lt
  simp only at z0 z1 z2 z3
  have HNZ : Hid (¬ F w.heap.size) := Lib.hid fun hk => by have := HI.out.old _ hk; omega
  have HNR : Hid (¬ F (w.heap.size + 1)) := Lib.hid fun hk => by have := HI.out.old _ hk; omega
  have HNA : Hid (¬ F A0) := Lib.hid fun hk => by have := HI.out.old _ hk; omega
  clear q0 q1 q4 q5 q6 q7 hlt
  go_wp2_with fail
  refine (C0 _).mono ?_
  rintro e w' ⟨rfl, rfl⟩
  generalize h0 : inB op 1 6 = x0
  cases x0 with
  | false =>
    obtain rfl : R = (m, .code 2) := by
      rw [← HE.out]
      unfold inB at h0
      simp only [Bool.and_eq_false_iff, decide_eq_false_iff_not] at h0
      unfold MdS.doo
      simp only
      rw [if_neg (by omega), if_neg (by omega), if_neg (by omega), if_neg (by omega), if_neg (by omega), if_neg (by omega)]
    clear h0
    go_wp2_with fail
    refine (refused_any 2 _).mono ?_
    rintro e w4 ⟨rfl, hb4⟩
    obtain ⟨r0, r1, r2, r3, f0, f1, f2, f3, hrl⟩ := (HI.out.below hb4).out
    have HB4 := Lib.hid hb4
    clear hb4
    go_wp2
    refine bodyPost_ret (v := retE 2) (by simp [retE, results, Tryz.results38, go_sem, r0, r1, r2, r3, hrl]) rfl ?_
    exact RetPost.code (HI.out.refused HB4.out _ _ _ _) 2
  | true =>
  have hop : op = 1 ∨ op = 2 ∨ op = 3 ∨ op = 4 ∨ op = 5 ∨ op = 6 := by
    unfold inB at h0
    simp only [Bool.and_eq_true, decide_eq_true_eq] at h0
    omega
  clear h0 C0
  go_upto_region 4 with fail
  rcases hop with rfl | rfl | rfl | rfl | rfl | rfl
  ·
    have HQ : Hid (Calls Tryz.prog 64 #[.pointer (some ⟨b, 0, none⟩), .agg #[.int .i64 1, .int .i64 fl, .int .i64 a, .int .i64 bb]] W4.drew (RetPost b c R.1 R.2 F W4.drew)) := Lib.hid (by
      have hR := HE.out
      rw [← hR]
      have hmd : MdAt W4.drew b c m.s m.served F := ⟨sb, lm, Fs, (HI.out.below (Below.refl _ _).drew).md⟩
      exact (register_any b c m.s m.served F ⟨1, fl, a, bb⟩ _ hmd hc hk ok.len).mono fun e w' hh => by rw [hh.1]; exact RetPost.code hh.2 _)
    have AX : W4.drew.cell? ⟨A0, 1, none⟩ = some (.func (.func 64) #[] #[]) := (HA.out.drew.cell 1).trans rfl
    have hS : W4.drew.cell? ⟨w.heap.size, 0, none⟩ = some (.int .i64 1) ∧ W4.drew.cell? ⟨w.heap.size, 1, none⟩ = some (.int .i64 fl) ∧ W4.drew.cell? ⟨w.heap.size, 2, none⟩ = some (.int .i64 a) ∧ W4.drew.cell? ⟨w.heap.size, 3, none⟩ = some (.int .i64 bb) ∧ W4.drew.cell? ⟨A0, 1, none⟩ = some (.func (.func 64) #[] #[]) := ⟨z0, z1, z2, z3, AX⟩
    clear z0 z1 z2 z3 AX
    go_region_held3 (fun w' => w'.cell? ⟨w.heap.size, 0, none⟩ = some (.int .i64 1) ∧ w'.cell? ⟨w.heap.size, 1, none⟩ = some (.int .i64 fl) ∧ w'.cell? ⟨w.heap.size, 2, none⟩ = some (.int .i64 a) ∧ w'.cell? ⟨w.heap.size, 3, none⟩ = some (.int .i64 bb) ∧ w'.cell? ⟨A0, 1, none⟩ = some (.func (.func 64) #[] #[])) (first | with_reducible exact hS | with_reducible exact HK3 | exact HK4.out _ _ _ _)
      (first | (go_at_call 64; refine HQ.out.mono ?_; rintro e w3 ⟨ao, cap, G, rfl, row, hn3, md3, hG3, fr3⟩; have BZ3 := (HI.out.box.drew).fr fr3 HNZ.out; have BR3 := (HI.out.res.drew).fr fr3 HNR.out; have BA3 := (HA.out.drew).fr fr3 HNA.out; have HK3 := do_keep 1 64 rfl w3 BZ3 BA3; have HK4 := Lib.hid (do_keep4 1 64 rfl hlA w3 BZ3 BA3); have r0 := BR3.cell 0; have r1 := BR3.cell 1; have r2 := BR3.cell 2; have r3 := BR3.cell 3; simp only [ret0, List.getElem?_cons_succ, List.getElem?_cons_zero] at r0 r1 r2 r3; have f0 := BR3.frozen 0; have f1 := BR3.frozen 1; have f2 := BR3.frozen 2; have f3 := BR3.frozen 3; have hrl := BR3.lt; have HP3 := Lib.hid (show RetPost b c R.1 R.2 F W4.drew _ w3 from ⟨ao, cap, G, rfl, row, hn3, md3, hG3, fr3⟩); clear BZ3 BR3 BA3 row hn3 md3 hG3 fr3))
    go_wp2
    refine bodyPost_ret (v := .agg #[.int .i64 R.2.e, .slice ao R.2.ps.length cap, .int .i64 R.2.n, .int .u64 R.2.v]) (by simp [results, Tryz.results38, go_sem, r0, r1, r2, r3, hrl]) rfl ?_
    exact RetPost.over HI.out.old HI.out.bel.drew (show w.heap.size + 1 < W4.heap.size by omega) HP3.out _ _ _ _
  ·
    have HQ : Hid (Calls Tryz.prog 65 #[.pointer (some ⟨b, 0, none⟩), .agg #[.int .i64 2, .int .i64 fl, .int .i64 a, .int .i64 bb]] W4.drew (RetPost b c R.1 R.2 F W4.drew)) := Lib.hid (by
      have hR := HE.out
      rw [← hR]
      have hmd : MdAt W4.drew b c m.s m.served F := ⟨sb, lm, Fs, (HI.out.below (Below.refl _ _).drew).md⟩
      exact (shut_any b c m.s m.served F ⟨2, fl, a, bb⟩ _ hmd).mono fun e w' hh => by rw [hh.1]; exact RetPost.code hh.2 _)
    have AX : W4.drew.cell? ⟨A0, 2, none⟩ = some (.func (.func 65) #[] #[]) := (HA.out.drew.cell 2).trans rfl
    have hS : W4.drew.cell? ⟨w.heap.size, 0, none⟩ = some (.int .i64 2) ∧ W4.drew.cell? ⟨w.heap.size, 1, none⟩ = some (.int .i64 fl) ∧ W4.drew.cell? ⟨w.heap.size, 2, none⟩ = some (.int .i64 a) ∧ W4.drew.cell? ⟨w.heap.size, 3, none⟩ = some (.int .i64 bb) ∧ W4.drew.cell? ⟨A0, 2, none⟩ = some (.func (.func 65) #[] #[]) := ⟨z0, z1, z2, z3, AX⟩
    clear z0 z1 z2 z3 AX
    go_region_held3 (fun w' => w'.cell? ⟨w.heap.size, 0, none⟩ = some (.int .i64 2) ∧ w'.cell? ⟨w.heap.size, 1, none⟩ = some (.int .i64 fl) ∧ w'.cell? ⟨w.heap.size, 2, none⟩ = some (.int .i64 a) ∧ w'.cell? ⟨w.heap.size, 3, none⟩ = some (.int .i64 bb) ∧ w'.cell? ⟨A0, 2, none⟩ = some (.func (.func 65) #[] #[])) (first | with_reducible exact hS | with_reducible exact HK3 | exact HK4.out _ _ _ _)
      (first | (go_at_call 65; refine HQ.out.mono ?_; rintro e w3 ⟨ao, cap, G, rfl, row, hn3, md3, hG3, fr3⟩; have BZ3 := (HI.out.box.drew).fr fr3 HNZ.out; have BR3 := (HI.out.res.drew).fr fr3 HNR.out; have BA3 := (HA.out.drew).fr fr3 HNA.out; have HK3 := do_keep 2 65 rfl w3 BZ3 BA3; have HK4 := Lib.hid (do_keep4 2 65 rfl hlA w3 BZ3 BA3); have r0 := BR3.cell 0; have r1 := BR3.cell 1; have r2 := BR3.cell 2; have r3 := BR3.cell 3; simp only [ret0, List.getElem?_cons_succ, List.getElem?_cons_zero] at r0 r1 r2 r3; have f0 := BR3.frozen 0; have f1 := BR3.frozen 1; have f2 := BR3.frozen 2; have f3 := BR3.frozen 3; have hrl := BR3.lt; have HP3 := Lib.hid (show RetPost b c R.1 R.2 F W4.drew _ w3 from ⟨ao, cap, G, rfl, row, hn3, md3, hG3, fr3⟩); clear BZ3 BR3 BA3 row hn3 md3 hG3 fr3))
    go_wp2
    refine bodyPost_ret (v := .agg #[.int .i64 R.2.e, .slice ao R.2.ps.length cap, .int .i64 R.2.n, .int .u64 R.2.v]) (by simp [results, Tryz.results38, go_sem, r0, r1, r2, r3, hrl]) rfl ?_
    exact RetPost.over HI.out.old HI.out.bel.drew (show w.heap.size + 1 < W4.heap.size by omega) HP3.out _ _ _ _
  ·
    have HQ : Hid (Calls Tryz.prog 66 #[.pointer (some ⟨b, 0, none⟩), .agg #[.int .i64 3, .int .i64 fl, .int .i64 a, .int .i64 bb]] W4.drew (RetPost b c R.1 R.2 F W4.drew)) := Lib.hid (by
      have hR := HE.out
      rw [← hR]
      have hmd : MdAt W4.drew b c m.s m.served F := ⟨sb, lm, Fs, (HI.out.below (Below.refl _ _).drew).md⟩
      exact (enqueue_any b c m.s m.served F ⟨3, fl, a, bb⟩ _ hmd ok.s hd).mono fun e w' hh => by rw [hh.1]; exact RetPost.code hh.2 _)
    have AX : W4.drew.cell? ⟨A0, 3, none⟩ = some (.func (.func 66) #[] #[]) := (HA.out.drew.cell 3).trans rfl
    have hS : W4.drew.cell? ⟨w.heap.size, 0, none⟩ = some (.int .i64 3) ∧ W4.drew.cell? ⟨w.heap.size, 1, none⟩ = some (.int .i64 fl) ∧ W4.drew.cell? ⟨w.heap.size, 2, none⟩ = some (.int .i64 a) ∧ W4.drew.cell? ⟨w.heap.size, 3, none⟩ = some (.int .i64 bb) ∧ W4.drew.cell? ⟨A0, 3, none⟩ = some (.func (.func 66) #[] #[]) := ⟨z0, z1, z2, z3, AX⟩
    clear z0 z1 z2 z3 AX
    go_region_held3 (fun w' => w'.cell? ⟨w.heap.size, 0, none⟩ = some (.int .i64 3) ∧ w'.cell? ⟨w.heap.size, 1, none⟩ = some (.int .i64 fl) ∧ w'.cell? ⟨w.heap.size, 2, none⟩ = some (.int .i64 a) ∧ w'.cell? ⟨w.heap.size, 3, none⟩ = some (.int .i64 bb) ∧ w'.cell? ⟨A0, 3, none⟩ = some (.func (.func 66) #[] #[])) (first | with_reducible exact hS | with_reducible exact HK3 | exact HK4.out _ _ _ _)
      (first | (go_at_call 66; refine HQ.out.mono ?_; rintro e w3 ⟨ao, cap, G, rfl, row, hn3, md3, hG3, fr3⟩; have BZ3 := (HI.out.box.drew).fr fr3 HNZ.out; have BR3 := (HI.out.res.drew).fr fr3 HNR.out; have BA3 := (HA.out.drew).fr fr3 HNA.out; have HK3 := do_keep 3 66 rfl w3 BZ3 BA3; have HK4 := Lib.hid (do_keep4 3 66 rfl hlA w3 BZ3 BA3); have r0 := BR3.cell 0; have r1 := BR3.cell 1; have r2 := BR3.cell 2; have r3 := BR3.cell 3; simp only [ret0, List.getElem?_cons_succ, List.getElem?_cons_zero] at r0 r1 r2 r3; have f0 := BR3.frozen 0; have f1 := BR3.frozen 1; have f2 := BR3.frozen 2; have f3 := BR3.frozen 3; have hrl := BR3.lt; have HP3 := Lib.hid (show RetPost b c R.1 R.2 F W4.drew _ w3 from ⟨ao, cap, G, rfl, row, hn3, md3, hG3, fr3⟩); clear BZ3 BR3 BA3 row hn3 md3 hG3 fr3))
    go_wp2
    refine bodyPost_ret (v := .agg #[.int .i64 R.2.e, .slice ao R.2.ps.length cap, .int .i64 R.2.n, .int .u64 R.2.v]) (by simp [results, Tryz.results38, go_sem, r0, r1, r2, r3, hrl]) rfl ?_
    exact RetPost.over HI.out.old HI.out.bel.drew (show w.heap.size + 1 < W4.heap.size by omega) HP3.out _ _ _ _
  ·
    have HQ : Hid (Calls Tryz.prog 67 #[.pointer (some ⟨b, 0, none⟩), .agg #[.int .i64 4, .int .i64 fl, .int .i64 a, .int .i64 bb]] W4.drew (RetPost b c R.1 R.2 F W4.drew)) := Lib.hid (by
      have hR := HE.out
      rw [← hR]
      have hmd : MdAt W4.drew b c m.s m.served F := ⟨sb, lm, Fs, (HI.out.below (Below.refl _ _).drew).md⟩
      exact dequeue_any b c m.s m.served F ⟨4, fl, a, bb⟩ _ hmd ok.s ok.tag ok.len ⟨ok.served.1, by have := ok.served.2; omega⟩)
    have AX : W4.drew.cell? ⟨A0, 4, none⟩ = some (.func (.func 67) #[] #[]) := (HA.out.drew.cell 4).trans rfl
    have hS : W4.drew.cell? ⟨w.heap.size, 0, none⟩ = some (.int .i64 4) ∧ W4.drew.cell? ⟨w.heap.size, 1, none⟩ = some (.int .i64 fl) ∧ W4.drew.cell? ⟨w.heap.size, 2, none⟩ = some (.int .i64 a) ∧ W4.drew.cell? ⟨w.heap.size, 3, none⟩ = some (.int .i64 bb) ∧ W4.drew.cell? ⟨A0, 4, none⟩ = some (.func (.func 67) #[] #[]) := ⟨z0, z1, z2, z3, AX⟩
    clear z0 z1 z2 z3 AX
    go_region_held3 (fun w' => w'.cell? ⟨w.heap.size, 0, none⟩ = some (.int .i64 4) ∧ w'.cell? ⟨w.heap.size, 1, none⟩ = some (.int .i64 fl) ∧ w'.cell? ⟨w.heap.size, 2, none⟩ = some (.int .i64 a) ∧ w'.cell? ⟨w.heap.size, 3, none⟩ = some (.int .i64 bb) ∧ w'.cell? ⟨A0, 4, none⟩ = some (.func (.func 67) #[] #[])) (first | with_reducible exact hS | with_reducible exact HK3 | exact HK4.out _ _ _ _)
      (first | (go_at_call 67; refine HQ.out.mono ?_; rintro e w3 ⟨ao, cap, G, rfl, row, hn3, md3, hG3, fr3⟩; have BZ3 := (HI.out.box.drew).fr fr3 HNZ.out; have BR3 := (HI.out.res.drew).fr fr3 HNR.out; have BA3 := (HA.out.drew).fr fr3 HNA.out; have HK3 := do_keep 4 67 rfl w3 BZ3 BA3; have HK4 := Lib.hid (do_keep4 4 67 rfl hlA w3 BZ3 BA3); have r0 := BR3.cell 0; have r1 := BR3.cell 1; have r2 := BR3.cell 2; have r3 := BR3.cell 3; simp only [ret0, List.getElem?_cons_succ, List.getElem?_cons_zero] at r0 r1 r2 r3; have f0 := BR3.frozen 0; have f1 := BR3.frozen 1; have f2 := BR3.frozen 2; have f3 := BR3.frozen 3; have hrl := BR3.lt; have HP3 := Lib.hid (show RetPost b c R.1 R.2 F W4.drew _ w3 from ⟨ao, cap, G, rfl, row, hn3, md3, hG3, fr3⟩); clear BZ3 BR3 BA3 row hn3 md3 hG3 fr3))
    go_wp2
    refine bodyPost_ret (v := .agg #[.int .i64 R.2.e, .slice ao R.2.ps.length cap, .int .i64 R.2.n, .int .u64 R.2.v]) (by simp [results, Tryz.results38, go_sem, r0, r1, r2, r3, hrl]) rfl ?_
    exact RetPost.over HI.out.old HI.out.bel.drew (show w.heap.size + 1 < W4.heap.size by omega) HP3.out _ _ _ _
  ·
    have HQ : Hid (Calls Tryz.prog 68 #[.pointer (some ⟨b, 0, none⟩), .agg #[.int .i64 5, .int .i64 fl, .int .i64 a, .int .i64 bb]] W4.drew (RetPost b c R.1 R.2 F W4.drew)) := Lib.hid (by
      have hR := HE.out
      rw [← hR]
      have hmd : MdAt W4.drew b c m.s m.served F := ⟨sb, lm, Fs, (HI.out.below (Below.refl _ _).drew).md⟩
      exact batch_any b c m F ⟨5, fl, a, bb⟩ _ hmd ok hd)
    have AX : W4.drew.cell? ⟨A0, 5, none⟩ = some (.func (.func 68) #[] #[]) := (HA.out.drew.cell 5).trans rfl
    have hS : W4.drew.cell? ⟨w.heap.size, 0, none⟩ = some (.int .i64 5) ∧ W4.drew.cell? ⟨w.heap.size, 1, none⟩ = some (.int .i64 fl) ∧ W4.drew.cell? ⟨w.heap.size, 2, none⟩ = some (.int .i64 a) ∧ W4.drew.cell? ⟨w.heap.size, 3, none⟩ = some (.int .i64 bb) ∧ W4.drew.cell? ⟨A0, 5, none⟩ = some (.func (.func 68) #[] #[]) := ⟨z0, z1, z2, z3, AX⟩
    clear z0 z1 z2 z3 AX
    go_region_held3 (fun w' => w'.cell? ⟨w.heap.size, 0, none⟩ = some (.int .i64 5) ∧ w'.cell? ⟨w.heap.size, 1, none⟩ = some (.int .i64 fl) ∧ w'.cell? ⟨w.heap.size, 2, none⟩ = some (.int .i64 a) ∧ w'.cell? ⟨w.heap.size, 3, none⟩ = some (.int .i64 bb) ∧ w'.cell? ⟨A0, 5, none⟩ = some (.func (.func 68) #[] #[])) (first | with_reducible exact hS | with_reducible exact HK3 | exact HK4.out _ _ _ _)
      (first | (go_at_call 68; refine HQ.out.mono ?_; rintro e w3 ⟨ao, cap, G, rfl, row, hn3, md3, hG3, fr3⟩; have BZ3 := (HI.out.box.drew).fr fr3 HNZ.out; have BR3 := (HI.out.res.drew).fr fr3 HNR.out; have BA3 := (HA.out.drew).fr fr3 HNA.out; have HK3 := do_keep 5 68 rfl w3 BZ3 BA3; have HK4 := Lib.hid (do_keep4 5 68 rfl hlA w3 BZ3 BA3); have r0 := BR3.cell 0; have r1 := BR3.cell 1; have r2 := BR3.cell 2; have r3 := BR3.cell 3; simp only [ret0, List.getElem?_cons_succ, List.getElem?_cons_zero] at r0 r1 r2 r3; have f0 := BR3.frozen 0; have f1 := BR3.frozen 1; have f2 := BR3.frozen 2; have f3 := BR3.frozen 3; have hrl := BR3.lt; have HP3 := Lib.hid (show RetPost b c R.1 R.2 F W4.drew _ w3 from ⟨ao, cap, G, rfl, row, hn3, md3, hG3, fr3⟩); clear BZ3 BR3 BA3 row hn3 md3 hG3 fr3))
    go_wp2
    refine bodyPost_ret (v := .agg #[.int .i64 R.2.e, .slice ao R.2.ps.length cap, .int .i64 R.2.n, .int .u64 R.2.v]) (by simp [results, Tryz.results38, go_sem, r0, r1, r2, r3, hrl]) rfl ?_
    exact RetPost.over HI.out.old HI.out.bel.drew (show w.heap.size + 1 < W4.heap.size by omega) HP3.out _ _ _ _
  ·
    have HQ : Hid (Calls Tryz.prog 69 #[.pointer (some ⟨b, 0, none⟩), .agg #[.int .i64 6, .int .i64 fl, .int .i64 a, .int .i64 bb]] W4.drew (RetPost b c R.1 R.2 F W4.drew)) := Lib.hid (by
      have hR := HE.out
      rw [← hR]
      have hmd : MdAt W4.drew b c m.s m.served F := ⟨sb, lm, Fs, (HI.out.below (Below.refl _ _).drew).md⟩
      exact stats_any b c m F ⟨6, fl, a, bb⟩ _ hmd)
    have AX : W4.drew.cell? ⟨A0, 6, none⟩ = some (.func (.func 69) #[] #[]) := (HA.out.drew.cell 6).trans rfl
    have hS : W4.drew.cell? ⟨w.heap.size, 0, none⟩ = some (.int .i64 6) ∧ W4.drew.cell? ⟨w.heap.size, 1, none⟩ = some (.int .i64 fl) ∧ W4.drew.cell? ⟨w.heap.size, 2, none⟩ = some (.int .i64 a) ∧ W4.drew.cell? ⟨w.heap.size, 3, none⟩ = some (.int .i64 bb) ∧ W4.drew.cell? ⟨A0, 6, none⟩ = some (.func (.func 69) #[] #[]) := ⟨z0, z1, z2, z3, AX⟩
    clear z0 z1 z2 z3 AX
    go_region_held3 (fun w' => w'.cell? ⟨w.heap.size, 0, none⟩ = some (.int .i64 6) ∧ w'.cell? ⟨w.heap.size, 1, none⟩ = some (.int .i64 fl) ∧ w'.cell? ⟨w.heap.size, 2, none⟩ = some (.int .i64 a) ∧ w'.cell? ⟨w.heap.size, 3, none⟩ = some (.int .i64 bb) ∧ w'.cell? ⟨A0, 6, none⟩ = some (.func (.func 69) #[] #[])) (first | with_reducible exact hS | with_reducible exact HK3 | exact HK4.out _ _ _ _)
      (first | (go_at_call 69; refine HQ.out.mono ?_; rintro e w3 ⟨ao, cap, G, rfl, row, hn3, md3, hG3, fr3⟩; have BZ3 := (HI.out.box.drew).fr fr3 HNZ.out; have BR3 := (HI.out.res.drew).fr fr3 HNR.out; have BA3 := (HA.out.drew).fr fr3 HNA.out; have HK3 := do_keep 6 69 rfl w3 BZ3 BA3; have HK4 := Lib.hid (do_keep4 6 69 rfl hlA w3 BZ3 BA3); have r0 := BR3.cell 0; have r1 := BR3.cell 1; have r2 := BR3.cell 2; have r3 := BR3.cell 3; simp only [ret0, List.getElem?_cons_succ, List.getElem?_cons_zero] at r0 r1 r2 r3; have f0 := BR3.frozen 0; have f1 := BR3.frozen 1; have f2 := BR3.frozen 2; have f3 := BR3.frozen 3; have hrl := BR3.lt; have HP3 := Lib.hid (show RetPost b c R.1 R.2 F W4.drew _ w3 from ⟨ao, cap, G, rfl, row, hn3, md3, hG3, fr3⟩); clear BZ3 BR3 BA3 row hn3 md3 hG3 fr3))
    go_wp2
    refine bodyPost_ret (v := .agg #[.int .i64 R.2.e, .slice ao R.2.ps.length cap, .int .i64 R.2.n, .int .u64 R.2.v]) (by simp [results, Tryz.results38, go_sem, r0, r1, r2, r3, hrl]) rfl ?_
    exact RetPost.over HI.out.old HI.out.bel.drew (show w.heap.size + 1 < W4.heap.size by omega) HP3.out _ _ _ _
end Go.Proofs.YtdjooacjjnjfmaaGreat
end

-- The model: a new one.
section
namespace Go.Proofs.YtdjooacjjnjfmaaGreat
set_option linter.unusedVariables false
set_option linter.unusedSimpArgs false
set_option maxRecDepth 20000
open Go.RowKit Go.Proofs.YtdjooacjjnjfmaaGreatMem Go.Proofs.YtdjooacjjnjfmaaGreatMapK

theorem md_new {w w2 : World} {sb lm : Nat} {Fs : Nat → Prop} (c : Cfg) (h : SfsAt w2 sb SfS.new Fs) (hF : ∀ k, Fs k → w.heap.size ≤ k ∧ k < w2.heap.size) (hm : IsMapAt w2 lm (Value.int .i64) []) (hl : w.heap.size ≤ lm) (hn : ¬ Fs lm) (hw : w.heap.size ≤ w2.heap.size) :
    MdAt (w2.alloc (.cells #[.int .i64 c.shards, .int .i64 c.slots, .int .i64 c.workers, .int .i64 c.width, .int .u64 c.unit, .pointer (some ⟨sb, 0, none⟩), .map (some lm), .int .i64 0] 109)) w2.heap.size c SfS.new 0 (fun k => w.heap.size ≤ k ∧ k < w2.heap.size + 1) := by
  have hb := below1 w2 (.cells #[.int .i64 c.shards, .int .i64 c.slots, .int .i64 c.workers, .int .i64 c.width, .int .u64 c.unit, .pointer (some ⟨sb, 0, none⟩), .map (some lm), .int .i64 0] 109)
  have hlm := hm.lt
  have hs : (w2.alloc (.cells #[.int .i64 c.shards, .int .i64 c.slots, .int .i64 c.workers, .int .i64 c.width, .int .u64 c.unit, .pointer (some ⟨sb, 0, none⟩), .map (some lm), .int .i64 0] 109)).heap.size = w2.heap.size + 1 := by simp
  refine ⟨sb, lm, Fs, Blk.new w2 _ _, h.below hb, .of (hm.of_eq (hb.block lm hlm)), fun k hk => ?_, ⟨hw, by omega⟩, ⟨hl, by omega⟩, by omega, fun k hk => by rw [hs]; exact hk.2⟩
  have := hF k hk
  refine ⟨⟨this.1, by omega⟩, by omega, fun e => by subst e; exact hn hk⟩
/-- A new model: what was made. -/
def NewPost (c : Cfg) (w : World) (e : Ending) (w' : World) : Prop :=
  if c.right then ∃ b, e = .returned (.tuple #[.pointer (some ⟨b, 0, none⟩), .int .i64 0]) ∧ MdAt w' b c SfS.new 0 (fun k => w.heap.size ≤ k ∧ k < w'.heap.size) ∧ Below w.heap.size w w'
  else e = .returned (.tuple #[.pointer none, .int .i64 1]) ∧ Below w.heap.size w w'
set_option maxHeartbeats 4000000 in
theorem new11_any (c : Cfg) (w : World) :
    Calls Tryz.prog 35 #[.agg #[.int .i64 c.shards, .int .i64 c.slots, .int .i64 c.workers, .int .i64 c.width, .int .u64 c.unit]] w (NewPost c w) := by
  have hb := below1 w (.cells #[.int .i64 c.shards, .int .i64 c.slots, .int .i64 c.workers, .int .i64 c.width, .int .u64 c.unit] 24)
  have B0 : Blk (w.alloc (.cells #[.int .i64 c.shards, .int .i64 c.slots, .int .i64 c.workers, .int .i64 c.width, .int .u64 c.unit] 24)) w.heap.size c.cells 24 := Blk.new w c.cells 24
  have C0 := right_any c
  go_enter Tryz.func35, Tryz.ntmps35
  go_upto_region 1 with fail
  generalize (w.alloc (.cells #[.int .i64 c.shards, .int .i64 c.slots, .int .i64 c.workers, .int .i64 c.width, .int .u64 c.unit] 24)) = W at *
  have b0 : W.cell? ⟨w.heap.size, 0, none⟩ = some (.int .i64 c.shards) := B0.cell 0
  have b1 : W.cell? ⟨w.heap.size, 1, none⟩ = some (.int .i64 c.slots) := B0.cell 1
  have b2 : W.cell? ⟨w.heap.size, 2, none⟩ = some (.int .i64 c.workers) := B0.cell 2
  have b3 : W.cell? ⟨w.heap.size, 3, none⟩ = some (.int .i64 c.width) := B0.cell 3
  have b4 : W.cell? ⟨w.heap.size, 4, none⟩ = some (.int .u64 c.unit) := B0.cell 4
  have hl := B0.lt
  go_wp2_with fail
  refine (C0 _).mono ?_
  rintro e W2 ⟨rfl, hb2⟩
  have HB := Lib.hid (hb.trans (hb2.mono hb.size))
  have B2 := B0.below hb2
  clear hb hb2 B0 b0 b1 b2 b3 b4 hl
  generalize hR : c.right = R
  cases R with
  | false =>
    go_wp2
    go_ret2
    unfold NewPost
    rw [hR]
    exact ⟨rfl, HB.out⟩
  | true =>
    have HC := Lib.hid hR
    clear hR C0
    have b0 : W2.drew.cell? ⟨w.heap.size, 0, none⟩ = some (.int .i64 c.shards) := B2.cell 0
    have b1 : W2.drew.cell? ⟨w.heap.size, 1, none⟩ = some (.int .i64 c.slots) := B2.cell 1
    have b2 : W2.drew.cell? ⟨w.heap.size, 2, none⟩ = some (.int .i64 c.workers) := B2.cell 2
    have b3 : W2.drew.cell? ⟨w.heap.size, 3, none⟩ = some (.int .i64 c.width) := B2.cell 3
    have b4 : W2.drew.cell? ⟨w.heap.size, 4, none⟩ = some (.int .u64 c.unit) := B2.cell 4
    have hl := B2.lt
    have hmm : (Instr.makeMap 107 none).run Tryz.prog W2.drew = .ok (.map (some W2.heap.size)) (W2.drew.alloc (.map #[] 0)) := rfl
    have T1 : Below W2.heap.size W2 W2.drew := (Below.refl _ _).drew
    have T2 : Below W2.heap.size W2 (W2.alloc (.map #[] 0)).drew := (below1 _ _).drew
    have HCL : Hid (∀ w', Below W2.heap.size W2 w' → w'.cell? ⟨w.heap.size, 0, none⟩ = some (.int .i64 c.shards) ∧ w'.cell? ⟨w.heap.size, 1, none⟩ = some (.int .i64 c.slots) ∧ w'.cell? ⟨w.heap.size, 2, none⟩ = some (.int .i64 c.workers) ∧ w'.cell? ⟨w.heap.size, 3, none⟩ = some (.int .i64 c.width) ∧ w'.cell? ⟨w.heap.size, 4, none⟩ = some (.int .u64 c.unit)) := Lib.hid fun w' hb =>
      ⟨(B2.below hb).cell 0, (B2.below hb).cell 1, (B2.below hb).cell 2, (B2.below hb).cell 3, (B2.below hb).cell 4⟩
    go_upto_region 3 with fail
    refine wp_region_held_drew (S := fun w' => w'.cell? ⟨w.heap.size, 0, none⟩ = some (.int .i64 c.shards) ∧ w'.cell? ⟨w.heap.size, 1, none⟩ = some (.int .i64 c.slots) ∧ w'.cell? ⟨w.heap.size, 2, none⟩ = some (.int .i64 c.workers) ∧ w'.cell? ⟨w.heap.size, 3, none⟩ = some (.int .i64 c.width) ∧ w'.cell? ⟨w.heap.size, 4, none⟩ = some (.int .u64 c.unit)) (by kernel_rfl) ?_ (fun hHeld => ?_)
    · exact HCL.out _ T1
    refine wpAnyH_take (i := 0) (v := ?_) rfl (by kernel_rfl) (by kernel_rfl) (by kernel_rfl) (fun _ _ _ h => h) (Or.inl ⟨by rfl, ?_⟩) (by assumption) ?_
    rotate_left
    · intro w hSw
      (try dsimp only at hSw)
      first | (go_simp; done) | (go_simp; with_reducible rfl)
    try simp only [List.getElem_toArray, List.getElem_cons_succ, List.getElem_cons_zero, Act.put, List.setIfInBounds_toArray, List.set_cons_zero, List.set_cons_succ]
    refine wpAnyH_ready (rs := [1, 2]) (by kernel_rfl) (by simp) ?_
    refine AllReadyH.cons rfl (fun K hK => ?_) (AllReadyH.cons rfl (fun K hK => ?_) AllReadyH.nil)
    · go_simp
      go_at_call 61
      refine (newS_any _).mono ?_
      rintro e w3 ⟨sb, rfl, hs3, hb3⟩
      have hb4 := below_step T1 hb3
      have hmm3 : (Instr.makeMap 107 none).run Tryz.prog w3 = .ok (.map (some w3.heap.size)) (w3.alloc (.map #[] 0)) := rfl
      refine hK.out _ _ (HCL.out _ hb4) (fun hHeld => ?_)
      clear hK K
      try simp only [List.getElem_toArray, List.getElem_cons_succ, List.getElem_cons_zero, Act.put, List.setIfInBounds_toArray, List.set_cons_zero, List.set_cons_succ]
      refine wpAnyH_ready (rs := [2]) (by kernel_rfl) (by simp) ?_
      refine AllReadyH.cons rfl (fun K hK => ?_) AllReadyH.nil
      go_simp
      have hb5 := hb4.trans ((below1 w3 (.map #[] 0)).mono hb4.size)
      refine hK.out _ _ (HCL.out _ hb5) (fun hHeld => ?_)
      clear hK K
      try simp only [List.getElem_toArray, List.getElem_cons_succ, List.getElem_cons_zero, Act.put, List.setIfInBounds_toArray, List.set_cons_zero, List.set_cons_succ]
      refine wpAnyH_take (i := 3) (v := ?_) rfl (by kernel_rfl) (by kernel_rfl) (by kernel_rfl) (fun _ _ _ h => h) (Or.inl ⟨by rfl, ?_⟩) (by assumption) ?_
      rotate_left
      · intro w hSw
        (try dsimp only at hSw)
        first | (go_simp; done) | (go_simp; with_reducible rfl)
      try simp only [List.getElem_toArray, List.getElem_cons_succ, List.getElem_cons_zero, Act.put, List.setIfInBounds_toArray, List.set_cons_zero, List.set_cons_succ]
      refine wpAnyH_ready (rs := [4]) (by kernel_rfl) (by simp) ?_
      refine AllReadyH.cons rfl (fun K hK => ?_) AllReadyH.nil
      go_simp
      have hb6 := hb5.trans ((below1 _ (.cells #[.int .i64 c.shards, .int .i64 c.slots, .int .i64 c.workers, .int .i64 c.width, .int .u64 c.unit, .pointer (some ⟨sb, 0, none⟩), .map (some w3.heap.size), .int .i64 0] 109)).mono hb5.size)
      refine hK.out _ _ (HCL.out _ hb6) (fun hHeld => ?_)
      clear hK K
      try simp only [List.getElem_toArray, List.getElem_cons_succ, List.getElem_cons_zero, Act.put, List.setIfInBounds_toArray, List.set_cons_zero, List.set_cons_succ]
      refine wpAnyH_take (i := 5) (v := ?_) rfl (by kernel_rfl) (by kernel_rfl) (by kernel_rfl) (fun _ _ _ h => h) (Or.inl ⟨by rfl, ?_⟩) (by assumption) ?_
      rotate_left
      · intro w hSw
        (try dsimp only at hSw)
        first | (go_simp; done) | (go_simp; with_reducible rfl)
      try simp only [List.getElem_toArray, List.getElem_cons_succ, List.getElem_cons_zero, Act.put, List.setIfInBounds_toArray, List.set_cons_zero, List.set_cons_succ]
      refine wpAnyH_take (i := 6) (v := ?_) rfl (by kernel_rfl) (by kernel_rfl) (by kernel_rfl) (fun _ _ _ h => h) (Or.inl ⟨by rfl, ?_⟩) (by assumption) ?_
      rotate_left
      · intro w hSw
        (try dsimp only at hSw)
        first | (go_simp; done) | (go_simp; with_reducible rfl)
      try simp only [List.getElem_toArray, List.getElem_cons_succ, List.getElem_cons_zero, Act.put, List.setIfInBounds_toArray, List.set_cons_zero, List.set_cons_succ]
      refine wpAnyH_done (by kernel_rfl) ?_ _
      go_wp2
      go_ret2
      unfold NewPost
      rw [HC.out]
      have hz := HB.out.size
      have hz3 : W2.heap.size ≤ w3.heap.size := hb4.size
      have hm := md_new (w := w) (w2 := w3.alloc (.map #[] 0)) (sb := sb) (lm := w3.heap.size) c (hs3.below (below1 w3 _)) (fun k hk => ⟨Nat.le_trans hz hk.1, Nat.lt_of_lt_of_le hk.2 (by simp)⟩) (IsMapAt.made w3 _) (by omega) (fun hk => by omega) (by simp; omega)
      have e1 : (w3.alloc (.map #[] 0)).heap.size = w3.heap.size + 1 := by simp
      rw [e1] at hm
      refine ⟨w3.heap.size + 1, rfl, hm.mono (fun k hk => ⟨hk.1, by simp; omega⟩) (fun k hk => hk.2), HB.out.trans (hb6.mono hz)⟩
    · go_simp
      refine hK.out _ _ (HCL.out _ T2) (fun hHeld => ?_)
      clear hK K
      try simp only [List.getElem_toArray, List.getElem_cons_succ, List.getElem_cons_zero, Act.put, List.setIfInBounds_toArray, List.set_cons_zero, List.set_cons_succ]
      have hM := IsMapAt.made (κ := Int) W2 (Value.int .i64)
      have e0 : (W2.alloc (.map #[] 0)).drew.heap.size = W2.heap.size + 1 := by simp
      have hM2 : IsMapAt (W2.alloc (.map #[] 0)).drew W2.heap.size (Value.int .i64) ([] : List (Int × Value)) := hM.of_eq rfl
      generalize (W2.alloc (.map #[] 0)).drew = W5 at *
      refine wpAnyH_ready (rs := [1]) (by kernel_rfl) (by simp) ?_
      refine AllReadyH.cons rfl (fun K hK => ?_) AllReadyH.nil
      go_simp
      go_at_call 61
      refine (newS_any _).mono ?_
      rintro e w3 ⟨sb, rfl, hs3, hb3⟩
      have hb5 := below_step T2 hb3
      refine hK.out _ _ (HCL.out _ hb5) (fun hHeld => ?_)
      clear hK K
      try simp only [List.getElem_toArray, List.getElem_cons_succ, List.getElem_cons_zero, Act.put, List.setIfInBounds_toArray, List.set_cons_zero, List.set_cons_succ]
      refine wpAnyH_take (i := 3) (v := ?_) rfl (by kernel_rfl) (by kernel_rfl) (by kernel_rfl) (fun _ _ _ h => h) (Or.inl ⟨by rfl, ?_⟩) (by assumption) ?_
      rotate_left
      · intro w hSw
        (try dsimp only at hSw)
        first | (go_simp; done) | (go_simp; with_reducible rfl)
      try simp only [List.getElem_toArray, List.getElem_cons_succ, List.getElem_cons_zero, Act.put, List.setIfInBounds_toArray, List.set_cons_zero, List.set_cons_succ]
      refine wpAnyH_ready (rs := [4]) (by kernel_rfl) (by simp) ?_
      refine AllReadyH.cons rfl (fun K hK => ?_) AllReadyH.nil
      go_simp
      have hb6 := hb5.trans ((below1 _ (.cells #[.int .i64 c.shards, .int .i64 c.slots, .int .i64 c.workers, .int .i64 c.width, .int .u64 c.unit, .pointer (some ⟨sb, 0, none⟩), .map (some W2.heap.size), .int .i64 0] 109)).mono hb5.size)
      refine hK.out _ _ (HCL.out _ hb6) (fun hHeld => ?_)
      clear hK K
      try simp only [List.getElem_toArray, List.getElem_cons_succ, List.getElem_cons_zero, Act.put, List.setIfInBounds_toArray, List.set_cons_zero, List.set_cons_succ]
      refine wpAnyH_take (i := 5) (v := ?_) rfl (by kernel_rfl) (by kernel_rfl) (by kernel_rfl) (fun _ _ _ h => h) (Or.inl ⟨by rfl, ?_⟩) (by assumption) ?_
      rotate_left
      · intro w hSw
        (try dsimp only at hSw)
        first | (go_simp; done) | (go_simp; with_reducible rfl)
      try simp only [List.getElem_toArray, List.getElem_cons_succ, List.getElem_cons_zero, Act.put, List.setIfInBounds_toArray, List.set_cons_zero, List.set_cons_succ]
      refine wpAnyH_take (i := 6) (v := ?_) rfl (by kernel_rfl) (by kernel_rfl) (by kernel_rfl) (fun _ _ _ h => h) (Or.inl ⟨by rfl, ?_⟩) (by assumption) ?_
      rotate_left
      · intro w hSw
        (try dsimp only at hSw)
        first | (go_simp; done) | (go_simp; with_reducible rfl)
      try simp only [List.getElem_toArray, List.getElem_cons_succ, List.getElem_cons_zero, Act.put, List.setIfInBounds_toArray, List.set_cons_zero, List.set_cons_succ]
      refine wpAnyH_done (by kernel_rfl) ?_ _
      go_wp2
      go_ret2
      unfold NewPost
      rw [HC.out]
      have hz := HB.out.size
      have hz3 : W2.heap.size ≤ w3.heap.size := hb5.size
      have hz5 := hb3.size
      have hm := md_new (w := w) (w2 := w3) (sb := sb) (lm := W2.heap.size) c hs3 (fun k hk => ⟨by omega, hk.2⟩) (hM2.of_eq (hb3.block _ hM2.lt)) hz (fun hk => by omega) (by omega)
      refine ⟨w3.heap.size, rfl, hm.mono (fun k hk => ⟨hk.1, by simp; omega⟩) (fun k hk => hk.2), HB.out.trans (hb6.mono hz)⟩
end Go.Proofs.YtdjooacjjnjfmaaGreat
end

-- A model that the call itself made: the contracts as laws use them.
section
namespace Go.Proofs.YtdjooacjjnjfmaaGreat
set_option linter.unusedVariables false
set_option linter.unusedSimpArgs false
set_option maxRecDepth 20000
open Go.RowKit Go.Proofs.YtdjooacjjnjfmaaGreatMem Go.Proofs.YtdjooacjjnjfmaaGreatMapK

structure MdS.Good (m : MdS) (k : Nat) : Prop where
  ok : m.Ok k
  tag : m.s.Tagged
theorem MdS.Good.new : MdS.new.Good 0 := ⟨MdS.new_ok, SfS.Tagged.new⟩
theorem MdS.Good.bat {m : MdS} {k : Nat} (h : m.Good k) (hk : k ≤ 1000000) : BatOk m 0 := by
  have h1 := h.ok.len
  have h2 := h.ok.served
  exact ⟨h.ok.s, h.tag, by omega, h2.1, by omega⟩
theorem MdS.Good.doo {m : MdS} {k : Nat} (h : m.Good k) {c : Cfg} (hc : W64 c.unit) {d : CallS} (hd : d.Ok) : (m.doo c d).1.Good (k + 1) := ⟨MdS.doo_ok h.ok hc hd, h.tag.doo c d⟩
theorem MdS.Good.mono {m : MdS} {k j : Nat} (h : m.Good k) (hj : k ≤ j) : m.Good j :=
  ⟨⟨h.ok.s, Nat.le_trans h.ok.len hj, ⟨h.ok.served.1, by have := h.ok.served.2; omega⟩, h.ok.nodup⟩, h.tag⟩
structure Cfg.Ok (c : Cfg) : Prop where
  unit : W64 c.unit
  shards : c.shards ≠ 0
/-- The model at block b, all of it made since the world w, of which nothing has turned. -/
def OwnM (w wx : World) (b : Nat) (c : Cfg) (m : MdS) : Prop := ∃ F : Nat → Prop, MdAt wx b c m.s m.served F ∧ (∀ k, F k → w.heap.size ≤ k) ∧ Below w.heap.size w wx
section
variable {w wx wy : World} {b : Nat} {c : Cfg} {m : MdS}
theorem OwnM.bel (h : OwnM w wx b c m) : Below w.heap.size w wx := let ⟨_, _, _, h⟩ := h; h
theorem OwnM.below (h : OwnM w wx b c m) (hb : Below wx.heap.size wx wy) : OwnM w wy b c m := let ⟨F, h1, h2, h3⟩ := h; ⟨F, h1.below hb, h2, h3.trans (hb.mono h3.size)⟩
/-- What a law reads of an answer. -/
def GotR (r : RetS) (e : Ending) (w' : World) : Prop := ∃ ao cap, e = .returned (.agg #[.int .i64 r.e, .slice ao r.ps.length cap, .int .i64 r.n, .int .u64 r.v]) ∧ RdS w' ao r.ps.length cap 3 (pks r.ps)
theorem OwnM.post {F : Nat → Prop} {r : RetS} {m' : MdS} {e : Ending} (hF : ∀ k, F k → w.heap.size ≤ k) (hb : Below w.heap.size w wx) (h : RetPost b c m' r F wx e wy) : GotR r e wy ∧ OwnM w wy b c m' := by
  obtain ⟨ao, cap, G, rfl, row, h3, md, hG, f⟩ := h
  refine ⟨⟨ao, cap, rfl, owns_rdS row (pks_one _)⟩, G, md, fun k hk => ?_, hb.trans (f.below hF hb.size)⟩
  rcases hG k hk with hk | hk
  · exact hF k hk
  · have := hb.size; omega
theorem doO (h : OwnM w wx b c m) (ok : BatOk m 0) (hc : c.Ok) (d : CallS) (hd : d.Ok) :
    Calls Tryz.prog 38 #[.pointer (some ⟨b, 0, none⟩), .agg #[.int .i64 d.op, .int .i64 d.flow, .int .i64 d.a, .int .i64 d.b]] wx fun e w' => GotR (m.doo c d).2 e w' ∧ OwnM w w' b c (m.doo c d).1 := by
  obtain ⟨F, h1, h2, h3⟩ := h
  exact (do_any b c m F d wx h1 ok hd hc.unit hc.shards).mono fun e w' hh => OwnM.post h2 h3 hh
end
end Go.Proofs.YtdjooacjjnjfmaaGreat
end
