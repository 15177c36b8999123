/- The model: a packet goes. -/
import Derived.Test.YtfgfjnlkgadkhaaMod11
import Derived.Laws.OwnMore
namespace Go.Proofs.Ytfgfjnlkgadkhaa
set_option linter.unusedVariables false
set_option linter.unusedSimpArgs false
set_option maxRecDepth 20000
open Go.RowKit Go.Proofs.YtfgfjnlkgadkhaaMem Go.Proofs.YtfgfjnlkgadkhaaMapK

/-- What a call of the model tells: the answer, its packets in a row of the call's own that is no part of the model. -/
def RetPost (b : Nat) (c : Cfg) (m : MdS) (r : RetS) (F : Nat → Prop) (w : World) (e : Ending) (w' : World) : Prop :=
  ∃ ao cap G, e = .returned (.agg #[.int .i64 r.e, .slice ao r.ps.length cap, .int .i64 r.n, .int .u64 r.v]) ∧ w'.ownsRow w.heap.size 55 3 (.slice ao r.ps.length cap) r.ps.length (pks r.ps) ∧
    (∀ a, ao = some a → ¬ G a.block) ∧ MdAt w' b c m.s m.served G ∧ (∀ k, G k → Ext F w w' k) ∧ Fr F w w'
section
variable {w w0 w' w5 w6 : World} {b : Nat} {c : Cfg} {s : SfS} {served : Int} {F : Nat → Prop}
theorem RetPost.plain (n v : Int) (p : MdPost b c s served F w w') (e : Int) : RetPost b c ⟨s, served⟩ ⟨e, [], n, v⟩ F w (.returned (.agg #[.int .i64 e, .slice none 0 0, .int .i64 n, .int .u64 v])) w' :=
  ⟨none, 0, _, rfl, owns_nil _ _ _ _, (fun a h => by cases h), p.1, fun k hk => hk, p.2⟩
theorem RetPost.code (p : MdPost b c s served F w w') (e : Int) : RetPost b c ⟨s, served⟩ (.code e) F w (.returned (retE e)) w' := RetPost.plain 0 0 p e
theorem MdPost.setServed (p : MdPost b c s served F w w') (hF : F b) (n : Int) : MdPost b c s n F w (w'.setCell ⟨b, 7, none⟩ (.int .i64 n)) := by
  obtain ⟨⟨sb, lm, Fs, R⟩, f⟩ := p
  have hg : Fr (fun k => k = b) w' (w'.setCell ⟨b, 7, none⟩ (.int .i64 n)) := Fr.setCell (S := fun k => k = b) (Fr.refl _ _) (a := ⟨b, 7, none⟩) (.inl rfl) _
  refine ⟨⟨sb, lm, Fs, R.blk.set 7 (.int .i64 n), R.sfq.fr hg fun k hk e => (R.sub k hk).2.1 e, R.lens.of_eq (hg.block lm (R.lt lm R.hl) fun e => R.ne e.symm), fun k hk => ⟨?_, (R.sub k hk).2⟩, ?_, ?_, R.ne, ?_⟩, f.setCell (.inl hF) _⟩
  · have := (R.sub k hk).1
    simpa [Ext, World.setCell] using this
  · simpa [Ext, World.setCell] using R.hb
  · simpa [Ext, World.setCell] using R.hl
  · intro k hk
    have := R.lt k (by simpa [Ext, World.setCell] using hk)
    simpa [World.setCell] using this
/-- A row made behind all that turned. -/
theorem RetPost.row {m : MdS} {r : RetS} {cap : Nat} (hF : Lt F w) (hb : Below w.heap.size w w0) (p : MdPost b c m.s m.served F w0 w5) (hf : Fr (fun k => w.heap.size ≤ k ∧ k < w0.heap.size) w5 w6) {B : Nat} (hB : w5.heap.size ≤ B)
    (ho : w6.ownsRow w.heap.size 55 3 (.slice (some ⟨B, 0, none⟩) r.ps.length cap) r.ps.length (pks r.ps)) : RetPost b c m r F w (.returned (.agg #[.int .i64 r.e, .slice (some ⟨B, 0, none⟩) r.ps.length cap, .int .i64 r.n, .int .u64 r.v])) w6 := by
  have z1 := hb.size
  have z2 := p.2.size
  have z3 := hf.size
  have q := md_end hF hb p hf
  refine ⟨_, _, fun k => Ext F w0 w5 k, rfl, ho, fun a ha hk => ?_, p.1.fr hf fun k hk hk2 => ?_, fun k hk => ?_, q.2⟩
  · cases ha
    rcases hk with hk | hk
    · have := hF _ hk; simp only at this; omega
    · simp only at hk; omega
  · rcases hk with hk | hk
    · have := hF k hk; omega
    · omega
  · rcases hk with hk | hk
    · exact .inl hk
    · exact .inr ⟨by omega, by omega⟩
end
set_option maxHeartbeats 4000000 in
theorem dequeue_any (b : Nat) (c : Cfg) (s : SfS) (served : Int) (F : Nat → Prop) (d : CallS) (w : World) (h : MdAt w b c s served F) (ok : s.Ok) (ht : s.Tagged) (hn : s.fs.length ≤ 1000000) (hv : 0 ≤ served ∧ served ≤ 1000000000) :
    Calls Try.prog 24 #[.pointer (some ⟨b, 0, none⟩), .agg #[.int .i64 d.op, .int .i64 d.flow, .int .i64 d.a, .int .i64 d.b]] w (RetPost b c (MdS.mk s served).one (MdS.mk s served).oneRet F w) := by
  obtain ⟨sb, lm, Fs, h⟩ := h
  have I := InC.start (d := d) h
  have hE : (MdS.mk s served).oneRet = (if s.has then ⟨0, [s.head], 0, 0⟩ else .code 10) := rfl
  have hT : (MdS.mk s served).one = ⟨s.serve, if s.has then served + 1 else served⟩ := rfl
  have HE := Lib.hid hE
  have HT := Lib.hid hT
  have hFb := h.hb
  clear hE hT h
  generalize (MdS.mk s served).oneRet = R at *
  generalize (MdS.mk s served).one = T at *
  go_enter Try.func24, Try.ntmps24
  go_upto_region 1 with fail
  generalize ((w.alloc (.cells #[.int .i64 d.op, .int .i64 d.flow, .int .i64 d.a, .int .i64 d.b] 33)).alloc (.cells #[.int .i64 0, .slice none 0 0, .int .i64 0, .int .u64 0] 37)) = W at *
  obtain ⟨q0, q1, q4, q5, q6, q7, hlt, z0, z1, z2, z3, hzl⟩ := I.cells
  have HI := Lib.hid I
  have HS := Lib.hid (serveS_any sb s Fs W I.md.sfq ok hn)
  clear I
  have HNB : Hid (¬ Fs b) := Lib.hid (fun hk => (HI.out.md.sub b hk).2.1 rfl)
  have HNZ : Hid (¬ Fs w.heap.size) := Lib.hid (fun hk => by have := HI.out.old _ (HI.out.md.sub _ hk).1; omega)
  have HNR : Hid (¬ Fs (w.heap.size + 1)) := Lib.hid (fun hk => by have := HI.out.old _ (HI.out.md.sub _ hk).1; omega)
  go_wp2_with fail
  refine HS.out.mono ?_
  rintro e w3 ⟨rfl, hp⟩
  have hO : ∀ {s'}, MdPost b c s' served F W w3 → OutC w W w3 b c s' served F d := fun hm => ⟨HI.out.bel, hm, HI.out.box.fr hp.2 HNZ.out, HI.out.res.fr hp.2 HNR.out, HI.out.old, HI.out.res.lt⟩
  unfold Pk.val
  generalize hh : s.has = hs
  cases hs with
  | false =>
    obtain rfl : R = .code 10 := by rw [HE.out, hh]; rfl
    obtain rfl : T = ⟨s.serve, served⟩ := by rw [HT.out, hh]; rfl
    have hT : OutC w W w3 b c s.serve served F d := hO (md_turn0 HI.out.md hp (serve_no hh))
    have HT0 := Lib.hid (hT.below (below1 w3 (.cells #[.int .i64 s.head.flow, .int .i64 s.head.len, .int .i64 s.head.mark] 55)))
    clear hT hO hp HS q0 q1 q4 q5 q6 q7 z0 z1 z2 z3
    go_wp2_with fail
    refine (refused_any 10 _).mono ?_
    rintro e w4 ⟨rfl, hb4⟩
    obtain ⟨r0, r1, r2, r3, f0, f1, f2, f3, hrl⟩ := (HT0.out.below hb4).out
    have HB4 := Lib.hid hb4
    clear hb4
    go_wp2
    refine bodyPost_ret (v := retE 10) (by simp [retE, results, Try.results24, go_sem, r0, r1, r2, r3, hrl]) rfl ?_
    exact RetPost.code (HT0.out.refused HB4.out _ _ _ _) 10
  | true =>
    obtain rfl : R = ⟨0, [s.head], 0, 0⟩ := by rw [HE.out, hh]; rfl
    obtain rfl : T = ⟨s.serve, served + 1⟩ := by rw [HT.out, hh]; rfl
    obtain ⟨x, hx, hln, hpos⟩ := serve_yes HI.out.md.nodup ht hh
    have hM1 := HI.out.md.map1 hp
    have hllm := HI.out.old lm HI.out.md.hl
    have hbl := HI.out.old b hFb
    have hbZ := HI.out.bel.size
    have hnl : lm ≠ b := fun e => HI.out.md.ne e.symm
    have hz3 := hp.2.size
    have hb4 := below1 w3 (.cells #[.int .i64 s.head.flow, .int .i64 s.head.len, .int .i64 s.head.mark] 55)
    have P4 : Blk (w3.alloc (.cells #[.int .i64 s.head.flow, .int .i64 s.head.len, .int .i64 s.head.mark] 55)) w3.heap.size s.head.cells 55 := Blk.new w3 s.head.cells 55
    have BL4 := (HI.out.md.blk.fr hp.2 HNB.out).below hb4
    have R4 := (HI.out.res.fr hp.2 HNR.out).below hb4
    have HP := Lib.hid hp
    have hM4 := hM1.of_eq (hb4.block lm (by omega))
    have e1 : Value.int .i64 (IntKind.i64.wrap ((x.l.length : Int) - 1)) = .int .i64 ((x.l.length : Int) - 1) := by
      have hxo : x.Ok := ok.fs _ (getF_mem hx)
      have := hxo.len
      have := hxo.m8
      rw [IntWalk.i64_left, IntWalk.wrap64_in _ (by omega)]
    have e2 : Value.int .i64 (IntKind.i64.wrap (served + 1)) = .int .i64 (served + 1) := by rw [IntWalk.i64_left, IntWalk.wrap64_in _ (by omega)]
    have HG4 : Hid (Below w3.heap.size w3 (w3.alloc (.cells #[.int .i64 s.head.flow, .int .i64 s.head.len, .int .i64 s.head.mark] 55)).drew) := Lib.hid hb4.drew
    go_upto_region 4 with fail
    generalize hW4 : (w3.alloc (.cells #[.int .i64 s.head.flow, .int .i64 s.head.len, .int .i64 s.head.mark] 55)) = w4 at *
    have hlk : (Instr.lookup 63 (.map (some lm)) (.int .i64 s.head.flow) false).run Try.prog w4.drew = .ok (.int .i64 x.l.length) w4.drew := by
      have := run_lookup (w := w4.drew) intKey under_lens (zero_int w4.drew) (hM4.of_eq rfl) s.head.flow
      rw [getM_lens, hx] at this
      exact this
    obtain ⟨w5, hup, hm5, hg5⟩ := run_update intKey under_lens (show IsMapAt w4.drew lm (Value.int .i64) (lensV s) from hM4.of_eq rfl) s.head.flow (.int .i64 ((x.l.length : Int) - 1))
    have y6 : w4.drew.cell? ⟨b, 6, none⟩ = some (.map (some lm)) := BL4.cell 6
    have p0 : w4.drew.cell? ⟨w3.heap.size, 0, none⟩ = some (.int .i64 s.head.flow) := P4.cell 0
    have hP4l := P4.lt
    have hBl := BL4.lt
    have hlm4 : lm < w3.heap.size := by omega
    have BL5 : Blk w5 b _ _ := BL4.drew.grown hg5 (by intro e; cases e; exact hnl rfl)
    have P5 : Blk w5 w3.heap.size _ _ := P4.drew.grown hg5 (by intro e; cases e; omega)
    have R5 : Blk w5 (w.heap.size + 1) _ _ := R4.drew.grown hg5 (by intro e; cases e; omega)
    have p5 : MdPost b c s.serve served F W w5 := md_turn HI.out.md HP.out (grown_through (w1 := w4.drew) ⟨HG4.out.os, HG4.out.tape, HG4.out.output, HG4.out.size, fun k hk _ => HG4.out.block k hk⟩ hg5) (by rw [hln]; exact hm5)
    have s7 : w5.cell? ⟨b, 7, none⟩ = some (.int .i64 served) := BL5.cell 7
    have g7 := BL5.frozen 7
    have HP5 := Lib.hid (p5.setServed hFb (served + 1))
    have P6 := P5.set_far (a := ⟨b, 7, none⟩) (by simp only; omega) (.int .i64 (served + 1))
    have R6 := R5.set_far (a := ⟨b, 7, none⟩) (by simp only; omega) (.int .i64 (served + 1))
    have HR6 := Lib.hid R6
    have HP6 := Lib.hid P6
    have hBl5 := BL5.lt
    have hz5 := p5.2.size
    clear hO HS q0 q1 q4 q5 q6 q7 z0 z1 z2 z3 hzl hp hM1 hM4 P4 BL4 R4 BL5 P5 R5 P6 R6 hln hx p5 hm5 hg5 hh HE HT HG4
    go_region
    go_upto_region 5 with fail
    go_upto_region 6 with fail
    generalize hw6 : w5.setCell ⟨b, 7, none⟩ (.int .i64 (served + 1)) = w6 at *
    have hz6 : w6.heap.size = w5.heap.size := by rw [← hw6]; simp [World.setCell]
    clear hw6 s7 g7 hBl5 p0 y6 hBl
    have u0 : w6.cell? ⟨w3.heap.size, 0, none⟩ = some (.int .i64 s.head.flow) := HP6.out.cell 0
    have u1 : w6.cell? ⟨w3.heap.size, 1, none⟩ = some (.int .i64 s.head.len) := HP6.out.cell 1
    have u2 : w6.cell? ⟨w3.heap.size, 2, none⟩ = some (.int .i64 s.head.mark) := HP6.out.cell 2
    have hul := HP6.out.lt
    have HZ6 := Lib.hid hz6
    have r0 : w6.cell? ⟨w.heap.size + 1, 0, none⟩ = some (.int .i64 0) := HR6.out.cell 0
    have r1 : w6.cell? ⟨w.heap.size + 1, 1, none⟩ = some (.slice none 0 0) := HR6.out.cell 1
    have r2 : w6.cell? ⟨w.heap.size + 1, 2, none⟩ = some (.int .i64 0) := HR6.out.cell 2
    have r3 : w6.cell? ⟨w.heap.size + 1, 3, none⟩ = some (.int .u64 0) := HR6.out.cell 3
    have f0 := HR6.out.frozen 0
    have f1 := HR6.out.frozen 1
    have f2 := HR6.out.frozen 2
    have f3 := HR6.out.frozen 3
    have hrl := HR6.out.lt
    have hrw : ¬ w.heap.size + 1 = w6.heap.size := by omega
    clear hz6
    go_wp2_with fail
    refine bodyPost_ret (v := .agg #[.int .i64 0, .slice (some ⟨w6.heap.size, 0, none⟩) 1 1, .int .i64 0, .int .u64 0]) (by simp [results, Try.results24, go_sem, r0, r1, r2, r3, hrl]) rfl ?_
    have hm : w.heap.size ≤ w.heap.size + 1 ∧ w.heap.size + 1 < W.heap.size := ⟨Nat.le_succ _, HI.out.res.lt⟩
    have g0 : Fr (fun k => w.heap.size ≤ k ∧ k < W.heap.size) w6 w6 := Fr.refl _ _
    have g1 := g0.setCell (a := ⟨w.heap.size + 1, 0, none⟩) (.inl hm) (.int .i64 0)
    have g2 := g1.setCell (a := ⟨w.heap.size + 1, 1, none⟩) (.inl hm) (.slice (some ⟨w6.heap.size, 0, none⟩) 1 1)
    have g3 := g2.setCell (a := ⟨w.heap.size + 1, 2, none⟩) (.inl hm) (.int .i64 0)
    have g4 := g3.setCell (a := ⟨w.heap.size + 1, 3, none⟩) (.inl hm) (.int .u64 0)
    have hs7 : ((((w6.setCell ⟨w.heap.size + 1, 0, none⟩ (.int .i64 0)).setCell ⟨w.heap.size + 1, 1, none⟩ (.slice (some ⟨w6.heap.size, 0, none⟩) 1 1)).setCell ⟨w.heap.size + 1, 2, none⟩ (.int .i64 0)).setCell ⟨w.heap.size + 1, 3, none⟩ (.int .u64 0)).heap.size = w6.heap.size := by simp [World.setCell]
    generalize ((((w6.setCell ⟨w.heap.size + 1, 0, none⟩ (.int .i64 0)).setCell ⟨w.heap.size + 1, 1, none⟩ (.slice (some ⟨w6.heap.size, 0, none⟩) 1 1)).setCell ⟨w.heap.size + 1, 2, none⟩ (.int .i64 0)).setCell ⟨w.heap.size + 1, 3, none⟩ (.int .u64 0)) = w7 at *
    have hsz := HI.out.bel.size
    have hzz := HP5.out.2.size
    have hrow := World.ownsRow_lit (base := w.heap.size) (e := 55) (size := 3) w7 #[.int .i64 s.head.flow, .int .i64 s.head.len, .int .i64 s.head.mark] 1 (by omega) (by decide) rfl
    rw [hs7] at hrow
    have g5 := g4.alloc (.cells #[.int .i64 s.head.flow, .int .i64 s.head.len, .int .i64 s.head.mark] 55)
    exact RetPost.row (r := ⟨0, [s.head], 0, 0⟩) (m := ⟨s.serve, served + 1⟩) HI.out.old HI.out.bel HP5.out g5 (Nat.le_refl _) hrow
end Go.Proofs.Ytfgfjnlkgadkhaa
