/- Several texts in one: MadeW Ordr Awk15 CallsL Lx15 Bulk. -/
import Derived.Test.YtdjooacjjnjfmaaGreatJz
import Derived.Deep.CutRange
import Derived.Test.YtdjooacjjnjfmaaGreatGs
import Derived.Test.YtdjooacjjnjfmaaGreatGx
import Derived.Test.YtdjooacjjnjfmaaGreatIy
import Derived.Test.YtdjooacjjnjfmaaGreatGo
import Derived.Test.YtdjooacjjnjfmaaGreatGq
import Derived.Test.YtdjooacjjnjfmaaGreatGk
import Derived.Test.YtdjooacjjnjfmaaGreatRows
import Derived.Test.YtdjooacjjnjfmaaGreatGf
-- law15's Made: the walk.
section
namespace Go.Proofs.YtdjooacjjnjfmaaGreat
set_option linter.unusedVariables false
set_option linter.unusedSimpArgs false
set_option maxRecDepth 20000
open Go.RowKit Go.Proofs.YtdjooacjjnjfmaaGreatMem Go.Proofs.YtdjooacjjnjfmaaGreatMapK Go.Proofs.YtdjooacjjnjfmaaGreatLin H

theorem fr_belowB {B : Nat} {w w' : World} (h : Below B w w') : Fr (fun k => B ≤ k) w w' := ⟨h.os, h.tape, h.output, h.size, fun k hk hs => h.block k (by omega)⟩
def madeN (cs : List CallS) (most : Nat) : Nat := min (cs.length + 2) most
def madeS (c : Cfg) (cs : List CallS) (ws rs : List Int) (most : Nat) : MkS := mkAll c (readyL 2 ++ cs) ws rs (madeN cs most) (madeN cs most)
def MadePost (X : List DoneS) (w : World) (e : Ending) (w' : World) : Prop := ∃ ao cap l, e = .returned (.slice ao l.length cap) ∧ OwnDs w' w.heap.size (.slice ao l.length cap) l ∧ l.map DoneS.bare = X ∧ Below w.heap.size w w'
/-- The call's box is made: what it told lies in it; its span is not yet. -/
def MxP (w : World) (x : Nat) (c : Cfg) (A N R : Nat) (rc : List Value) (s : MkS) (l : List DoneS) (v : Value) (d : CallS) (q : Nat) (s20 : Value) (wx : World) : Prop :=
  ∃ X y, s20 = .pointer (some ⟨X, 0, none⟩) ∧ BoxD wx X y 42 ∧ y.bare = doneM q (s.n q) 0 0 d (s.m.doo c d).2 ∧ wx.ownsRow w.heap.size 59 3 (.slice y.ao y.len y.cap) y.len (pkC y.l) ∧
    MkI w wx x c A N R rc (fun k => k = X ∨ (Value.slice y.ao y.len y.cap).ownBlock = some k) ⟨s.a, s.n, (s.m.doo c d).1, s.out⟩ l v ∧ w.heap.size ≤ X ∧ (∀ k, v.ownBlock = some k → k ≠ X)
set_option maxHeartbeats 4000000 in
theorem made15_any (c : Cfg) (hc : CfgR c) (ao a1 a2 : Option Addr) (n0 n1 n2 c0 c1 c2 : Nat) (cs : List CallS) (ws rs : List Int) (most : Nat) (w : World) (h : RdC w ao n0 c0 cs) (hw : RdI w a1 n1 c1 ws) (hr : RdI w a2 n2 c2 rs) (hn : n0 ≤ 1048576) (hm : most ≤ 12) :
    Calls Tryz.prog 11 #[.agg #[.int .i64 c.shards, .int .i64 c.slots, .int .i64 c.workers, .int .i64 c.width, .int .u64 c.unit], .slice ao n0 c0, .slice a1 n1 c1, .slice a2 n2 c2, .int .i64 most] w (MadePost (madeS c cs ws rs most).out w) := by
  have B := Blk.new w c.cells 24
  have hb := below1 w (.cells #[.int .i64 c.shards, .int .i64 c.slots, .int .i64 c.workers, .int .i64 c.width, .int .u64 c.unit] 24)
  have HB := Lib.hid hb
  have HC := Lib.hid h
  have HW := Lib.hid hw
  have HR := Lib.hid hr
  have s1 := hw.small
  have s2 := hr.small
  have hcl := h.len
  have HBX : Hid (Blk (w.alloc (.cells #[.int .i64 c.shards, .int .i64 c.slots, .int .i64 c.workers, .int .i64 c.width, .int .u64 c.unit] 24)) w.heap.size c.cells 24) := Lib.hid B
  clear B hb h hw hr
  go_enter Tryz.func11, Tryz.ntmps11
  go_upto_region 1 with fail
  generalize (w.alloc (.cells #[.int .i64 c.shards, .int .i64 c.slots, .int .i64 c.workers, .int .i64 c.width, .int .u64 c.unit] 24)) = W at *
  have b0 : W.cell? ⟨w.heap.size, 0, none⟩ = some (.int .i64 c.shards) := HBX.out.cell 0
  have b1 : W.cell? ⟨w.heap.size, 1, none⟩ = some (.int .i64 c.slots) := HBX.out.cell 1
  have b2 : W.cell? ⟨w.heap.size, 2, none⟩ = some (.int .i64 c.workers) := HBX.out.cell 2
  have b3 : W.cell? ⟨w.heap.size, 3, none⟩ = some (.int .i64 c.width) := HBX.out.cell 3
  have b4 : W.cell? ⟨w.heap.size, 4, none⟩ = some (.int .u64 c.unit) := HBX.out.cell 4
  have bl := HBX.out.lt
  go_wp2_with fail
  refine (newModel_any c _).mono ?_
  rintro e w1 ⟨x, rfl, rm, hb1⟩
  have RM := Lib.hid rm
  have HB1 := Lib.hid (HB.out.trans (hb1.mono HB.out.size))
  have z1 : W.heap.size ≤ w1.heap.size := hb1.size
  clear hb1 rm b0 b1 b2 b3 b4 bl HBX
  go_upto_region 4 with fail
  have hw2 : Below w1.heap.size w1 ((w1.alloc (.cells #[.int .i64 0, .int .i64 0, .int .i64 0] 65)).alloc (.cells #[.int .i64 0, .int .i64 0, .int .i64 0] 65)) := below2 w1 _ _
  have bA : Blk ((w1.alloc (.cells #[.int .i64 0, .int .i64 0, .int .i64 0] 65)).alloc (.cells #[.int .i64 0, .int .i64 0, .int .i64 0] 65)) w1.heap.size (arr3 mk0.a) 65 := (Blk.new w1 (arr3 mk0.a) 65).alloc _
  have bN : Blk ((w1.alloc (.cells #[.int .i64 0, .int .i64 0, .int .i64 0] 65)).alloc (.cells #[.int .i64 0, .int .i64 0, .int .i64 0] 65)) (w1.heap.size + 1) (arr3 mk0.n) 65 := by
    have := Blk.new (w1.alloc (.cells #[.int .i64 0, .int .i64 0, .int .i64 0] 65)) (arr3 mk0.n) 65
    rwa [show (w1.alloc (.cells #[.int .i64 0, .int .i64 0, .int .i64 0] 65)).heap.size = w1.heap.size + 1 by simp] at this
  obtain ⟨A, hA⟩ : ∃ A, w1.heap.size = A := ⟨_, rfl⟩
  obtain ⟨N, hN⟩ : ∃ N, w1.heap.size + 1 = N := ⟨_, rfl⟩
  rw [hN] at bN
  try rw [hN]
  rw [hA] at bA
  try rw [hA]
  have HA := Lib.hid hA
  have HN := Lib.hid hN
  clear hA hN
  obtain ⟨wB, hWB⟩ : ∃ wB, (w1.alloc (.cells #[.int .i64 0, .int .i64 0, .int .i64 0] 65)).alloc (.cells #[.int .i64 0, .int .i64 0, .int .i64 0] 65) = wB := ⟨_, rfl⟩
  rw [hWB] at bA bN hw2
  rw [hWB]
  have zB : wB.heap.size = w1.heap.size + 2 := by rw [← hWB]; simp
  clear hWB
  have BA := Lib.hid bA
  have BN := Lib.hid bN
  have HBB := Lib.hid (HB1.out.trans (hw2.mono HB1.out.size))
  have RMB := Lib.hid (RM.out.below hw2)
  clear hw2 bA bN RM
  go_wp2_with fail
  refine (ready_any 2 (by omega) _).mono ?_
  rintro e w3 ⟨a3, c3, rfl, row, hb3⟩
  have HB3 := Lib.hid (HBB.out.trans (hb3.mono HBB.out.size))
  have hcs := HC.out.below HB3.out
  have z3 := hb3.size
  have BA3 := Lib.hid (BA.out.below hb3)
  have BN3 := Lib.hid (BN.out.below hb3)
  have RM3 := Lib.hid (RMB.out.below hb3)
  have hnews : ∀ (j : Nat) (u : Value), (callsC cs)[j]? = some u → ∃ b off, ao = some ⟨b, off, none⟩ ∧ w3.cell? ⟨b, off + j, none⟩ = some u := fun j u hu => by
    obtain ⟨b, o, e1, -, e2⟩ := hcs.rd.at_ j u hu
    exact ⟨b, o, e1, e2⟩
  have hone := callsC_one cs
  have hclen : (callsC cs).length = n0 * 4 := by rw [callsC_length, hcl]
  have hnil := hcs.rd.nil
  have hB4 := HB3.out
  have hle : wB.heap.size ≤ w3.heap.size := z3
  clear hb3 BA BN RMB HBB hcs
  go_wp2_with ((at_builtin; refine ap_src w3 ECall rfl _ _ rfl wB.heap.size _ 2 _ rfl row hle ao n0 c0 (callsC cs) rfl hnil hclen hnews hone (by omega) ?_; intro v' w4 hown4 hg4 hb4 hfr4))
  obtain ⟨NL, hNL⟩ : ∃ NL, 2 + n0 = NL := ⟨_, rfl⟩
  rw [hNL] at hown4
  obtain ⟨ra, cap0, rfl⟩ := owns_slice hown4
  rw [← callsC_append] at hown4
  have hall : ∀ d ∈ readyL 2 ++ cs, d.Ok := fun d hd => by
    rcases List.mem_append.1 hd with hd | hd
    · exact readyL_ok 2 (by omega) d hd
    · exact HC.out.ok d hd
  have hrd : RdC w4 ra NL cap0 (readyL 2 ++ cs) := ⟨owns_rdS hown4 (callsC_one _), by rw [List.length_append, readyL_len, hcl]; exact hNL, hall⟩
  have hbl4 : Below w3.heap.size w3 w4 ∨ True := .inr trivial
  obtain ⟨R, o, rfl, hRlt, -⟩ := hrd.cells (k := 0) (by omega)
  have hRge := (owns_lt hown4 R rfl).1
  obtain ⟨cur, hcur⟩ := own_heap hown4 (k := R) rfl
  have bR : Blk w4 R cur.toList 40 := by unfold Blk; rw [hcur]
  have hm0 : MkI w w4 x c A N R cur.toList (fun _ => False) mk0 [] (.slice none 0 0) := by
    have hA := HA.out
    have hN := HN.out
    refine ⟨OwnDs.nil _ _, rfl, BA3.out.of_eq (hb4.block A (by omega)), BN3.out.of_eq (hb4.block N (by omega)), bR, ⟨.new, _, MSim.new, RM3.out.fr (fr_belowB hb4) fun k hk hk2 => ?_, fun k hk => ?_, ?_, ?_, ?_, fun k hk => ?_, fun k hk => ?_, fun k hk => hk.elim⟩, fun k hk => hk.elim, ?_, ?_, by omega, HB3.out.trans (hb4.mono ?_)⟩
    · omega
    · have := HB.out.size; omega
    · omega
    · omega
    · omega
    · cases hk
    · obtain ⟨d, hd, -⟩ := hk; cases hd
    · have := HB.out.size; omega
    · have := HB.out.size; omega
    · have := HB.out.size; omega
  have HM0 := Lib.hid hm0
  have hoz : o = 0 := by
    rcases hown4.2 with ⟨hv, _⟩ | ⟨g, cap', cur', hv, _⟩
    · cases hv
    · cases hv; rfl
  subst hoz
  have HCELL : Hid (∀ k, k < NL → ∀ w', Blk w' R cur.toList 40 → w'.cell? ⟨R, k * 4, none⟩ = some (.int .i64 (nthC (readyL 2 ++ cs) k).op) ∧ w'.cell? ⟨R, k * 4 + 1, none⟩ = some (.int .i64 (nthC (readyL 2 ++ cs) k).flow) ∧ w'.cell? ⟨R, k * 4 + 2, none⟩ = some (.int .i64 (nthC (readyL 2 ++ cs) k).a) ∧ w'.cell? ⟨R, k * 4 + 3, none⟩ = some (.int .i64 (nthC (readyL 2 ++ cs) k).b)) := Lib.hid fun k hk w' hw' => by
    obtain ⟨b, o', e, -, hcc⟩ := hrd.cells hk
    simp only [Option.some.injEq, Addr.mk.injEq, and_true] at e
    obtain ⟨rfl, rfl⟩ := e
    have := hcc w' (by unfold Blk at hw' bR; rw [hw', bR])
    simpa only [Nat.zero_add] using this
  have hall2 := Lib.hid hall
  have hNn : madeN cs most = min NL most := by unfold madeN; rw [hcl, ← hNL]; omega
  have hcap := hrd.rd.le
  have HLEN : Hid ((readyL 2 ++ cs).length = NL) := Lib.hid hrd.len
  clear hm0 hown4 hg4 hb4 hfr4 hrd hall hbl4 hcur bR RM3 BA3 BN3 row hnews hone hclen hnil hB4
  obtain ⟨n, hnn⟩ : ∃ n, min NL most = n := ⟨_, rfl⟩
  have HMS : Hid (madeS c cs ws rs most = mkAll c (readyL 2 ++ cs) ws rs n n) := Lib.hid (by unfold madeS; rw [hNn, hnn])
  have HNN := Lib.hid hnn
  have hn12 : n ≤ 12 := by omega
  have HOK := Lib.hid (mkOk c (readyL 2 ++ cs) ws rs n)
  have HM00 : Hid (mkAll c (readyL 2 ++ cs) ws rs n 0 = mk0) := rfl
  clear hNn hnn
  generalize hcsA : readyL 2 ++ cs = all at *
  clear hcsA
  have HNL : Hid (NL ≤ 1048578) := Lib.hid (by omega)
  clear hNL
  go_wp2_with fail
  go_loopw [12, 16, 17, 18, 19, 20, 21, 22] (fun v12 v16 _ _ _ _ _ _ wr => ∃ (i : Nat) (l : List DoneS), i ≤ n ∧ v16 = .int .i64 i ∧ MkI w wr x c A N R cur.toList (fun _ => False) (mkAll c all ws rs n i) l v12) (fun _ v16 _ _ _ _ _ _ _ => n - (intOf v16).toNat)
  case atStart => exact ⟨0, [], Nat.zero_le _, rfl, by rw [HM00.out]; exact HM0.out⟩
  case round =>
    obtain ⟨i, l, hi, rfl, hmk⟩ := hrel
    have HMK1 := Lib.hid hmk
    have hok := HOK.out i hi
    clear hmk HM0
    by_cases hl : i < n
    · have i1 : (i : Int) < (NL : Int) := by have := HNN.out; omega
      have i2 : (i : Int) < (most : Int) := by have := HNN.out; omega
      obtain ⟨q0, q1, q2, q3⟩ := HCELL.out i (by omega) wr HMK1.out.bR
      have qR := HMK1.out.bR.lt
      have HI : Hid (∀ S, mkAll c all ws rs n i = S → mkAll c all ws rs n (i + 1) = mkRound c all ws rs n S i) := Lib.hid fun S e => by rw [← e]; rfl
      obtain ⟨s, hs⟩ : ∃ s, mkAll c all ws rs n i = s := ⟨_, rfl⟩
      rw [hs] at HMK1 hok
      replace HI := Lib.hid (HI.out s hs)
      clear hs
      have HOK1 := Lib.hid hok
      clear hok
      clear q0 q1 q2 q3
      have qa := HCELL.out i (by omega) wr HMK1.out.bR
      have E0 : Hid (cM0 all i = if 2 ≤ i then callP (nthC all i) else nthC all i) := rfl
      have E1 : Hid (cM all i = if (cM0 all i).op = 5 then { cM0 all i with a := modZ (cM0 all i).a 3 } else cM0 all i) := rfl
      have hdok : (cM all i).Ok := cM_ok (hall2.out _ (List.mem_of_getElem? (nthC_eq (by rw [HLEN.out]; omega))))
      have HDOK := Lib.hid hdok
      clear hdok
      obtain ⟨d0, hd0⟩ : ∃ d0, nthC all i = d0 := ⟨_, rfl⟩
      obtain ⟨d1, hd1⟩ : ∃ d1, cM0 all i = d1 := ⟨_, rfl⟩
      obtain ⟨d2, hd2⟩ : ∃ d2, cM all i = d2 := ⟨_, rfl⟩
      rw [hd0] at qa
      rw [hd0, hd1] at E0
      rw [hd1, hd2] at E1
      rw [hd2] at HDOK
      have HD2 := Lib.hid hd2
      clear hd0 hd1 hd2
      obtain ⟨q0, q1, q2, q3⟩ := qa
      have hz := HMK1.out.bel.size
      have hMD : MkI w (wr.alloc (.cells #[.int .i64 d0.op, .int .i64 d0.flow, .int .i64 d0.a, .int .i64 d0.b] 40)) x c A N R cur.toList (fun k => k = wr.heap.size) s l u12 := HMK1.out.below (below1 _ _) fun k hk => .inr (by subst hk; exact ⟨Nat.le_refl _, by simp⟩)
      have bD : Blk (wr.alloc (.cells #[.int .i64 d0.op, .int .i64 d0.flow, .int .i64 d0.a, .int .i64 d0.b] 40)) wr.heap.size d0.cells 40 := Blk.new wr d0.cells 40
      have HMD := Lib.hid hMD
      have HBD := Lib.hid bD
      clear hMD bD
      go_upto_if 44 with fail
      generalize wr.alloc (.cells #[.int .i64 d0.op, .int .i64 d0.flow, .int .i64 d0.a, .int .i64 d0.b] 40) = W1 at *
      obtain ⟨D, hD⟩ : ∃ D, wr.heap.size = D := ⟨_, rfl⟩
      rw [hD] at HMD HBD hz qR
      try rw [hD]
      clear hD q0 q1 q2 q3 HMK1
      have hDR : D ≠ R := by omega
      go_cut [] from 28 to 147 (fun wx => MkI w wx x c A N R cur.toList (fun k => k = D) s l u12 ∧ Blk wx D d1.cells 40)
      case first =>
        by_cases h2 : 2 ≤ i
        · have g2 : (2 : Int) ≤ (i : Int) := by omega
          have E : Hid (d1 = callP d0) := Lib.hid (by rw [E0.out, if_pos h2])
          have t0 : W1.cell? ⟨D, 0, none⟩ = some (.int .i64 d0.op) := HBD.out.cell 0
          have t1 : W1.cell? ⟨D, 1, none⟩ = some (.int .i64 d0.flow) := HBD.out.cell 1
          have t2 : W1.cell? ⟨D, 2, none⟩ = some (.int .i64 d0.a) := HBD.out.cell 2
          have t3 : W1.cell? ⟨D, 3, none⟩ = some (.int .i64 d0.b) := HBD.out.cell 3
          have tl := HBD.out.lt
          clear h2
          go_wp2_with fail
          refine (callP_any d0 _).mono ?_
          rintro e w5 ⟨rfl, hb5⟩
          have HM5 := Lib.hid (HMD.out.below (K' := fun k => k = D) hb5 fun k hk => .inl hk)
          have HB5 := Lib.hid (HBD.out.below hb5)
          have t0 : w5.cell? ⟨D, 0, none⟩ = some (.int .i64 d0.op) := HB5.out.cell 0
          have t1 : w5.cell? ⟨D, 1, none⟩ = some (.int .i64 d0.flow) := HB5.out.cell 1
          have t2 : w5.cell? ⟨D, 2, none⟩ = some (.int .i64 d0.a) := HB5.out.cell 2
          have t3 : w5.cell? ⟨D, 3, none⟩ = some (.int .i64 d0.b) := HB5.out.cell 3
          have z0 := HB5.out.frozen 0
          have z1 := HB5.out.frozen 1
          have z2 := HB5.out.frozen 2
          have z3 := HB5.out.frozen 3
          have tl := HB5.out.lt
          clear hb5
          rw [← E.out]
          go_wp2
          go_meet
          have b1 := HB5.out.set 0 (.int .i64 d1.op)
          have b2 := b1.set 1 (.int .i64 d1.flow)
          have b3 := b2.set 2 (.int .i64 d1.a)
          have b4 := b3.set 3 (.int .i64 d1.b)
          have m1 := HM5.out.putD (i := 0) HB5.out rfl hz hDR (.int .i64 d1.op)
          have m2 := m1.putD (i := 1) b1 rfl hz hDR (.int .i64 d1.flow)
          have m3 := m2.putD (i := 2) b2 rfl hz hDR (.int .i64 d1.a)
          have m4 := m3.putD (i := 3) b3 rfl hz hDR (.int .i64 d1.b)
          exact ⟨m4, b4⟩
        · have g2 : ¬ (2 : Int) ≤ (i : Int) := by omega
          have E : Hid (d1 = d0) := Lib.hid (by rw [E0.out, if_neg h2])
          clear h2
          go_wp2
          go_meet
          exact ⟨HMD.out, by rw [E.out]; exact HBD.out⟩
      case rest =>
      obtain ⟨hM, hB⟩ := hcut
      replace HMD := Lib.hid hM
      replace HBD := Lib.hid hB
      clear hM hB E0
      have t0 : wc.cell? ⟨D, 0, none⟩ = some (.int .i64 d1.op) := HBD.out.cell 0
      have tl := HBD.out.lt
      go_upto_if 49 with fail
      go_cut [] from 28 to 147 (fun wx => MkI w wx x c A N R cur.toList (fun k => k = D) s l u12 ∧ Blk wx D d2.cells 40)
      case first =>
        by_cases h5 : d1.op = 5
        · have g5 : (d1.op == 5) = true := by simp [h5]
          have E : Hid (d2 = { d1 with a := modZ d1.a 3 }) := Lib.hid (by rw [E1.out, if_pos h5])
          have t2 : wc.cell? ⟨D, 2, none⟩ = some (.int .i64 d1.a) := HBD.out.cell 2
          have z2 := HBD.out.frozen 2
          clear h5
          go_wp2_with fail
          refine (mod_any d1.a 3 (by omega) (by omega) _).mono ?_
          rintro e w' ⟨rfl, rfl⟩
          go_wp2
          go_meet
          exact ⟨HMD.out.putD (i := 2) HBD.out rfl hz hDR _, by rw [E.out]; exact HBD.out.set 2 _⟩
        · have g5 : (d1.op == 5) = false := by simpa using h5
          have E : Hid (d2 = d1) := Lib.hid (by rw [E1.out, if_neg h5])
          clear h5
          go_wp2
          go_meet
          exact ⟨HMD.out, by rw [E.out]; exact HBD.out⟩
      case rest =>
      obtain ⟨hM, hB⟩ := hcut
      replace HMD := Lib.hid hM
      replace HBD := Lib.hid hB
      clear hM hB E1 t0 tl
      have EW : Hid (wM ws i = if i < ws.length then (modZ (nth ws i) 3).toNat else i % 3) := rfl
      have ER : Hid (rM rs i = if i < rs.length then modZ (nth rs i) 70 else 0) := rfl
      have hw3 := wM_lt ws i
      have hr70 := rM_bd rs i
      have hwl := HW.out.len
      have hrl := HR.out.len
      rw [hwl] at EW
      rw [hrl] at ER
      obtain ⟨q, hq⟩ : ∃ q, wM ws i = q := ⟨_, rfl⟩
      obtain ⟨r, hrr⟩ : ∃ r, rM rs i = r := ⟨_, rfl⟩
      rw [hq] at EW hw3
      rw [hrr] at ER hr70
      have HQ := Lib.hid hq
      have HRR := Lib.hid hrr
      clear hq hrr hwl hrl
      have hi0 : (0 : Int) ≤ (i : Int) := by omega
      go_upto_if 59 with fail
      go_cut [18] from 28 to 147 (fun s18 wx => s18 = .int .i64 (q : Int) ∧ MkI w wx x c A N R cur.toList (fun k => k = D) s l u12 ∧ Blk wx D d2.cells 40)
      case first =>
        by_cases h1 : i < n1
        · have g1 : (i : Int) < (n1 : Int) := by omega
          have hwm := HW.out.below (B := 0) HMD.out.bel
          obtain ⟨b, off, e1, hbl, hcc⟩ := (HW.out.at_ i h1)
          have hc2 := (HMD.out.bel.cell (p := ⟨b, off + i, none⟩) hbl).trans hcc
          subst e1
          have hbl2 : b < wc.heap.size := Nat.lt_of_lt_of_le hbl HMD.out.bel.size
          have E : Hid (modZ (nth ws i) 3 = (q : Int)) := Lib.hid (by rw [EW.out, if_pos h1]; have := modZ_bd (nth ws i) (n := 3) (by omega); omega)
          clear hwm hcc
          go_wp2_with fail
          refine (mod_any (nth ws i) 3 (by omega) (by omega) _).mono ?_
          rintro e w' ⟨rfl, rfl⟩
          rw [E.out]
          go_wp2
          go_meet
          exact ⟨rfl, HMD.out, HBD.out⟩
        · have g1 : ¬ (i : Int) < (n1 : Int) := by omega
          have E : Hid (q = i % 3) := Lib.hid (by rw [EW.out, if_neg h1])
          clear h1
          go_wp2
          go_meet
          exact ⟨by rw [E.out]; simp, HMD.out, HBD.out⟩
      case rest =>
      obtain ⟨rfl, hM, hB⟩ := hcut
      replace HMD := Lib.hid hM
      replace HBD := Lib.hid hB
      clear hM hB EW
      go_upto_if 68 with fail
      go_cut [19] from 28 to 147 (fun s19 wx => s19 = .int .i64 r ∧ MkI w wx x c A N R cur.toList (fun k => k = D) s l u12 ∧ Blk wx D d2.cells 40)
      case first =>
        by_cases h1 : i < n2
        · have g1 : (i : Int) < (n2 : Int) := by omega
          obtain ⟨b, off, e1, hbl, hcc⟩ := (HR.out.at_ i h1)
          have hc2 := (HMD.out.bel.cell (p := ⟨b, off + i, none⟩) hbl).trans hcc
          subst e1
          have hbl2 : b < wc.heap.size := Nat.lt_of_lt_of_le hbl HMD.out.bel.size
          have E : Hid (modZ (nth rs i) 70 = r) := Lib.hid (by rw [ER.out, if_pos h1])
          clear hcc
          go_wp2_with fail
          refine (mod_any (nth rs i) 70 (by omega) (by omega) _).mono ?_
          rintro e w' ⟨rfl, rfl⟩
          rw [E.out]
          go_wp2
          go_meet
          exact ⟨rfl, HMD.out, HBD.out⟩
        · have g1 : ¬ (i : Int) < (n2 : Int) := by omega
          have E : Hid (r = 0) := Lib.hid (by rw [ER.out, if_neg h1])
          clear h1
          go_wp2
          go_meet
          exact ⟨by rw [E.out], HMD.out, HBD.out⟩
      case rest =>
      obtain ⟨rfl, hM, hB⟩ := hcut
      replace HMD := Lib.hid hM
      replace HBD := Lib.hid hB
      clear hM hB ER
      go_upto_region 18 with fail
      go_cut [20] from 28 to 147 (fun s20 wx => MxP w x c A N R cur.toList s l u12 d2 q s20 wx)
      case first =>
        have hn3 : wc.cell? ⟨N, q, none⟩ = some (.int .i64 (s.n q)) := (HMD.out.bN.cell q).trans (arr3_at _ hw3)
        have t0 : wc.cell? ⟨D, 0, none⟩ = some (.int .i64 d2.op) := HBD.out.cell 0
        have t1 : wc.cell? ⟨D, 1, none⟩ = some (.int .i64 d2.flow) := HBD.out.cell 1
        have t2 : wc.cell? ⟨D, 2, none⟩ = some (.int .i64 d2.a) := HBD.out.cell 2
        have t3 : wc.cell? ⟨D, 3, none⟩ = some (.int .i64 d2.b) := HBD.out.cell 3
        have q3 : (q : Int) < 3 := by omega
        have HDO := fun (W : World) (K : Nat → Prop) (hM : MkI w W x c A N R cur.toList K s l u12) => hM.doo (HOK1.out.good hall2.out hc.unit (by rw [HLEN.out]; have := HNN.out; omega)) (show i ≤ 1000000 by omega) hc d2 HDOK.out
        obtain ⟨m2, rr, hdo⟩ : ∃ m2 rr, s.m.doo c d2 = (m2, rr) := ⟨_, _, rfl⟩
        rw [hdo] at HDO
        dsimp only at HDO
        have HDOH := Lib.hid HDO
        have HDOE := Lib.hid hdo
        clear HDO hdo
        have hDl := HBD.out.lt
        have hNl := HMD.out.bN.lt
        have hDN : D ≠ N := fun e => blk_ne' HBD.out HMD.out.bN (by decide) e
        refine wp_region_held_drew (S := fun w' => w'.cell? ⟨N, q, none⟩ = some (.int .i64 (s.n q)) ∧ w'.cell? ⟨D, 0, none⟩ = some (.int .i64 d2.op) ∧ w'.cell? ⟨D, 1, none⟩ = some (.int .i64 d2.flow) ∧ w'.cell? ⟨D, 2, none⟩ = some (.int .i64 d2.a) ∧ w'.cell? ⟨D, 3, none⟩ = some (.int .i64 d2.b)) (by kernel_rfl) ?_ (fun hHeld => ?_)
        · exact ⟨hn3, t0, t1, t2, t3⟩
        refine wpAnyH_take (i := 0) (v := ?_) rfl (by kernel_rfl) (by kernel_rfl) (by kernel_rfl) (fun _ _ _ h => h) (Or.inl ⟨by rfl, ?_⟩) (by assumption) ?_
        rotate_left
        · intro w hSw
          (try dsimp only at hSw)
          first | (go_simp; done) | (go_simp; with_reducible rfl)
        try simp only [List.getElem_toArray, List.getElem_cons_succ, List.getElem_cons_zero, Act.put, List.setIfInBounds_toArray, List.set_cons_zero, List.set_cons_succ]
        refine wpAnyH_take (i := 1) (v := ?_) rfl (by kernel_rfl) (by kernel_rfl) (by kernel_rfl) (fun _ _ _ h => h) (Or.inl ⟨by rfl, ?_⟩) (by assumption) ?_
        rotate_left
        · intro w hSw
          (try dsimp only at hSw)
          first | (go_simp; done) | (go_simp; with_reducible rfl)
        try simp only [List.getElem_toArray, List.getElem_cons_succ, List.getElem_cons_zero, Act.put, List.setIfInBounds_toArray, List.set_cons_zero, List.set_cons_succ]
        refine wpAnyH_take (i := 2) (v := ?_) rfl (by kernel_rfl) (by kernel_rfl) (by kernel_rfl) (fun _ _ _ h => h) (Or.inl ⟨by rfl, ?_⟩) (by assumption) ?_
        rotate_left
        · intro w hSw
          (try dsimp only at hSw)
          first | (go_simp; done) | (go_simp; with_reducible rfl)
        try simp only [List.getElem_toArray, List.getElem_cons_succ, List.getElem_cons_zero, Act.put, List.setIfInBounds_toArray, List.set_cons_zero, List.set_cons_succ]
        refine wpAnyH_take (i := 3) (v := ?_) rfl (by kernel_rfl) (by kernel_rfl) (by kernel_rfl) (fun _ _ _ h => h) (Or.inl ⟨by rfl, ?_⟩) (by assumption) ?_
        rotate_left
        · intro w hSw
          (try dsimp only at hSw)
          first | (go_simp; done) | (go_simp; with_reducible rfl)
        try simp only [List.getElem_toArray, List.getElem_cons_succ, List.getElem_cons_zero, Act.put, List.setIfInBounds_toArray, List.set_cons_zero, List.set_cons_succ]
        refine wpAnyH_take (i := 4) (v := ?_) rfl (by kernel_rfl) (by kernel_rfl) (by kernel_rfl) (fun _ _ _ h => h) (Or.inl ⟨by rfl, ?_⟩) (by assumption) ?_
        rotate_left
        · intro w hSw
          (try dsimp only at hSw)
          first | (go_simp; done) | (go_simp; with_reducible rfl)
        try simp only [List.getElem_toArray, List.getElem_cons_succ, List.getElem_cons_zero, Act.put, List.setIfInBounds_toArray, List.set_cons_zero, List.set_cons_succ]
        refine wpAnyH_take (i := 5) (v := ?_) rfl (by kernel_rfl) (by kernel_rfl) (by kernel_rfl) (fun _ _ _ h => h) (Or.inl ⟨by rfl, ?_⟩) (by assumption) ?_
        rotate_left
        · intro w hSw
          (try dsimp only at hSw)
          first | (go_simp; done) | (go_simp; with_reducible rfl)
        try simp only [List.getElem_toArray, List.getElem_cons_succ, List.getElem_cons_zero, Act.put, List.setIfInBounds_toArray, List.set_cons_zero, List.set_cons_succ]
        refine wpAnyH_take (i := 6) (v := ?_) rfl (by kernel_rfl) (by kernel_rfl) (by kernel_rfl) (fun _ _ _ h => h) (Or.inl ⟨by rfl, ?_⟩) (by assumption) ?_
        rotate_left
        · intro w hSw
          (try dsimp only at hSw)
          first | (go_simp; done) | (go_simp; with_reducible rfl)
        try simp only [List.getElem_toArray, List.getElem_cons_succ, List.getElem_cons_zero, Act.put, List.setIfInBounds_toArray, List.set_cons_zero, List.set_cons_succ]
        refine wpAnyH_ready (rs := [7, 9]) (by kernel_rfl) (by simp) ?_
        refine AllReadyH.cons rfl (fun K hK => ?_) (AllReadyH.cons rfl (fun K hK => ?_) AllReadyH.nil)
        · go_simp
          go_at_call 23
          refine (HDOH.out _ (fun k => k = D) (HMD.out.below (Below.refl _ _).drew fun k hk => .inl hk)).mono ?_
          rintro e2 w4 ⟨ao4, cap4, rfl, row4, m4, keep4, z4, fresh4⟩
          have B4 : Blk w4 D d2.cells 40 := HBD.out.of_eq (keep4 D rfl)
          have hK4 : ∀ w', Below w4.heap.size w4 w' → w'.cell? ⟨N, q, none⟩ = some (.int .i64 (s.n q)) ∧ w'.cell? ⟨D, 0, none⟩ = some (.int .i64 d2.op) ∧ w'.cell? ⟨D, 1, none⟩ = some (.int .i64 d2.flow) ∧ w'.cell? ⟨D, 2, none⟩ = some (.int .i64 d2.a) ∧ w'.cell? ⟨D, 3, none⟩ = some (.int .i64 d2.b) := fun w' hw =>
            ⟨((m4.bN.below hw).cell q).trans (arr3_at _ hw3), (B4.below hw).cell 0, (B4.below hw).cell 1, (B4.below hw).cell 2, (B4.below hw).cell 3⟩
          have HK4 := Lib.hid hK4
          have HM4 := Lib.hid m4
          have HR4 := Lib.hid row4
          have HB4 := Lib.hid B4
          clear hK4 m4 row4 B4 keep4
          refine hK.out _ _ (HK4.out _ (Below.refl _ _)) (fun hHeld => ?_)
          clear hK K
          try simp only [List.getElem_toArray, List.getElem_cons_succ, List.getElem_cons_zero, Act.put, List.setIfInBounds_toArray, List.set_cons_zero, List.set_cons_succ]
          refine wpAnyH_take (i := 8) (v := ?_) rfl (by kernel_rfl) (by kernel_rfl) (by kernel_rfl) (fun _ _ _ h => h) (Or.inl ⟨by rfl, ?_⟩) (by assumption) ?_
          rotate_left
          · intro w hSw
            (try dsimp only at hSw)
            first | (go_simp; done) | (go_simp; with_reducible rfl)
          try simp only [List.getElem_toArray, List.getElem_cons_succ, List.getElem_cons_zero, Act.put, List.setIfInBounds_toArray, List.set_cons_zero, List.set_cons_succ]
          refine wpAnyH_ready (rs := [9]) (by kernel_rfl) (by simp) ?_
          refine AllReadyH.cons rfl (fun K hK => ?_) AllReadyH.nil
          go_simp
          refine hK.out _ _ (HK4.out _ (below1 _ _)) (fun hHeld => ?_)
          clear hK K
          try simp only [List.getElem_toArray, List.getElem_cons_succ, List.getElem_cons_zero, Act.put, List.setIfInBounds_toArray, List.set_cons_zero, List.set_cons_succ]
          refine wpAnyH_ready (rs := [10]) (by kernel_rfl) (by simp) ?_
          refine AllReadyH.cons rfl (fun K hK => ?_) AllReadyH.nil
          go_simp
          refine hK.out _ _ (HK4.out _ (below1 _ _)) (fun hHeld => ?_)
          clear hK K
          try simp only [List.getElem_toArray, List.getElem_cons_succ, List.getElem_cons_zero, Act.put, List.setIfInBounds_toArray, List.set_cons_zero, List.set_cons_succ]
          refine wpAnyH_done (by kernel_rfl) ?_ _
          go_wp2_with fail
          go_meet
          unfold MxP
          rw [HDOE.out]
          refine ⟨w4.heap.size, ⟨q, s.n q, d2.op, d2.flow, d2.a, d2.b, rr.e, ao4, rr.ps.length, cap4, rr.n, rr.v, 0, 0, rr.ps.map pkS⟩, rfl, one_boxD w4 ⟨q, s.n q, d2.op, d2.flow, d2.a, d2.b, rr.e, ao4, rr.ps.length, cap4, rr.n, rr.v, 0, 0, rr.ps.map pkS⟩ _, rfl, ?_, ?_, ?_, ?_⟩
          · have := owns_below (B := 0) HR4.out (below1 w4 (.cells #[.int .i64 q, .int .i64 (s.n q), .int .i64 d2.op, .int .i64 d2.flow, .int .i64 d2.a, .int .i64 d2.b, .int .i64 rr.e, .slice ao4 rr.ps.length cap4, .int .i64 rr.n, .int .u64 rr.v, .int .i64 0, .int .i64 0] 42))
            rw [show pkC (rr.ps.map pkS) = pks rr.ps by rw [pkC_pks, pkL_pkS]]
            exact this
          · refine HM4.out.below (below1 _ _) fun k hk => ?_
            rcases hk with hk | hk
            · exact .inr ⟨by omega, by subst hk; simp⟩
            · exact .inl (.inr hk)
          · have := HM4.out.bel.size; exact this
          · intro k hk
            have := (owns_lt HM4.out.own.1 k hk).2
            omega
        · go_simp
          have hb6 : Below wc.heap.size wc (wc.alloc (.cells #[.int .i64 0, .int .i64 0, .int .i64 0, .int .i64 0, .int .i64 0, .int .i64 0, .int .i64 0, .slice none 0 0, .int .i64 0, .int .u64 0, .int .i64 0, .int .i64 0] 42)).drew := (below1 _ _).drew
          have B6 : BoxD (wc.alloc (.cells #[.int .i64 0, .int .i64 0, .int .i64 0, .int .i64 0, .int .i64 0, .int .i64 0, .int .i64 0, .slice none 0 0, .int .i64 0, .int .u64 0, .int .i64 0, .int .i64 0] 42)).drew wc.heap.size DoneS.zero 42 := (one_boxD wc DoneS.zero 42).drew
          have M6 := HMD.out.below (K' := fun k => k = D ∨ k = wc.heap.size) hb6 fun k hk => hk.imp id fun hk => by subst hk; exact ⟨Nat.le_refl _, B6.lt⟩
          have D6 := HBD.out.below hb6
          have n6 := (M6.bN.cell q).trans (arr3_at _ hw3)
          refine hK.out _ _ ⟨n6, D6.cell 0, D6.cell 1, D6.cell 2, D6.cell 3⟩ (fun hHeld => ?_)
          clear hK K
          try simp only [List.getElem_toArray, List.getElem_cons_succ, List.getElem_cons_zero, Act.put, List.setIfInBounds_toArray, List.set_cons_zero, List.set_cons_succ]
          have HM6 := Lib.hid M6
          have HD6 := Lib.hid D6
          have HB6 := Lib.hid B6
          have hX0 : Hid (w.heap.size ≤ wc.heap.size) := Lib.hid HMD.out.bel.size
          have hXv : Hid (∀ k, u12.ownBlock = some k → k ≠ wc.heap.size) := Lib.hid fun k hk => by have := (owns_lt HMD.out.own.1 k hk).2; omega
          have hXD : wc.heap.size ≠ D := by omega
          have hXN : wc.heap.size ≠ N := by omega
          clear M6 D6 n6 B6 hb6 hn3 t0 t1 t2 t3 HMD HBD hDl hNl
          refine wpAnyH_ready (rs := [7]) (by kernel_rfl) (by simp) ?_
          refine AllReadyH.cons rfl (fun K hK => ?_) AllReadyH.nil
          go_simp
          generalize (wc.alloc (.cells #[.int .i64 0, .int .i64 0, .int .i64 0, .int .i64 0, .int .i64 0, .int .i64 0, .int .i64 0, .slice none 0 0, .int .i64 0, .int .u64 0, .int .i64 0, .int .i64 0] 42)).drew = W5 at *
          generalize wc.heap.size = X at *
          go_at_call 23
          refine (HDOH.out _ (fun k => k = D ∨ k = X) HM6.out).mono ?_
          rintro e2 w4 ⟨ao4, cap4, rfl, row4, m4, keep4, z4, fresh4⟩
          have B4 : Blk w4 D d2.cells 40 := HD6.out.of_eq (keep4 D (.inl rfl))
          have X4 : BoxD w4 X DoneS.zero 42 := Blk.of_eq (cs := DoneS.zero.cells) HB6.out (keep4 X (.inr rfl))
          have n4 := (m4.bN.cell q).trans (arr3_at _ hw3)
          refine hK.out _ _ ⟨n4, B4.cell 0, B4.cell 1, B4.cell 2, B4.cell 3⟩ (fun hHeld => ?_)
          clear hK K
          try simp only [List.getElem_toArray, List.getElem_cons_succ, List.getElem_cons_zero, Act.put, List.setIfInBounds_toArray, List.set_cons_zero, List.set_cons_succ]
          have HM4 := Lib.hid m4
          have HR4 := Lib.hid row4
          have HB4 := Lib.hid B4
          have HX4 := Lib.hid X4
          have hF4 : Hid (∀ k, (Value.slice ao4 rr.ps.length cap4).ownBlock = some k → W5.heap.size ≤ k) := Lib.hid fresh4
          have hXl : X < W5.heap.size := HB6.out.lt
          clear HM6 HD6 HB6 m4 row4 B4 X4 n4 fresh4 keep4
          refine wpAnyH_take (i := 8) (v := ?_) rfl (by kernel_rfl) (by kernel_rfl) (by kernel_rfl) (fun _ _ _ h => h) (Or.inl ⟨by rfl, ?_⟩) (by assumption) ?_
          rotate_left
          · intro w hSw
            (try dsimp only at hSw)
            first | (go_simp; done) | (go_simp; with_reducible rfl)
          try simp only [List.getElem_toArray, List.getElem_cons_succ, List.getElem_cons_zero, Act.put, List.setIfInBounds_toArray, List.set_cons_zero, List.set_cons_succ]
          obtain ⟨x0, x1, x2, x3, x4, x5, x6, x7, x8, x9, x10, x11⟩ := HX4.out.cells
          have z0 := HX4.out.frozen 0
          have z1 := HX4.out.frozen 1
          have z2 := HX4.out.frozen 2
          have z3 := HX4.out.frozen 3
          have z5 := HX4.out.frozen 4
          have z6 := HX4.out.frozen 5
          have z7 := HX4.out.frozen 6
          have z8 := HX4.out.frozen 7
          have z9 := HX4.out.frozen 8
          have z10 := HX4.out.frozen 9
          have z11 := HX4.out.frozen 10
          have z12 := HX4.out.frozen 11
          have xl := HX4.out.lt
          have HS := Lib.hid (box_set12 HX4.out ⟨q, s.n q, d2.op, d2.flow, d2.a, d2.b, rr.e, ao4, rr.ps.length, cap4, rr.n, rr.v, 0, 0, rr.ps.map pkS⟩)
          refine wpAnyH_ready (rs := [10]) (by kernel_rfl) (by simp) ?_
          refine AllReadyH.cons rfl (fun K hK => ?_) AllReadyH.nil
          go_simp
          have hfr := HS.out.2
          have m5 := HM4.out.fr hfr fun k hk => by
            subst hk
            exact ⟨.inl (.inr rfl), hX0.out, fun e => blk_ne' (cs := DoneS.zero.cells) HX4.out HM4.out.bA (by decide) e, hXN, fun e => hXv.out _ e rfl, fun ⟨d, hd, e⟩ => own_blk' (cs := DoneS.zero.cells) (HM4.out.own.2 d hd).1 HX4.out (by decide) _ e rfl, fun e => blk_ne' (cs := DoneS.zero.cells) HX4.out HM4.out.bR (by decide) e⟩
          have B5 := HB4.out.fr hfr (fun e => hXD e.symm)
          refine hK.out _ _ ⟨(m5.bN.cell q).trans (arr3_at _ hw3), B5.cell 0, B5.cell 1, B5.cell 2, B5.cell 3⟩ (fun hHeld => ?_)
          clear hK K
          try simp only [List.getElem_toArray, List.getElem_cons_succ, List.getElem_cons_zero, Act.put, List.setIfInBounds_toArray, List.set_cons_zero, List.set_cons_succ]
          refine wpAnyH_done (by kernel_rfl) ?_ _
          go_wp2_with fail
          go_meet
          unfold MxP
          rw [HDOE.out]
          refine ⟨X, ⟨q, s.n q, d2.op, d2.flow, d2.a, d2.b, rr.e, ao4, rr.ps.length, cap4, rr.n, rr.v, 0, 0, rr.ps.map pkS⟩, rfl, HS.out.1, rfl, ?_, ?_, hX0.out, hXv.out⟩
          · have := owns_fr HR4.out hfr fun k hk e => by have := hF4.out k hk; omega
            rw [show pkC (rr.ps.map pkS) = pks rr.ps by rw [pkC_pks, pkL_pkS]]
            exact this
          · exact m5.below (Below.refl _ _) fun k hk => .inl (hk.elim (fun h => .inl (.inr h)) .inr)
      case rest =>
      unfold MxP at hcut
      obtain ⟨X, y, rfl, hX, hy, hrow, hM, hX0, hXv⟩ := hcut
      have HX := Lib.hid hX
      have HY := Lib.hid hy
      have HROW := Lib.hid hrow
      have HM3 := Lib.hid hM
      have HX0 := Lib.hid hX0
      have HXV := Lib.hid hXv
      clear hX hy hrow hM hX0 hXv HMD HBD hDR
      have z10 := HX.out.frozen 10
      have z11 := HX.out.frozen 11
      obtain ⟨x0, x1, x2, x3, x4, x5, x6, x7, x8, x9, x10, x11⟩ := HX.out.cells
      clear x0 x1 x2 x3 x4 x5 x6 x7 x8 x9
      have xl := HX.out.lt
      have a0 : wc.cell? ⟨A, q, none⟩ = some (.int .i64 (s.a q)) := (HM3.out.bA.cell q).trans (arr3_at _ hw3)
      have al := HM3.out.bA.lt
      have q3 : (q : Int) < 3 := by omega
      have EF : Hid (frM rs s q i = max (s.a q) (10 * (i : Int) - r % 9 * 4)) := Lib.hid (by unfold frM; rw [HRR.out, Int.tmod_eq_emod_of_nonneg hr70.1])
      have ET0 : Hid (toM0 rs i = 10 * (i : Int) + r / 3) := Lib.hid (by unfold toM0; rw [HRR.out, Int.tdiv_eq_ediv_of_nonneg hr70.1])
      have B1 := HX.out.put (i := 10) (v := .int .i64 (max (s.a q) (10 * (i : Int) - r % 9 * 4))) (y := { y with fr := max (s.a q) (10 * (i : Int) - r % 9 * 4) }) rfl
      have B2 := B1.put (i := 11) (v := .int .i64 (10 * (i : Int) + r / 3)) (y := { y with fr := max (s.a q) (10 * (i : Int) - r % 9 * 4), «to» := 10 * (i : Int) + r / 3 }) rfl
      have F2 : Fr (fun k => k = X) wc ((wc.setCell ⟨X, 10, none⟩ (.int .i64 (max (s.a q) (10 * (i : Int) - r % 9 * 4)))).setCell ⟨X, 11, none⟩ (.int .i64 (10 * (i : Int) + r / 3))) := Fr.setCell (S := fun k => k = X) (a := ⟨X, 11, none⟩) (Fr.setCell (S := fun k => k = X) (a := ⟨X, 10, none⟩) (Fr.refl _ _) (.inl rfl) _) (.inl rfl) _
      rw [← EF.out] at B1 B2 F2
      have HB2 := Lib.hid B2
      have HF2 := Lib.hid F2
      clear B1 B2 F2
      go_upto_block 2 with fail
      rw [← EF.out]
      obtain ⟨W3, hW3⟩ : ∃ W3, W3 = wc := ⟨_, rfl⟩
      subst hW3
      generalize (W3.setCell ⟨X, 10, none⟩ (.int .i64 (frM rs s q i))).setCell ⟨X, 11, none⟩ (.int .i64 (10 * (i : Int) + r / 3)) = W4 at *
      obtain ⟨FR, hFR⟩ : ∃ FR, frM rs s q i = FR := ⟨_, rfl⟩
      rw [hFR] at HB2
      have HFR := Lib.hid hFR
      have hFRb : 0 ≤ FR ∧ FR ≤ 10 * (i : Int) := by
        have h1 := HOK1.out.a0 q
        have h2 := HOK1.out.a1 q i (Nat.le_refl _) hl HQ.out
        have := frM_bd rs h1.1 h2
        omega
      obtain ⟨TO, hTO⟩ : ∃ TO, toM ws rs n i = TO := ⟨_, rfl⟩
      have hTOb : 10 * (i : Int) ≤ TO ∧ TO ≤ 10 * (i : Int) + 23 := by have := toM_bd ws rs n i; omega
      have HTO := Lib.hid hTO
      clear hFR hTO EF z10 z11 x10 x11 xl a0 al
      go_cut [] from 28 to 147 (fun wx => BoxD wx X { y with fr := FR, «to» := TO } 42 ∧ Fr (fun k => k = X) W3 wx)
      case first =>
        have HH : Hid (∀ k, i < k → k < n → wM ws k = q → (∀ j, i + 1 ≤ j → j < k → wM ws j ≠ q) → TO = min (10 * (i : Int) + r / 3) (10 * (k : Int) - 1)) := Lib.hid fun k h1 h2 h3 h4 => by rw [← HTO.out, toM_here h1 h2 (by rw [h3, HQ.out]) (by rw [HQ.out]; exact h4), ET0.out]
        have HE : Hid ((∀ j, i + 1 ≤ j → j < n → wM ws j ≠ q) → TO = 10 * (i : Int) + r / 3) := Lib.hid fun h4 => by rw [← HTO.out, toM_none (by rw [HQ.out]; exact h4), ET0.out]
        clear ET0
        go_wp2_with fail
        go_loopw [21, 22] (fun v21 _ wr2 => ∃ k : Nat, i + 1 ≤ k ∧ k ≤ n ∧ v21 = .int .i64 k ∧ wr2 = W4 ∧ ∀ j, i + 1 ≤ j → j < k → wM ws j ≠ q) (fun v21 _ _ => n - (intOf v21).toNat)
        case atStart => exact ⟨i + 1, Nat.le_refl _, by omega, by go_num, rfl, fun j h1 h2 => by omega⟩
        case round =>
          obtain ⟨k, hk1, hk2, rfl, rfl, hno⟩ := hrel
          have HNO := Lib.hid hno
          clear hno
          have hk0 : (0 : Int) ≤ (k : Int) := by omega
          by_cases hkn : k < n
          · have j1 : (k : Int) < (NL : Int) := by have := HNN.out; omega
            have j2 : (k : Int) < (most : Int) := by have := HNN.out; omega
            have EW : Hid (wM ws k = if k < n1 then (modZ (nth ws k) 3).toNat else k % 3) := Lib.hid (by rw [← HW.out.len]; rfl)
            have hv3 := wM_lt ws k
            obtain ⟨v, hv⟩ : ∃ v, wM ws k = v := ⟨_, rfl⟩
            rw [hv] at EW hv3
            have HV := Lib.hid hv
            clear hv
            have hbw4 : Below w.heap.size w wr := HM3.out.bel.trans (HF2.out.below (fun k hk => by subst hk; exact HX0.out) HM3.out.bel.size)
            go_upto_if 118 with fail
            go_cut [22] from 102 to 133 (fun s22 wx => s22 = .int .i64 (v : Int) ∧ wx = wr)
            case first =>
              by_cases h1 : k < n1
              · have g1 : (k : Int) < (n1 : Int) := by omega
                obtain ⟨b, off, e1, hbl, hcc⟩ := (HW.out.at_ k h1)
                have hc2 := (hbw4.cell (p := ⟨b, off + k, none⟩) hbl).trans hcc
                subst e1
                have hbl2 : b < wr.heap.size := Nat.lt_of_lt_of_le hbl hbw4.size
                have E : Hid (modZ (nth ws k) 3 = (v : Int)) := Lib.hid (by rw [EW.out, if_pos h1]; have := modZ_bd (nth ws k) (n := 3) (by omega); omega)
                clear hcc hbw4
                go_wp2_with fail
                refine (mod_any (nth ws k) 3 (by omega) (by omega) _).mono ?_
                rintro e w' ⟨rfl, rfl⟩
                rw [E.out]
                go_wp2
                go_meet
                exact ⟨rfl, rfl⟩
              · have g1 : ¬ (k : Int) < (n1 : Int) := by omega
                have E : Hid (v = k % 3) := Lib.hid (by rw [EW.out, if_neg h1])
                clear h1
                go_wp2
                go_meet
                exact ⟨by rw [E.out]; simp, rfl⟩
            case rest =>
            obtain ⟨rfl, rfl⟩ := hcut
            clear EW hbw4
            by_cases hvq : v = q
            · have g1 : ((v : Int) == (q : Int)) = true := by simp [hvq]
              have E : Hid (TO = min (10 * (i : Int) + r / 3) (10 * (k : Int) - 1)) := Lib.hid (HH.out k (by omega) hkn (by rw [HV.out, hvq]) HNO.out)
              clear hvq
              have z11 := HB2.out.frozen 11
              obtain ⟨_, _, _, _, _, _, _, _, _, _, _, x11⟩ := HB2.out.cells
              have xl := HB2.out.lt
              have B3 := HB2.out.put (i := 11) (v := .int .i64 TO) (y := { y with fr := FR, «to» := TO }) rfl
              have F3 := Fr.setCell (S := fun k => k = X) (a := ⟨X, 11, none⟩) HF2.out (.inl rfl) (.int .i64 TO)
              have HB3 := Lib.hid B3
              have HF3 := Lib.hid F3
              clear B3 F3
              go_wp2
              go_meet
              rw [← E.out]
              exact ⟨HB3.out, HF3.out⟩
            · have g1 : ((v : Int) == (q : Int)) = false := by simp; omega
              have E : Hid (wM ws k ≠ q) := Lib.hid (by rw [HV.out]; exact hvq)
              clear hvq
              go_wp2
              go_roundw
              case rel =>
                refine ⟨k + 1, by omega, by omega, by go_num, (by first | trivial | rfl), fun j h1 h2 => ?_⟩
                by_cases e : j = k
                · subst e; exact E.out
                · exact HNO.out j h1 (by omega)
              case measure => simp [intOf]; omega
          · obtain rfl : k = n := by omega
            have E : Hid (TO = 10 * (i : Int) + r / 3) := Lib.hid (HE.out HNO.out)
            by_cases j1 : (k : Int) < (NL : Int)
            · have j2 : ¬ (k : Int) < (most : Int) := by have := HNN.out; omega
              go_wp2
              go_meet
              rw [E.out]
              exact ⟨HB2.out, HF2.out⟩
            · go_wp2
              go_meet
              rw [E.out]
              exact ⟨HB2.out, HF2.out⟩
      case rest =>
      obtain ⟨hX5, hF5⟩ := hcut
      clear HB2 HF2 ET0
      have HX5 := Lib.hid hX5
      have HF5 := Lib.hid hF5
      have hAX : A ≠ X := fun e => blk_ne' HM3.out.bA (show Blk W3 X y.cells 42 from HX.out) (by decide) e
      have hNX : N ≠ X := fun e => blk_ne' HM3.out.bN (show Blk W3 X y.cells 42 from HX.out) (by decide) e
      have hAN : A ≠ N := HM3.out.ne
      have bA5 : Blk wc A (arr3 s.a) 65 := HM3.out.bA.fr hF5 hAX
      have bN5 : Blk wc N (arr3 s.n) 65 := HM3.out.bN.fr hF5 hNX
      have HA5 := Lib.hid bA5
      have HN5 := Lib.hid bN5
      clear hX5 hF5 bA5 bN5
      obtain ⟨_, _, _, _, _, _, _, _, _, _, _, x11⟩ := HX5.out.cells
      have xl := HX5.out.lt
      have a0 : wc.cell? ⟨A, q, none⟩ = some (.int .i64 (s.a q)) := (HA5.out.cell q).trans (arr3_at _ hw3)
      have zA := HA5.out.frozen q
      have al := HA5.out.lt
      go_upto_region 30 with fail
      have bA6 := HA5.out.set q (.int .i64 (TO + 1))
      rw [arr3_set _ hw3] at bA6
      have bN6 := HN5.out.set_far (a := ⟨A, q, none⟩) (fun e => hAN e.symm) (.int .i64 (TO + 1))
      have bX6 : BoxD (wc.setCell ⟨A, q, none⟩ (.int .i64 (TO + 1))) X { y with fr := FR, «to» := TO } 42 := HX5.out.far (fun e => hAX e.symm) (.int .i64 (TO + 1))
      have F6 := Fr.setCell (S := fun k => k = A ∨ k = N ∨ k = X) (a := ⟨A, q, none⟩) (HF5.out.mono (T := fun k => k = A ∨ k = N ∨ k = X) fun k _ h => .inr (.inr h)) (.inl (.inl rfl)) (.int .i64 (TO + 1))
      have HA6 := Lib.hid bA6
      have HN6 := Lib.hid bN6
      have HX6 := Lib.hid bX6
      have HF6 := Lib.hid F6
      clear bA6 bN6 bX6 F6 HA5 HN5 HX5 HF5 x11 xl a0 zA al
      generalize wc.setCell ⟨A, q, none⟩ (.int .i64 (TO + 1)) = W6 at *
      have n0' : W6.cell? ⟨N, q, none⟩ = some (.int .i64 (s.n q)) := (HN6.out.cell q).trans (arr3_at _ hw3)
      have zN := HN6.out.frozen q
      have nl := HN6.out.lt
      have hnq := HOK1.out.n0 q
      go_upto_region 31 with fail
      have bN7 := HN6.out.set q (.int .i64 (s.n q + 1))
      rw [arr3_set _ hw3] at bN7
      have bA7 := HA6.out.set_far (a := ⟨N, q, none⟩) hAN (.int .i64 (s.n q + 1))
      have bX7 : BoxD (W6.setCell ⟨N, q, none⟩ (.int .i64 (s.n q + 1))) X { y with fr := FR, «to» := TO } 42 := HX6.out.far (fun e => hNX e.symm) (.int .i64 (s.n q + 1))
      have F7 := Fr.setCell (a := ⟨N, q, none⟩) HF6.out (.inl (.inr (.inl rfl))) (.int .i64 (s.n q + 1))
      have HA7 := Lib.hid bA7
      have HN7 := Lib.hid bN7
      have HX7 := Lib.hid bX7
      have HF7 := Lib.hid F7
      clear bA7 bN7 bX7 F7 HA6 HN6 HX6 HF6 n0' zN nl
      generalize W6.setCell ⟨N, q, none⟩ (.int .i64 (s.n q + 1)) = W7 at *
      obtain ⟨x0, x1, x2, x3, x4, x5, x6, x7, x8, x9, x10, x11⟩ := HX7.out.cells
      have xl := HX7.out.lt
      have hln : l.length = i := by have := HOK1.out.len; rw [← HM3.out.bare, List.length_map] at this; exact this
      have hrowF : Hid (∀ k, (Value.slice y.ao y.len y.cap).ownBlock = some k → ¬ (k = A ∨ k = N ∨ k = X)) := Lib.hid fun k hk hs => by
        rcases hs with rfl | rfl | rfl
        · exact own_blk' HROW.out HM3.out.bA (by decide) _ hk rfl
        · exact own_blk' HROW.out HM3.out.bN (by decide) _ hk rfl
        · exact own_blk' HROW.out (show Blk W3 _ y.cells 42 from HX.out) (by decide) _ hk rfl
      have hown7 : W7.ownsRow w.heap.size 42 12 u12 i (doneC l) := by
        have := owns_fr HM3.out.own.1 HF7.out fun k hk hs => by
          rcases hs with rfl | rfl | rfl
          · exact own_blk' HM3.out.own.1 HM3.out.bA (by decide) _ hk rfl
          · exact own_blk' HM3.out.own.1 HM3.out.bN (by decide) _ hk rfl
          · exact HXV.out _ hk rfl
        rw [hln] at this
        exact this
      have hbase : w.heap.size ≤ W7.heap.size := Nat.le_trans HM3.out.bel.size HF7.out.size
      have hn2 : i + 1 ≤ 1099511627776 := by omega
      have HLN := Lib.hid hln
      clear hln
      go_wp2_with ((at_builtin; refine ap_new W7 _ ED rfl _ _ rfl w.heap.size _ i _ rfl hown7 hbase 1 rfl rfl (by simp [Value.oneCell']) hn2 ?_; intro v' w9 hown9 hg9 hb9 hfr9))
      go_roundw
      case rel =>
        have hrok := doo_ret_ok (HOK1.out.good hall2.out hc.unit (by rw [HLEN.out]; have := HNN.out; omega)) (show i ≤ 1000000 by omega) c d2
        have hnq := HOK1.out.n0 q
        obtain ⟨k1, k2, k3⟩ := doneOk (fr := FR) (t := TO) HY.out HDOK.out hrok (by unfold I64; omega) (by unfold I64; omega) (by unfold I64; omega) (by unfold I64; omega)
        have hp := HM3.out.push (K' := fun _ => False) (fun k hk => hk.elim) HX.out (.inl rfl) HF7.out HX7.out HX0.out HXV.out HA7.out HN7.out ⟨owns_fr HROW.out HF7.out hrowF.out, k1, k2⟩ (fun k hk => .inr hk) HLN.out hown9 hg9 hb9 hfr9
        rw [k3] at hp
        refine ⟨i + 1, l ++ [{ y with fr := FR, «to» := TO }], by omega, by go_num, ?_⟩
        rw [HI.out]
        unfold mkRound
        rw [HQ.out, HD2.out, HFR.out, HTO.out]
        exact hp
      case measure => simp [intOf]; omega
    · obtain rfl : i = n := by omega
      by_cases j1 : (i : Int) < (NL : Int)
      · have j2 : ¬ (i : Int) < (most : Int) := by have := HNN.out; omega
        obtain ⟨oa, oc, rfl⟩ := owns_slice HMK1.out.own.1
        go_wp2
        go_ret
        exact ⟨oa, oc, l, rfl, HMK1.out.own, by rw [HMS.out]; exact HMK1.out.bare, HMK1.out.bel⟩
      · obtain ⟨oa, oc, rfl⟩ := owns_slice HMK1.out.own.1
        go_wp2
        go_ret
        exact ⟨oa, oc, l, rfl, HMK1.out.own, by rw [HMS.out]; exact HMK1.out.bare, HMK1.out.bel⟩
end Go.Proofs.YtdjooacjjnjfmaaGreat
end

-- law15's order: of any numbers an order of n, as a rule.
section
namespace Go.Proofs.YtdjooacjjnjfmaaGreat
set_option linter.unusedVariables false
set_option linter.unusedSimpArgs false
set_option maxRecDepth 20000
open Go.RowKit Go.Proofs.YtdjooacjjnjfmaaGreatMem Go.Proofs.YtdjooacjjnjfmaaGreatMapK Go.Proofs.YtdjooacjjnjfmaaGreatLin H

theorem EIo : ElT Tryz.prog 26 3 (.int .i64 0) 1 := ⟨Tryz.underlying26, ⟨8, by kernel_rfl, by omega⟩, rfl, by omega⟩
theorem ints_flat (zs : List Int) : zs.flatMap (fun z => [Value.int .i64 z]) = ints zs := by
  unfold ints
  induction zs with
  | nil => rfl
  | cons z zs ih => simp [ih]
theorem owns_setI {w : World} {base : Nat} {e : TypeId} {g n cap q : Nat} {zs : List Int} (h : w.ownsRow base e 1 (.slice (some ⟨g, 0, none⟩) n cap) n (ints zs)) (hq : q < n) (hl : zs.length = n) (x : Int) :
    (w.setCell ⟨g, q, none⟩ (.int .i64 x)).ownsRow base e 1 (.slice (some ⟨g, 0, none⟩) n cap) n (ints (zs.set q x)) := by
  have := owns_setRec (f := fun z => [Value.int .i64 z]) (s := 1) (fun _ => rfl) (l := zs) (by rw [ints_flat]; exact h) hq x hl
  rw [ints_flat, Nat.mul_one] at this
  exact this
theorem owns_cellI {w : World} {base : Nat} {e : TypeId} {g n cap q : Nat} {zs : List Int} (h : w.ownsRow base e 1 (.slice (some ⟨g, 0, none⟩) n cap) n (ints zs)) (hq : q < n) (hl : zs.length = n) : w.cell? ⟨g, q, none⟩ = some (.int .i64 (nth zs q)) := by
  obtain ⟨g', e1, -, -, e2⟩ := owns_at h (j := q) (u := .int .i64 (nth zs q)) (by unfold ints; rw [List.getElem?_map, List.getElem?_eq_getElem (by omega), nth_eq (by omega)]; rfl)
  simp only [Option.some.injEq, Addr.mk.injEq, and_true] at e1
  subst e1
  rw [Nat.zero_add] at e2
  exact e2
theorem toI_range_succ (k : Nat) : toI (List.range (k + 1)) = toI (List.range k) ++ [(k : Int)] := by unfold toI; rw [List.range_succ, List.map_append]; rfl
def OrdPost (w : World) (n : Nat) (zs : List Int) (e : Ending) (w' : World) : Prop := ∃ oa oc os, e = .returned (.slice oa os.length oc) ∧ w'.ownsRow w.heap.size 3 1 (.slice oa os.length oc) os.length (ints os) ∧ (∀ z ∈ os, I64 z) ∧ (zs = [] → os = toI (List.range n)) ∧ os.length ≤ n + 20 ∧ Below w.heap.size w w'
set_option maxHeartbeats 4000000 in
theorem ord15_any (ao : Option Addr) (n0 c0 : Nat) (zs : List Int) (n : Nat) (w : World) (h : RdI w ao n0 c0 zs) (hn : n ≤ 1000) :
    Calls Tryz.prog 12 #[.slice ao n0 c0, .int .i64 n] w (OrdPost w n zs) := by
  have s0 := h.small
  have hle := h.le
  have HR := Lib.hid h
  clear h
  go_enter Tryz.func12, Tryz.ntmps12
  go_wp2_with fail
  go_loopw [5, 6] (fun v5 v6 wr => ∃ k : Nat, k ≤ n ∧ v6 = .int .i64 k ∧ wr.ownsRow w.heap.size 3 1 v5 k (ints (toI (List.range k))) ∧ Below w.heap.size w wr) (fun _ v6 _ => n - (intOf v6).toNat)
  case atStart => exact ⟨0, Nat.zero_le _, rfl, owns_nil _ _ _ _, Below.refl _ _⟩
  case round =>
    obtain ⟨k, hk, rfl, hown, hbr⟩ := hrel
    have hszr := hbr.size
    by_cases hl : k < n
    · have i1 : (k : Int) < (n : Int) := by omega
      have HOWN := Lib.hid hown
      have HS := Lib.hid (toI_range_succ k)
      clear hown
      go_wp2_with ((at_builtin; refine ap_new wr #[.int .i64 (k : Int)] EIo rfl _ _ rfl w.heap.size _ k _ rfl HOWN.out hszr 1 rfl rfl (by simp [Value.oneCell']) (by omega) ?_; intro v' w3 hown3 hg3 hb3 hfr3))
      go_roundw
      case rel => exact ⟨k + 1, by omega, by go_num, by rw [HS.out, ints_append]; exact hown3, hbr.trans hb3⟩
      case measure => simp [intOf]; omega
    · obtain rfl : k = n := by omega
      have i1 : ¬ (k : Int) < (k : Int) := by omega
      obtain ⟨g0, cap0, rfl⟩ := owns_slice hown
      have HOWN := Lib.hid hown
      have HBR := Lib.hid hbr
      clear hown hbr
      go_wp2_with fail
      go_loopw [7, 8] (fun v7 _ wr2 => ∃ (j : Nat) (os : List Int), j ≤ min n0 k ∧ v7 = .int .i64 j ∧ os.length = k ∧ (∀ z ∈ os, I64 z) ∧ (j = 0 → os = toI (List.range k)) ∧ wr2.ownsRow w.heap.size 3 1 (.slice g0 k cap0) k (ints os) ∧ Below w.heap.size w wr2) (fun v7 _ _ => n0 - (intOf v7).toNat)
      case atStart =>
        refine ⟨0, toI (List.range k), Nat.zero_le _, rfl, by simp [toI], fun z hz => ?_, fun _ => rfl, HOWN.out, HBR.out⟩
        unfold toI at hz
        obtain ⟨i, hi, rfl⟩ := List.mem_map.1 hz
        have := List.mem_range.1 hi
        unfold I64
        omega
      case round =>
        obtain ⟨j, os, hj, rfl, hol, hos, hj0, hown, hbr⟩ := hrel
        by_cases hlj : j < min n0 k
        · have i2 : (j : Int) < (n0 : Int) := by omega
          have i3 : (j : Int) < (k : Int) := by omega
          obtain ⟨b, off, rfl, hbl, hcc⟩ := HR.out.at_ j (by omega)
          have hc2 := (hbr.cell (p := ⟨b, off + j, none⟩) hbl).trans hcc
          have hbl2 : b < wr.heap.size := Nat.lt_of_lt_of_le hbl hbr.size
          obtain ⟨g, rfl⟩ : ∃ g, g0 = some ⟨g, 0, none⟩ := by
            obtain ⟨g, e, -⟩ := owns_at hown (j := 0) (u := .int .i64 (nth os 0)) (by unfold ints; rw [List.getElem?_map, List.getElem?_eq_getElem (by omega), nth_eq (by omega)]; rfl)
            exact ⟨g, e⟩
          have hm := modZ_bd (nth zs j) (n := (k : Int)) (by omega)
          obtain ⟨q, hq⟩ : ∃ q : Nat, modZ (nth zs j) (k : Int) = (q : Int) := ⟨(modZ (nth zs j) (k : Int)).toNat, by omega⟩
          have hqk : q < k := by omega
          have hqk2 : (q : Int) < (k : Int) := by omega
          have c1 := owns_cellI hown (show j < k by omega) hol
          have c2 := owns_cellI hown hqk hol
          have z1 := hown.frozenAt j
          have z2 := hown.frozenAt q
          have gl := (owns_lt hown g rfl).2
          have gb := (owns_lt hown g rfl).1
          have o1 := owns_setI hown (show j < k by omega) hol (nth os q)
          have o2 := owns_setI o1 hqk (by rw [List.length_set]; exact hol) (nth os j)
          have c3 := owns_cellI o1 hqk (by rw [List.length_set]; exact hol)
          have z3 := o1.frozenAt q
          have b1 := (hbr.setCell (p := ⟨g, j, none⟩) gb (.int .i64 (nth os q))).setCell (p := ⟨g, q, none⟩) gb (.int .i64 (nth os j))
          have HO2 := Lib.hid o2
          have HB1 := Lib.hid b1
          have HOL : Hid (((os.set j (nth os q)).set q (nth os j)).length = k) := Lib.hid (by rw [List.length_set, List.length_set]; exact hol)
          have HOS : Hid (∀ z ∈ (os.set j (nth os q)).set q (nth os j), I64 z) := Lib.hid fun z hz => by
            have hn1 : ∀ i, i < k → I64 (nth os i) := fun i hi => hos _ (by rw [nth_eq (by omega)]; exact List.getElem_mem _)
            rcases List.mem_or_eq_of_mem_set hz with hz | rfl
            · rcases List.mem_or_eq_of_mem_set hz with hz | rfl
              · exact hos z hz
              · exact hn1 q hqk
            · exact hn1 j (by omega)
          have HQ := Lib.hid hq
          clear o1 o2 b1 hown hbr hcc hq hm hos hj0 hol HOWN
          go_wp2_with fail
          refine (mod_any (nth zs j) k (by omega) (by omega) _).mono ?_
          rw [HQ.out]
          rintro e w' ⟨rfl, rfl⟩
          go_wp2_with fail
          go_region
          all_goals
            go_wp2
            go_roundw
            case rel => exact ⟨j + 1, _, by omega, by go_num, HOL.out, HOS.out, fun h0 => by omega, HO2.out.drew, HB1.out.drew⟩
            case measure => simp [intOf]; omega
        · obtain rfl : j = min n0 k := by omega
          have HOS := Lib.hid hos
          have HOW := Lib.hid hown
          have HB2 := Lib.hid hbr
          have HJ0 := Lib.hid hj0
          have hzl := HR.out.len
          clear hos hown hbr hj0
          by_cases hnk : n0 ≤ k
          · have i2 : ¬ ((min n0 k : Nat) : Int) < (n0 : Int) := by omega
            have i3 : ¬ (k : Int) < (n0 : Int) := by omega
            have HE : Hid (zs = [] → os = toI (List.range k)) := Lib.hid fun e => HJ0.out (by rw [e] at hzl; simp at hzl; omega)
            obtain ⟨m, hm⟩ : ∃ m, min n0 k = m := ⟨_, rfl⟩
            rw [hm] at i2
            try rw [hm]
            clear hm hj HJ0
            go_wp2
            go_ret
            refine ⟨g0, cap0, os, by rw [hol]; rfl, by rw [hol]; exact HOW.out, HOS.out, HE.out, by omega, HB2.out⟩
          · have i2 : ((min n0 k : Nat) : Int) < (n0 : Int) := by omega
            have i4 : ¬ ((min n0 k : Nat) : Int) < (k : Int) := by omega
            have i3 : (k : Int) < (n0 : Int) := by omega
            obtain ⟨m, hm⟩ : ∃ m, min n0 k = m := ⟨_, rfl⟩
            rw [hm] at i2 i4
            try rw [hm]
            obtain ⟨p, hp⟩ : ∃ p : Nat, min n0 20 = p := ⟨_, rfl⟩
            have hpi : min (n0 : Int) 20 = (p : Int) := by omega
            have hp1 : (p : Int) ≤ (c0 : Int) := by omega
            have hnz : zs ≠ [] := fun e => by rw [e] at hzl; simp at hzl; omega
            have HR2 := Lib.hid (RdI.below (B := 0) HR.out HB2.out)
            clear hm hj HJ0
            obtain ⟨b, off, rfl, -⟩ := HR.out.at_ 0 (by omega)
            have hnews : ∀ (t : Nat) (u : Value), (ints (zs.take p))[t]? = some u → ∃ b' off', (some (⟨b, off, none⟩ : Addr)) = some ⟨b', off', none⟩ ∧ wr.cell? ⟨b', off' + t, none⟩ = some u := fun t u hu => by
              unfold ints at hu
              rw [List.getElem?_map] at hu
              have ht : t < p := by
                apply Nat.lt_of_not_le
                intro hge
                rw [List.getElem?_take, if_neg (by omega)] at hu
                cases hu
              rw [List.getElem?_take, if_pos ht, List.getElem?_eq_getElem (by omega)] at hu
              simp only [Option.map_some, Option.some.injEq] at hu
              obtain ⟨b', off', e1, -, e2⟩ := HR2.out.at_ t (by omega)
              rw [nth_eq (by omega), hu] at e2
              exact ⟨b', off', e1, e2⟩
            have hbase := HB2.out.size
            have hone : ∀ u ∈ ints (zs.take p), u.oneCell' = true := by
              intro u hu
              unfold ints at hu
              obtain ⟨z, -, rfl⟩ := List.mem_map.1 hu
              rfl
            have hlen : (ints (zs.take p)).length = p * 1 := by unfold ints; simp; omega
            have hfin : ∀ v' w3, w3.ownsRow w.heap.size 3 1 v' (0 + p) ([] ++ ints (zs.take p)) → Below w.heap.size wr w3 → OrdPost w k zs (.returned v') w3 := fun v' w3 hown3 hb3 => by
              rw [Nat.zero_add, List.nil_append] at hown3
              obtain ⟨a', c', rfl⟩ := owns_slice hown3
              have hl2 : (zs.take p).length = p := by simp; omega
              exact ⟨a', c', zs.take p, by rw [hl2], by rw [hl2]; exact hown3, fun z hz => HR.out.fits z (List.mem_of_mem_take hz), fun e => absurd e hnz, by omega, HB2.out.trans hb3⟩
            have HFIN := Lib.hid hfin
            clear hfin
            by_cases hpc : p = c0
            · subst hpc
              go_wp2_with ((at_builtin; refine ap_src wr EIo rfl _ _ rfl w.heap.size _ 0 [] rfl (owns_nil _ _ _ _) hbase _ p p (ints (zs.take p)) rfl (fun h => by cases h) hlen hnews hone (by omega) ?_; intro v' w3 hown3 hg3 hb3 hfr3))
              go_ret
              exact HFIN.out _ _ hown3 hb3
            · have hpc2 : ¬ (c0 : Int) = (p : Int) := by omega
              have hpc3 : ¬ c0 = p := by omega
              go_wp2_with ((at_builtin; refine ap_src wr EIo rfl _ _ rfl w.heap.size _ 0 [] rfl (owns_nil _ _ _ _) hbase _ p c0 (ints (zs.take p)) rfl (fun h => by cases h) hlen hnews hone (by omega) ?_; intro v' w3 hown3 hg3 hb3 hfr3))
              go_ret
              exact HFIN.out _ _ hown3 hb3
end Go.Proofs.YtdjooacjjnjfmaaGreat
end

-- law15's awake: what a program that does nothing does not answer.
section
namespace Go.Proofs.YtdjooacjjnjfmaaGreat
set_option linter.unusedVariables false
set_option linter.unusedSimpArgs false
set_option maxRecDepth 100000
open Go.RowKit Go.Proofs.YtdjooacjjnjfmaaGreatMem Go.Proofs.YtdjooacjjnjfmaaGreatMapK Go.Proofs.YtdjooacjjnjfmaaGreatLin H

def awC : Cfg := ⟨1, 1, 2, 0, 1⟩
def awL : List DoneS := [⟨0, 0, 1, 1, 1, 1, 0, none, 0, 0, 0, 0, 0, 1, []⟩, ⟨0, 1, 3, 1, 1, 0, 0, none, 0, 0, 0, 0, 2, 9, []⟩, ⟨1, 0, 4, 0, 0, 0, 10, none, 0, 0, 0, 0, 3, 4, []⟩]
theorem aw_may : mayB awC awL = true := by decide
theorem aw_found : foundB awC awL = some [0, 2, 1] := by decide
theorem aw_fits : fitsB awC awL [0, 2, 1] = true := by decide
theorem aw_not : fitsB awC awL [0, 1, 2] = false := by decide
theorem lit_rdD15 (w : World) (l : List DoneS) (cs : Array Value) (n : Nat) (hcs : cs.toList = doneC l) (hn : l.length = n) (hm : n ≤ 1000) (hg : ∀ d ∈ l, d.Ok ∧ RdK w d.ao d.len d.cap d.l) :
    RdD (w.alloc (.cells cs 42)) (some ⟨w.heap.size, 0, none⟩) n n l := by
  have h := World.ownsRow_lit (e := 42) (size := 12) (base := w.heap.size) w cs n (Nat.le_refl _) (by unfold maxLen; omega) (by rw [← Array.length_toList, hcs, doneC_length, hn])
  rw [hcs] at h
  exact ⟨owns_rdS h (doneC_one _), hn, fun d hd => ⟨(hg d hd).1, (hg d hd).2.below (below1 _ _)⟩⟩
theorem nil_rdK15 (w : World) : RdK w none 0 0 [] := ⟨owns_rdS (World.ownsRow_nil w 0 59 3) (fun u hu => by cases hu), rfl, fun p hp => by cases hp⟩
theorem lit_rdI15 (w : World) (a b c : Int) (h : I64 a ∧ I64 b ∧ I64 c) : RdI (w.alloc (.cells #[.int .i64 a, .int .i64 b, .int .i64 c] 3)) (some ⟨w.heap.size, 0, none⟩) 3 3 [a, b, c] := by
  have h0 := World.ownsRow_lit (e := 3) (size := 1) (base := w.heap.size) w #[.int .i64 a, .int .i64 b, .int .i64 c] 3 (Nat.le_refl _) (by unfold maxLen; omega) rfl
  exact owns_rdI (zs := [a, b, c]) h0 (fun z hz => by
    simp only [List.mem_cons, List.not_mem_nil, or_false] at hz
    rcases hz with rfl | rfl | rfl
    · exact h.1
    · exact h.2.1
    · exact h.2.2)
theorem awL_ok : ∀ d ∈ awL, d.Ok ∧ d.ao = none ∧ d.len = 0 ∧ d.cap = 0 ∧ d.l = [] := by
  intro d hd
  simp only [awL, List.mem_cons, List.not_mem_nil, or_false] at hd
  rcases hd with rfl | rfl | rfl <;> exact ⟨by unfold DoneS.Ok I64; simp, rfl, rfl, rfl, rfl⟩
set_option maxHeartbeats 4000000 in
theorem awake15_any (w : World) : Calls Tryz.prog 14 #[] w fun e w' => e = .returned (.bool true) ∧ Below w.heap.size w w' := by
  go_enter Tryz.func14, Tryz.ntmps14
  go_upto_region 2 with fail
  have B : Blk (w.alloc (.cells #[.int .i64 1, .int .i64 1, .int .i64 2, .int .i64 0, .int .u64 1] 24)) w.heap.size awC.cells 24 := Blk.new w awC.cells 24
  have hb := below1 w (.cells #[.int .i64 1, .int .i64 1, .int .i64 2, .int .i64 0, .int .u64 1] 24)
  generalize w.alloc (.cells #[.int .i64 1, .int .i64 1, .int .i64 2, .int .i64 0, .int .u64 1] 24) = W at *
  have RD : RdD (W.alloc (.cells #[.int .i64 0, .int .i64 0, .int .i64 1, .int .i64 1, .int .i64 1, .int .i64 1, .int .i64 0, .slice none 0 0, .int .i64 0, .int .u64 0, .int .i64 0, .int .i64 1, .int .i64 0, .int .i64 1, .int .i64 3, .int .i64 1, .int .i64 1, .int .i64 0, .int .i64 0, .slice none 0 0, .int .i64 0, .int .u64 0, .int .i64 2, .int .i64 9, .int .i64 1, .int .i64 0, .int .i64 4, .int .i64 0, .int .i64 0, .int .i64 0, .int .i64 10, .slice none 0 0, .int .i64 0, .int .u64 0, .int .i64 3, .int .i64 4] 42)) (some ⟨W.heap.size, 0, none⟩) 3 3 awL := lit_rdD15 W awL _ 3 rfl rfl (by omega) (fun d hd => by
    obtain ⟨h1, h2, h3, h4, h5⟩ := awL_ok d hd
    rw [h2, h3, h4, h5]
    exact ⟨h1, nil_rdK15 _⟩)
  have hb2 := below1 W (.cells #[.int .i64 0, .int .i64 0, .int .i64 1, .int .i64 1, .int .i64 1, .int .i64 1, .int .i64 0, .slice none 0 0, .int .i64 0, .int .u64 0, .int .i64 0, .int .i64 1, .int .i64 0, .int .i64 1, .int .i64 3, .int .i64 1, .int .i64 1, .int .i64 0, .int .i64 0, .slice none 0 0, .int .i64 0, .int .u64 0, .int .i64 2, .int .i64 9, .int .i64 1, .int .i64 0, .int .i64 4, .int .i64 0, .int .i64 0, .int .i64 0, .int .i64 10, .slice none 0 0, .int .i64 0, .int .u64 0, .int .i64 3, .int .i64 4] 42)
  have HRD := Lib.hid RD
  have HB2 := Lib.hid (hb.trans (hb2.mono hb.size))
  have HC2 := Lib.hid (B.below hb2)
  clear RD B hb hb2
  go_upto_region 3 with fail
  generalize W.alloc (.cells #[.int .i64 0, .int .i64 0, .int .i64 1, .int .i64 1, .int .i64 1, .int .i64 1, .int .i64 0, .slice none 0 0, .int .i64 0, .int .u64 0, .int .i64 0, .int .i64 1, .int .i64 0, .int .i64 1, .int .i64 3, .int .i64 1, .int .i64 1, .int .i64 0, .int .i64 0, .slice none 0 0, .int .i64 0, .int .u64 0, .int .i64 2, .int .i64 9, .int .i64 1, .int .i64 0, .int .i64 4, .int .i64 0, .int .i64 0, .int .i64 0, .int .i64 10, .slice none 0 0, .int .i64 0, .int .u64 0, .int .i64 3, .int .i64 4] 42) = W2 at *
  generalize W.heap.size = L at *
  have CP : Hid (ParOk 3 awL) := Lib.hid ⟨by omega, fun d hd => by rw [(awL_ok d hd).2.2.1]; omega⟩
  have CS := linSearch_any awC (by unfold W64 awC; simp) (some ⟨L, 0, none⟩) 3 3 awL
  rw [aw_found] at CS
  have HCS := Lib.hid CS
  have HCF := Lib.hid (fun oo on ocap o w1 h => linFits_any awC (by unfold W64 awC; simp) (some ⟨L, 0, none⟩) 3 3 awL oo on ocap o w1 h CP.out)
  have HF1 := Lib.hid aw_fits
  have HF2 := Lib.hid aw_not
  clear CS
  have x0 : W2.cell? ⟨w.heap.size, 0, none⟩ = some (.int .i64 1) := HC2.out.cell 0
  have x1 : W2.cell? ⟨w.heap.size, 1, none⟩ = some (.int .i64 1) := HC2.out.cell 1
  have x2 : W2.cell? ⟨w.heap.size, 2, none⟩ = some (.int .i64 2) := HC2.out.cell 2
  have x3 : W2.cell? ⟨w.heap.size, 3, none⟩ = some (.int .i64 0) := HC2.out.cell 3
  have x4 : W2.cell? ⟨w.heap.size, 4, none⟩ = some (.int .u64 1) := HC2.out.cell 4
  have xl := HC2.out.lt
  go_wp2_with fail
  refine (HCS.out W2 HRD.out CP.out).mono ?_
  rintro e w3 ⟨⟨oa, oc, rfl, hrow⟩, hb3⟩
  have hrd : RdI w3 oa 3 oc [0, 2, 1] := owns_rdI (zs := toI [0, 2, 1]) hrow (fun z hz => by
    simp only [toI, List.map_cons, List.map_nil, List.mem_cons, List.not_mem_nil, or_false] at hz
    unfold I64
    rcases hz with rfl | rfl | rfl <;> simp)
  have HO := Lib.hid hrd
  have HB3 := Lib.hid (HB2.out.trans (hb3.mono HB2.out.size))
  have HC3 := Lib.hid (HC2.out.below hb3)
  have HRD3 := Lib.hid (HRD.out.below hb3)
  clear hrd hrow hb3 x0 x1 x2 x3 x4 xl HB2 HC2 HRD
  go_wp2_with fail
  have hI4 := lit_rdI15 w3 0 2 1 (by unfold I64; omega)
  have hb4' := below1 w3 (.cells #[.int .i64 0, .int .i64 2, .int .i64 1] 3)
  refine (plainI_any oa _ 3 oc 3 3 [0, 2, 1] [0, 2, 1] _ (RdI.below (B := 0) HO.out hb4') hI4).mono ?_
  rw [eqI_same]
  rintro e w4 ⟨rfl, hb4⟩
  replace hb4 := below_step hb4' hb4
  have HB4 := Lib.hid (HB3.out.trans (hb4.mono HB3.out.size))
  have HC4 := Lib.hid (HC3.out.below hb4)
  have HRD4 := Lib.hid (HRD3.out.below hb4)
  have HO4 := Lib.hid (RdI.below (B := 0) HO.out hb4)
  clear hb4 hb4' hI4 HB3 HC3 HRD3 HO
  have x0 : w4.cell? ⟨w.heap.size, 0, none⟩ = some (.int .i64 1) := HC4.out.cell 0
  have x1 : w4.cell? ⟨w.heap.size, 1, none⟩ = some (.int .i64 1) := HC4.out.cell 1
  have x2 : w4.cell? ⟨w.heap.size, 2, none⟩ = some (.int .i64 2) := HC4.out.cell 2
  have x3 : w4.cell? ⟨w.heap.size, 3, none⟩ = some (.int .i64 0) := HC4.out.cell 3
  have x4 : w4.cell? ⟨w.heap.size, 4, none⟩ = some (.int .u64 1) := HC4.out.cell 4
  have xl := HC4.out.lt
  go_wp2_with fail
  refine (HCF.out _ _ _ _ w4 HRD4.out HO4.out (by omega)).mono ?_
  rw [HF1.out]
  rintro e w5 ⟨rfl, hb5⟩
  have HB5 := Lib.hid (HB4.out.trans (hb5.mono HB4.out.size))
  have HC5 := Lib.hid (HC4.out.below hb5)
  have HRD5 := Lib.hid (HRD4.out.below hb5)
  clear hb5 HB4 HC4 HRD4 HO4 x0 x1 x2 x3 x4 xl
  have x0 : w5.cell? ⟨w.heap.size, 0, none⟩ = some (.int .i64 1) := HC5.out.cell 0
  have x1 : w5.cell? ⟨w.heap.size, 1, none⟩ = some (.int .i64 1) := HC5.out.cell 1
  have x2 : w5.cell? ⟨w.heap.size, 2, none⟩ = some (.int .i64 2) := HC5.out.cell 2
  have x3 : w5.cell? ⟨w.heap.size, 3, none⟩ = some (.int .i64 0) := HC5.out.cell 3
  have x4 : w5.cell? ⟨w.heap.size, 4, none⟩ = some (.int .u64 1) := HC5.out.cell 4
  have xl := HC5.out.lt
  go_wp2_with fail
  have hI6 := lit_rdI15 w5 0 1 2 (by unfold I64; omega)
  have hb6' := below1 w5 (.cells #[.int .i64 0, .int .i64 1, .int .i64 2] 3)
  refine (HCF.out _ _ _ _ _ (HRD5.out.below hb6') hI6 (by omega)).mono ?_
  rw [HF2.out]
  rintro e w6 ⟨rfl, hb6⟩
  replace hb6 := below_step hb6' hb6
  have HB6 := Lib.hid (HB5.out.trans (hb6.mono HB5.out.size))
  clear hb6 hb6' hI6 x0 x1 x2 x3 x4 xl
  go_wp2
  go_ret
  exact ⟨rfl, HB6.out⟩
end Go.Proofs.YtdjooacjjnjfmaaGreat
end

-- An argument that is a slice of calls.
section
namespace Go.Proofs.YtdjooacjjnjfmaaGreat
set_option linter.unusedVariables false
set_option linter.unusedSimpArgs false
set_option maxRecDepth 20000
open Go.RowKit Go.Proofs.YtdjooacjjnjfmaaGreatMem Go.Proofs.YtdjooacjjnjfmaaGreatFlat Go.Proofs.YtdjooacjjnjfmaaGreatMapK

theorem call_of {cs : List Value} (h : FlatOk [.int .i64, .int .i64, .int .i64, .int .i64] cs) : ∃ d : CallS, cs = d.cells ∧ d.Ok := by
  obtain ⟨_, _, rfl, ⟨a, rfl, ha⟩, _, _, rfl, ⟨b, rfl, hb⟩, _, _, rfl, ⟨c, rfl, hc⟩, _, _, rfl, ⟨d, rfl, hd⟩, rfl⟩ := h
  exact ⟨⟨a, b, c, d⟩, rfl, i64_of_wf ha, i64_of_wf hb, i64_of_wf hc, i64_of_wf hd⟩
theorem rows_calls {L : List (List Value)} (h : ∀ l ∈ L, FlatOk [.int .i64, .int .i64, .int .i64, .int .i64] l) : ∃ ls : List CallS, L.flatten = callsC ls ∧ L.length = ls.length ∧ ∀ a ∈ ls, a.Ok := by
  induction L with
  | nil => exact ⟨[], rfl, rfl, fun a ha => by cases ha⟩
  | cons c L ih =>
    obtain ⟨d, hd, ho⟩ := call_of (h c List.mem_cons_self)
    obtain ⟨ls, h1, h2, h3⟩ := ih fun l hl => h l (List.mem_cons_of_mem _ hl)
    refine ⟨d :: ls, ?_, by simp [h2], fun a ha => ?_⟩
    · rw [List.flatten_cons, hd, h1]; rfl
    · rcases List.mem_cons.1 ha with rfl | ha
      · exact ho
      · exact h3 a ha
theorem isRows_rdC {w : World} {ao : Option Addr} {n cap : Nat} {L : List (List Value)} (h : IsRows w [.int .i64, .int .i64, .int .i64, .int .i64] ao n cap L) : ∃ l, RdC w ao n cap l := by
  have hr := isRows_rdS (by decide) h
  obtain ⟨hl, -, -, -, hf, -⟩ := h
  obtain ⟨ls, h1, h2, h3⟩ := rows_calls hf
  rw [h1] at hr
  exact ⟨ls, hr, by rw [← h2]; exact hl, h3⟩
end Go.Proofs.YtdjooacjjnjfmaaGreat
end

-- law15: what the laws share: what a made history is, read in memory.
section
namespace Go.Proofs.YtdjooacjjnjfmaaGreat
set_option linter.unusedVariables false
set_option linter.unusedSimpArgs false
set_option maxRecDepth 20000
open Go.RowKit Go.Proofs.YtdjooacjjnjfmaaGreatMem Go.Proofs.YtdjooacjjnjfmaaGreatMapK Go.Proofs.YtdjooacjjnjfmaaGreatLin H

theorem confP_r15 (c : Cfg) (h : W64 c.unit) : CfgR (confP c) := ⟨confU_bd h, (confP_ok c h).shards⟩
theorem nil_rdI15 (w : World) : RdI w none 0 0 [] := owns_rdI (e := 3) (base := 0) (owns_nil w 0 3 1) (fun z hz => by cases hz)
/-- A history that has an order, its own. -/
structure MadeX (c : Cfg) (X : List DoneS) (most : Nat) : Prop where
  ok : MadeOk X
  run : ∃ m, runL c .new (partsD X) = some m
  len : X.length ≤ most
  small : ∀ x ∈ X, x.l.length ≤ 16
theorem mkAll_small (c : Cfg) (cs : List CallS) (ws rs : List Int) (n : Nat) : ∀ k, ∀ x ∈ (mkAll c cs ws rs n k).out, x.l.length ≤ 16
  | 0, x, hx => by cases hx
  | k + 1, x, hx => by
    have hx : x ∈ (mkRound c cs ws rs n (mkAll c cs ws rs n k) k).out := hx
    unfold mkRound at hx
    rcases List.mem_append.1 hx with hx | hx
    · exact mkAll_small c cs ws rs n k x hx
    · simp only [List.mem_singleton] at hx
      subst hx
      show (List.map pkS _).length ≤ 16
      rw [List.length_map]
      exact doo_ps _ _ _
theorem made_x (c : Cfg) (cs : List CallS) (ws rs : List Int) (most : Nat) : MadeX c (madeS c cs ws rs most).out most := by
  have h := mkOk c (readyL 2 ++ cs) ws rs (madeN cs most) (madeN cs most) (Nat.le_refl _)
  exact ⟨h.ok, ⟨_, h.run⟩, by have := h.len; unfold madeS; rw [this]; unfold madeN; omega, mkAll_small _ _ _ _ _ _⟩
/-- Two calls at least are made. -/
theorem made_two (c : Cfg) (cs : List CallS) (ws rs : List Int) (most : Nat) (h : 2 ≤ most) : 2 ≤ (madeS c cs ws rs most).out.length := by
  have h := mkOk c (readyL 2 ++ cs) ws rs (madeN cs most) (madeN cs most) (Nat.le_refl _)
  have := h.len
  unfold madeS
  rw [this]
  unfold madeN
  omega
section
variable {c : Cfg} {X l : List DoneS} {most : Nat} {w : World} {ao : Option Addr} {n cap : Nat}
theorem MadeX.par (h : MadeX c X most) (hm : most ≤ 12) (hb : l.map DoneS.bare = X) (r : RdD w ao n cap l) : ParOk n l := by
  have hl := r.len
  have hx := h.len
  rw [← hb, List.length_map] at hx
  refine ⟨by omega, fun d hd => ?_⟩
  have h1 := (r.ok d hd).2.len
  have h2 := h.small d.bare (by rw [← hb]; exact List.mem_map_of_mem hd)
  have h2 : d.l.length ≤ 16 := h2
  omega
theorem MadeX.parts (h : MadeX c X most) (hm : most ≤ 12) : (partsD X).length ≤ 204 := by
  have := partsD_length (m := 16) X h.small
  have := h.len
  omega
theorem MadeX.fits (h : MadeX c X most) (hc : c.right = true) : fitsB c X (toI (List.range (partsD X).length)) = true := by
  obtain ⟨m, hr⟩ := h.run
  exact made_fits hc h.ok hr
end
end Go.Proofs.YtdjooacjjnjfmaaGreat
end

-- What the bound on an input's bulk gives: how long the slices in it are.
section
namespace Go.Proofs.YtdjooacjjnjfmaaGreat.bulks
set_option linter.unusedVariables false
set_option linter.unusedSimpArgs false
open Go Go.RowKit Go.ChangeShapes Go.WideShapes Go.Proofs.YtdjooacjjnjfmaaGreatFlat

theorem one_le {H : Type} (d : DataW H) : 1 ≤ Rows.uptoBulk d := by
  cases d with
  | lit l => cases l <;> simp [Rows.uptoBulk]
  | nil => simp [Rows.uptoBulk]
  | ptr d => simp [Rows.uptoBulk]
  | slice elems spare => simp [Rows.uptoBulk]
  | agg parts => simp [Rows.uptoBulk]
  | iface t d => simp [Rows.uptoBulk]
  | map entries => simp [Rows.uptoBulk]
  | held h => simp [Rows.uptoBulk]
theorem part_le {H : Type} {d : DataW H} {l : List (DataW H)} (h : d ∈ l) : Rows.uptoBulk d ≤ Rows.uptoBulkAll l := by
  induction l with
  | nil => cases h
  | cons x r ih =>
    simp only [Rows.uptoBulkAll]
    cases List.mem_cons.1 h with
    | inl e => subst e; omega
    | inr e => have := ih e; omega
theorem append {H : Type} (l r : List (DataW H)) : Rows.uptoBulkAll (l ++ r) = Rows.uptoBulkAll l + Rows.uptoBulkAll r := by
  induction l with
  | nil => simp [Rows.uptoBulkAll]
  | cons x l ih => simp only [List.cons_append, Rows.uptoBulkAll, ih]; omega
theorem length_le {H : Type} (l : List (DataW H)) : l.length ≤ Rows.uptoBulkAll l := by
  induction l with
  | nil => simp [Rows.uptoBulkAll]
  | cons x r ih => have := one_le x; simp only [Rows.uptoBulkAll, List.length_cons]; omega
theorem slice_le {H : Type} (elems spare : List (DataW H)) : elems.length ≤ Rows.uptoBulk (.slice elems spare) ∧ Rows.uptoBulkAll elems ≤ Rows.uptoBulk (.slice elems spare) := by
  have h1 := length_le elems
  simp only [Rows.uptoBulk]
  omega
theorem bound {H : Type} {l : List (DataW H)} (hk : Rows.uptoSmall H l = true) : Rows.uptoBulkAll l ≤ 1048576 := of_decide_eq_true hk
theorem bound_at {H : Type} {l : List (DataW H)} (hk : Rows.uptoSmall H l = true) {d : DataW H} (hd : d ∈ l) : Rows.uptoBulk d ≤ 1048576 := Nat.le_trans (part_le hd) (bound hk)

/-- Every slice among some cells is at most so long. -/
def Short (N : Nat) (cs : List Value) : Prop := ∀ a len cap, Value.slice a len cap ∈ cs → len ≤ N

section
variable {H : Type} {enc : TypeId × Value → H} {P : Program} {w : World} {base : Nat} {spare : Nat → Bool} {held : Bool}
theorem slice_bulk {t e : TypeId} {fuel : Nat} {ao : Option Addr} {len cap : Nat} {x : DataW H × List MemPlace} (hs : P.underlying t = some (.slice e)) (hf : DataW.trod enc P w base spare held fuel t [.slice ao len cap] = some x) : len ≤ Rows.uptoBulk x.1 := by
  rcases Deep.open_slice hs hf with ⟨hcs, _⟩ | ⟨a, len', cap', m, n', D, Pl, hcs, hb, hl, hm, hmm, hx, hi⟩
  · simp at hcs; omega
  · simp only [List.cons.injEq, Value.slice.injEq, and_true] at hcs
    obtain ⟨_, rfl, _⟩ := hcs
    rw [hx]
    have := (slice_le ((List.range len).map D) ((List.range (m - len)).map fun j => D (len + j))).1
    simpa using this
theorem nestFs_short {go : TypeId → Option (List Kn)} {m : Nat}
    (hgo : ∀ t ks cs x, go t = some ks → DataW.trod enc P w base spare held m t cs = some x → Short (Rows.uptoBulk x.1) cs) :
    ∀ (fs : List Field) (off : Nat) (ks : List Kn) (cs : List Value) (xs : List (DataW H × List MemPlace)), nestFs P go off fs = some ks →
      fs.mapM (fun f => DataW.trod enc P w base spare held m f.type ((cs.drop f.offset).take (P.cellsOf f.type))) = some xs → off + ks.length = cs.length →
      Short (Rows.uptoBulkAll (xs.map (·.1))) (cs.drop off)
  | [], off, ks, cs, xs, h, hx, hl => by
    simp only [nestFs, Option.some.injEq] at h
    subst h
    have : cs.drop off = [] := List.drop_eq_nil_of_le (by simp at hl; omega)
    rw [this]
    intro a len cap hm; cases hm
  | f :: fs, off, ks, cs, xs, h, hx, hl => by
    simp only [nestFs] at h
    by_cases ho : f.offset = off
    · rw [if_pos ho] at h
      cases hk : go f.type with
      | none => rw [hk] at h; cases h
      | some k1 =>
        rw [hk] at h
        by_cases hc : P.cellsOf f.type = k1.length
        · simp only [hc, if_true] at h
          cases hr : nestFs P go (off + k1.length) fs with
          | none => rw [hr] at h; cases h
          | some k2 =>
            rw [hr] at h
            simp only [Option.map_some, Option.some.injEq] at h
            subst h
            simp only [List.mapM_cons, Option.bind_eq_bind, Option.bind_eq_some_iff, Option.pure_def, Option.some.injEq] at hx
            obtain ⟨x, hx1, ys, hys, rfl⟩ := hx
            have h1 := hgo _ _ _ _ hk hx1
            have h2 := nestFs_short hgo fs (off + k1.length) k2 cs ys hr hys (by simp at hl; omega)
            have e : cs.drop off = (cs.drop off).take k1.length ++ cs.drop (off + k1.length) := by
              rw [← List.drop_drop]; exact (List.take_append_drop _ _).symm
            rw [e]
            rw [ho, hc] at h1
            intro a len cap hm
            simp only [List.map_cons, Rows.uptoBulkAll]
            rcases List.mem_append.1 hm with hm | hm
            · have := h1 a len cap hm; omega
            · have := h2 a len cap hm; omega
        · simp [hc] at h
    · rw [if_neg ho] at h; cases h
theorem nestK_short : ∀ (n m : Nat) (t : TypeId) (ks : List Kn) (cs : List Value) (x : DataW H × List MemPlace), nestK P n t = some ks →
    DataW.trod enc P w base spare held m t cs = some x → Short (Rows.uptoBulk x.1) cs
  | 0, _, _, _, _, _, h, _ => by cases h
  | n + 1, 0, t, ks, cs, x, _, hx => by simp [DataW.trod] at hx
  | n + 1, m + 1, t, ks, cs, x, h, hx => by
    simp only [nestK] at h
    cases hu : P.underlying t with
    | none => rw [hu] at h; cases h
    | some d =>
      rw [hu] at h
      cases d with
      | bool =>
        obtain ⟨b, rfl, rfl⟩ := DataW.trod_bool hu hx
        intro a len cap hm; simp at hm
      | int k =>
        obtain ⟨a, rfl, rfl, wa⟩ := DataW.trod_int hu hx
        intro a len cap hm; simp at hm
      | struct fs =>
        simp only [Option.bind_eq_some_iff] at h
        obtain ⟨ks', hk, h⟩ := h
        by_cases hc : P.cellsOf t = ks'.length
        · rw [if_pos hc] at h
          simp only [Option.some.injEq] at h
          subst h
          unfold DataW.trod at hx
          rw [hu] at hx
          simp only [hc] at hx
          by_cases hl : cs.length = ks'.length
          · simp only [hl, if_true, Option.map_eq_some_iff] at hx
            obtain ⟨xs, hp, rfl⟩ := hx
            have h2 := nestFs_short (fun t ks cs x => nestK_short n m t ks cs x) fs.toList 0 ks' cs xs hk hp (by omega)
            intro a len cap hm
            have := h2 a len cap (by simpa using hm)
            simp only [Rows.uptoBulk]; omega
          · simp [hl] at hx
        · rw [if_neg hc] at h; cases h
      | slice e =>
        rcases Deep.open_slice hu hx with ⟨hcs, _⟩ | ⟨a, len', cap', m', n', D, Pl, hcs, _⟩
        · subst hcs; intro a len cap hm; simp at hm; omega
        · subst hcs
          intro a len cap hm
          simp only [List.mem_singleton, Value.slice.injEq] at hm
          obtain ⟨rfl, rfl, rfl⟩ := hm
          exact slice_bulk hu hx
      | _ => simp at h
/-- The slices in the elements of a slice. -/
theorem nests_short {n : Nat} {t e : TypeId} {ks : List Kn} {fuel : Nat} {ao : Option Addr} {len cap : Nat} {L : List (List Value)} {x : DataW H × List MemPlace} (hs : P.underlying t = some (.slice e)) (hk : nestK P n e = some ks) (hC : P.cellsOf e = ks.length)
    (hf : DataW.trod enc P w base spare held fuel t [.slice ao len cap] = some x) (h : IsNest w ks ao len cap L) : ∀ l ∈ L, Short (Rows.uptoBulk x.1) l := by
  intro l hl
  obtain ⟨i, hi', rfl⟩ := List.mem_iff_getElem.1 hl
  obtain ⟨hL, _, _, _, hN, hat⟩ := h
  have hil : i < len := by omega
  obtain ⟨b, off, hao, _, hcell⟩ := hat (by omega)
  rcases Deep.open_slice hs hf with ⟨hcs, _⟩ | ⟨a, len', cap', m, n', D, Pl, hcs, hb, hl', hm, hmm, hx, hi⟩
  · simp at hcs; omega
  · simp only [List.cons.injEq, Value.slice.injEq, and_true] at hcs
    obtain ⟨hca, rfl, rfl⟩ := hcs
    rw [hao] at hca
    simp only [Option.some.injEq] at hca
    subst hca
    have hml : len ≤ m := by rw [hmm]; split <;> omega
    obtain ⟨cs', h1, h2⟩ := hi i (by omega)
    have hsh := nestK_short n n' e ks cs' _ hk h2
    obtain ⟨_, hlen, hat2⟩ := World.cells?_some h1
    have hll : ∀ {ks : List Kn} {l : List Value}, NestOk w ks l → l.length = ks.length := by
      intro ks
      induction ks with
      | nil => intro l h; cases h; rfl
      | cons k ks ih => intro l h; obtain ⟨c, r, rfl, _, hr⟩ := h; simp [ih hr]
    have hlen2 : L[i].length = ks.length := hll (hN _ (List.getElem_mem _))
    have e1 : L[i] = cs' := by
      refine List.ext_getElem (by omega) fun j hj hj' => ?_
      have a1 := hcell i L[i] (List.getElem?_eq_getElem hi') j L[i][j] (List.getElem?_eq_getElem hj)
      have a2 := hat2 j (by omega)
      rw [List.getElem?_eq_getElem hj'] at a2
      have a3 : w.cell? ⟨b, off + (i * ks.length + j), none⟩ = some cs'[j] := by
        rw [← a2, hC]
        congr 1
        simp only [Addr.add]
        split <;> split <;> simp_all <;> omega
      rw [a1] at a3
      simpa using a3
    rw [e1]
    intro a2 len2 cap2 hmem
    have h3 := hsh a2 len2 cap2 hmem
    have h4 : Rows.uptoBulk (D i) ≤ Rows.uptoBulk x.1 := by
      rw [hx]
      refine Nat.le_trans (part_le (l := (List.range len).map D) ?_) (slice_le _ _).2
      exact List.mem_map.2 ⟨i, List.mem_range.2 hil, rfl⟩
    exact Nat.le_trans h3 h4
theorem short_nests {n : Nat} {t e : TypeId} {ks : List Kn} {ao : Option Addr} {len cap : Nat} {L : List (List Value)} {d : DataW H} {p : List MemPlace} {N : Nat} (hs : P.underlying t = some (.slice e)) (hk : nestK P n e = some ks) (hC : P.cellsOf e = ks.length)
    (hf : DataW.Trod enc P w base spare held t (.slice ao len cap) d p) (h : IsNest w ks ao len cap L) (hN : Rows.uptoBulk d ≤ N) : ∀ l ∈ L, Short N l := by
  obtain ⟨fuel, hf⟩ := hf
  intro l hl a len2 cap2 hm
  exact Nat.le_trans (nests_short hs hk hC hf h l hl a len2 cap2 hm) hN
theorem len_short {t e : TypeId} {ao : Option Addr} {len cap : Nat} {d : DataW H} {p : List MemPlace} {N : Nat} (hs : P.underlying t = some (.slice e))
    (hf : DataW.Trod enc P w base spare held t (.slice ao len cap) d p) (hN : Rows.uptoBulk d ≤ N) : len ≤ N := by
  obtain ⟨fuel, hf⟩ := hf
  exact Nat.le_trans (slice_bulk hs hf) hN
theorem short_nest {n : Nat} {t : TypeId} {ks : List Kn} {cs : List Value} {d : DataW H} {p : List MemPlace} {N : Nat} (hk : nestK P n t = some ks)
    (hf : DataW.Trod enc P w base spare held t (.agg cs.toArray) d p) (hN : Rows.uptoBulk d ≤ N) : Short N cs := by
  obtain ⟨fuel, hf⟩ := hf
  intro a len2 cap2 hm
  exact Nat.le_trans (nestK_short n fuel t ks _ _ hk hf a len2 cap2 (by simpa [Value.cells] using hm)) hN
end
end Go.Proofs.YtdjooacjjnjfmaaGreat.bulks
end
