/- Several texts in one: Awk15 CallsL Lx15 Bulk. -/
import Derived.Test.YtdjooacjjnjfmaaGreatRz
import Derived.Test.YtdjooacjjnjfmaaGreatGx
import Derived.Test.YtdjooacjjnjfmaaGreatGy
import Derived.Test.YtdjooacjjnjfmaaGreatGo
import Derived.Test.YtdjooacjjnjfmaaGreatGq
import Derived.Test.YtdjooacjjnjfmaaGreatGk
import Derived.Test.YtdjooacjjnjfmaaGreatRows
import Derived.Test.YtdjooacjjnjfmaaGreatGf
-- law15's awake: what a program that does nothing does not answer.
section
namespace Go.Proofs.YtdjooacjjnjfmaaGreat
set_option linter.unusedVariables false
set_option linter.unusedSimpArgs false
set_option maxRecDepth 100000
open Go.RowKit Go.Proofs.YtdjooacjjnjfmaaGreatMem Go.Proofs.YtdjooacjjnjfmaaGreatMapK Go.Proofs.YtdjooacjjnjfmaaGreatLin H

def awC : Cfg := ⟨1, 1, 2, 0, 1⟩
def awL : List DoneS := [⟨0, 0, 1, 1, 1, 1, 0, none, 0, 0, 0, 0, 0, 1, []⟩, ⟨0, 1, 3, 1, 1, 0, 0, none, 0, 0, 0, 0, 2, 9, []⟩, ⟨1, 0, 4, 0, 0, 0, 10, none, 0, 0, 0, 0, 3, 4, []⟩]
theorem aw_may : mayB awC awL = true := by decide
theorem aw_found : foundB awC awL = some [0, 2, 1] := by decide
theorem aw_fits : fitsB awC awL [0, 2, 1] = true := by decide
theorem aw_not : fitsB awC awL [0, 1, 2] = false := by decide
theorem lit_rdD15 (w : World) (l : List DoneS) (cs : Array Value) (n : Nat) (hcs : cs.toList = doneC l) (hn : l.length = n) (hm : n ≤ 1000) (hg : ∀ d ∈ l, d.Ok ∧ RdK w d.ao d.len d.cap d.l) :
    RdD (w.alloc (.cells cs 42)) (some ⟨w.heap.size, 0, none⟩) n n l := by
  have h := World.ownsRow_lit (e := 42) (size := 12) (base := w.heap.size) w cs n (Nat.le_refl _) (by unfold maxLen; omega) (by rw [← Array.length_toList, hcs, doneC_length, hn])
  rw [hcs] at h
  exact ⟨owns_rdS h (doneC_one _), hn, fun d hd => ⟨(hg d hd).1, (hg d hd).2.below (below1 _ _)⟩⟩
theorem nil_rdK15 (w : World) : RdK w none 0 0 [] := ⟨owns_rdS (World.ownsRow_nil w 0 59 3) (fun u hu => by cases hu), rfl, fun p hp => by cases hp⟩
theorem lit_rdI15 (w : World) (a b c : Int) (h : I64 a ∧ I64 b ∧ I64 c) : RdI (w.alloc (.cells #[.int .i64 a, .int .i64 b, .int .i64 c] 3)) (some ⟨w.heap.size, 0, none⟩) 3 3 [a, b, c] := by
  have h0 := World.ownsRow_lit (e := 3) (size := 1) (base := w.heap.size) w #[.int .i64 a, .int .i64 b, .int .i64 c] 3 (Nat.le_refl _) (by unfold maxLen; omega) rfl
  exact owns_rdI (zs := [a, b, c]) h0 (fun z hz => by
    simp only [List.mem_cons, List.not_mem_nil, or_false] at hz
    rcases hz with rfl | rfl | rfl
    · exact h.1
    · exact h.2.1
    · exact h.2.2)
theorem awL_ok : ∀ d ∈ awL, d.Ok ∧ d.ao = none ∧ d.len = 0 ∧ d.cap = 0 ∧ d.l = [] := by
  intro d hd
  simp only [awL, List.mem_cons, List.not_mem_nil, or_false] at hd
  rcases hd with rfl | rfl | rfl <;> exact ⟨by unfold DoneS.Ok I64; simp, rfl, rfl, rfl, rfl⟩
set_option maxHeartbeats 4000000 in
theorem awake15_any (w : World) : Calls Tryz.prog 14 #[] w fun e w' => e = .returned (.bool true) ∧ Below w.heap.size w w' := by
  go_enter Tryz.func14, Tryz.ntmps14
  go_upto_region 2 with fail
  have B : Blk (w.alloc (.cells #[.int .i64 1, .int .i64 1, .int .i64 2, .int .i64 0, .int .u64 1] 24)) w.heap.size awC.cells 24 := Blk.new w awC.cells 24
  have hb := below1 w (.cells #[.int .i64 1, .int .i64 1, .int .i64 2, .int .i64 0, .int .u64 1] 24)
  generalize w.alloc (.cells #[.int .i64 1, .int .i64 1, .int .i64 2, .int .i64 0, .int .u64 1] 24) = W at *
  have RD : RdD (W.alloc (.cells #[.int .i64 0, .int .i64 0, .int .i64 1, .int .i64 1, .int .i64 1, .int .i64 1, .int .i64 0, .slice none 0 0, .int .i64 0, .int .u64 0, .int .i64 0, .int .i64 1, .int .i64 0, .int .i64 1, .int .i64 3, .int .i64 1, .int .i64 1, .int .i64 0, .int .i64 0, .slice none 0 0, .int .i64 0, .int .u64 0, .int .i64 2, .int .i64 9, .int .i64 1, .int .i64 0, .int .i64 4, .int .i64 0, .int .i64 0, .int .i64 0, .int .i64 10, .slice none 0 0, .int .i64 0, .int .u64 0, .int .i64 3, .int .i64 4] 42)) (some ⟨W.heap.size, 0, none⟩) 3 3 awL := lit_rdD15 W awL _ 3 rfl rfl (by omega) (fun d hd => by
    obtain ⟨h1, h2, h3, h4, h5⟩ := awL_ok d hd
    rw [h2, h3, h4, h5]
    exact ⟨h1, nil_rdK15 _⟩)
  have hb2 := below1 W (.cells #[.int .i64 0, .int .i64 0, .int .i64 1, .int .i64 1, .int .i64 1, .int .i64 1, .int .i64 0, .slice none 0 0, .int .i64 0, .int .u64 0, .int .i64 0, .int .i64 1, .int .i64 0, .int .i64 1, .int .i64 3, .int .i64 1, .int .i64 1, .int .i64 0, .int .i64 0, .slice none 0 0, .int .i64 0, .int .u64 0, .int .i64 2, .int .i64 9, .int .i64 1, .int .i64 0, .int .i64 4, .int .i64 0, .int .i64 0, .int .i64 0, .int .i64 10, .slice none 0 0, .int .i64 0, .int .u64 0, .int .i64 3, .int .i64 4] 42)
  have HRD := Lib.hid RD
  have HB2 := Lib.hid (hb.trans (hb2.mono hb.size))
  have HC2 := Lib.hid (B.below hb2)
  clear RD B hb hb2
  go_upto_region 3 with fail
  generalize W.alloc (.cells #[.int .i64 0, .int .i64 0, .int .i64 1, .int .i64 1, .int .i64 1, .int .i64 1, .int .i64 0, .slice none 0 0, .int .i64 0, .int .u64 0, .int .i64 0, .int .i64 1, .int .i64 0, .int .i64 1, .int .i64 3, .int .i64 1, .int .i64 1, .int .i64 0, .int .i64 0, .slice none 0 0, .int .i64 0, .int .u64 0, .int .i64 2, .int .i64 9, .int .i64 1, .int .i64 0, .int .i64 4, .int .i64 0, .int .i64 0, .int .i64 0, .int .i64 10, .slice none 0 0, .int .i64 0, .int .u64 0, .int .i64 3, .int .i64 4] 42) = W2 at *
  generalize W.heap.size = L at *
  have CP : Hid (ParOk 3 awL) := Lib.hid ⟨by omega, fun d hd => by rw [(awL_ok d hd).2.2.1]; omega⟩
  have CS := linSearch_any awC (by unfold W64 awC; simp) (some ⟨L, 0, none⟩) 3 3 awL
  rw [aw_found] at CS
  have HCS := Lib.hid CS
  have HCF := Lib.hid (fun oo on ocap o w1 h => linFits_any awC (by unfold W64 awC; simp) (some ⟨L, 0, none⟩) 3 3 awL oo on ocap o w1 h CP.out)
  have HF1 := Lib.hid aw_fits
  have HF2 := Lib.hid aw_not
  clear CS
  have x0 : W2.cell? ⟨w.heap.size, 0, none⟩ = some (.int .i64 1) := HC2.out.cell 0
  have x1 : W2.cell? ⟨w.heap.size, 1, none⟩ = some (.int .i64 1) := HC2.out.cell 1
  have x2 : W2.cell? ⟨w.heap.size, 2, none⟩ = some (.int .i64 2) := HC2.out.cell 2
  have x3 : W2.cell? ⟨w.heap.size, 3, none⟩ = some (.int .i64 0) := HC2.out.cell 3
  have x4 : W2.cell? ⟨w.heap.size, 4, none⟩ = some (.int .u64 1) := HC2.out.cell 4
  have xl := HC2.out.lt
  go_wp2_with fail
  refine (HCS.out W2 HRD.out CP.out).mono ?_
  rintro e w3 ⟨⟨oa, oc, rfl, hrow⟩, hb3⟩
  have hrd : RdI w3 oa 3 oc [0, 2, 1] := owns_rdI (zs := toI [0, 2, 1]) hrow (fun z hz => by
    simp only [toI, List.map_cons, List.map_nil, List.mem_cons, List.not_mem_nil, or_false] at hz
    unfold I64
    rcases hz with rfl | rfl | rfl <;> simp)
  have HO := Lib.hid hrd
  have HB3 := Lib.hid (HB2.out.trans (hb3.mono HB2.out.size))
  have HC3 := Lib.hid (HC2.out.below hb3)
  have HRD3 := Lib.hid (HRD.out.below hb3)
  clear hrd hrow hb3 x0 x1 x2 x3 x4 xl HB2 HC2 HRD
  go_wp2_with fail
  have hI4 := lit_rdI15 w3 0 2 1 (by unfold I64; omega)
  have hb4' := below1 w3 (.cells #[.int .i64 0, .int .i64 2, .int .i64 1] 3)
  refine (plainI_any oa _ 3 oc 3 3 [0, 2, 1] [0, 2, 1] _ (RdI.below (B := 0) HO.out hb4') hI4).mono ?_
  rw [eqI_same]
  rintro e w4 ⟨rfl, hb4⟩
  replace hb4 := below_step hb4' hb4
  have HB4 := Lib.hid (HB3.out.trans (hb4.mono HB3.out.size))
  have HC4 := Lib.hid (HC3.out.below hb4)
  have HRD4 := Lib.hid (HRD3.out.below hb4)
  have HO4 := Lib.hid (RdI.below (B := 0) HO.out hb4)
  clear hb4 hb4' hI4 HB3 HC3 HRD3 HO
  have x0 : w4.cell? ⟨w.heap.size, 0, none⟩ = some (.int .i64 1) := HC4.out.cell 0
  have x1 : w4.cell? ⟨w.heap.size, 1, none⟩ = some (.int .i64 1) := HC4.out.cell 1
  have x2 : w4.cell? ⟨w.heap.size, 2, none⟩ = some (.int .i64 2) := HC4.out.cell 2
  have x3 : w4.cell? ⟨w.heap.size, 3, none⟩ = some (.int .i64 0) := HC4.out.cell 3
  have x4 : w4.cell? ⟨w.heap.size, 4, none⟩ = some (.int .u64 1) := HC4.out.cell 4
  have xl := HC4.out.lt
  go_wp2_with fail
  refine (HCF.out _ _ _ _ w4 HRD4.out HO4.out (by omega)).mono ?_
  rw [HF1.out]
  rintro e w5 ⟨rfl, hb5⟩
  have HB5 := Lib.hid (HB4.out.trans (hb5.mono HB4.out.size))
  have HC5 := Lib.hid (HC4.out.below hb5)
  have HRD5 := Lib.hid (HRD4.out.below hb5)
  clear hb5 HB4 HC4 HRD4 HO4 x0 x1 x2 x3 x4 xl
  have x0 : w5.cell? ⟨w.heap.size, 0, none⟩ = some (.int .i64 1) := HC5.out.cell 0
  have x1 : w5.cell? ⟨w.heap.size, 1, none⟩ = some (.int .i64 1) := HC5.out.cell 1
  have x2 : w5.cell? ⟨w.heap.size, 2, none⟩ = some (.int .i64 2) := HC5.out.cell 2
  have x3 : w5.cell? ⟨w.heap.size, 3, none⟩ = some (.int .i64 0) := HC5.out.cell 3
  have x4 : w5.cell? ⟨w.heap.size, 4, none⟩ = some (.int .u64 1) := HC5.out.cell 4
  have xl := HC5.out.lt
  go_wp2_with fail
  have hI6 := lit_rdI15 w5 0 1 2 (by unfold I64; omega)
  have hb6' := below1 w5 (.cells #[.int .i64 0, .int .i64 1, .int .i64 2] 3)
  refine (HCF.out _ _ _ _ _ (HRD5.out.below hb6') hI6 (by omega)).mono ?_
  rw [HF2.out]
  rintro e w6 ⟨rfl, hb6⟩
  replace hb6 := below_step hb6' hb6
  have HB6 := Lib.hid (HB5.out.trans (hb6.mono HB5.out.size))
  clear hb6 hb6' hI6 x0 x1 x2 x3 x4 xl
  go_wp2
  go_ret
  exact ⟨rfl, HB6.out⟩
end Go.Proofs.YtdjooacjjnjfmaaGreat
end

-- An argument that is a slice of calls.
section
namespace Go.Proofs.YtdjooacjjnjfmaaGreat
set_option linter.unusedVariables false
set_option linter.unusedSimpArgs false
set_option maxRecDepth 20000
open Go.RowKit Go.Proofs.YtdjooacjjnjfmaaGreatMem Go.Proofs.YtdjooacjjnjfmaaGreatFlat Go.Proofs.YtdjooacjjnjfmaaGreatMapK

theorem call_of {cs : List Value} (h : FlatOk [.int .i64, .int .i64, .int .i64, .int .i64] cs) : ∃ d : CallS, cs = d.cells ∧ d.Ok := by
  obtain ⟨_, _, rfl, ⟨a, rfl, ha⟩, _, _, rfl, ⟨b, rfl, hb⟩, _, _, rfl, ⟨c, rfl, hc⟩, _, _, rfl, ⟨d, rfl, hd⟩, rfl⟩ := h
  exact ⟨⟨a, b, c, d⟩, rfl, i64_of_wf ha, i64_of_wf hb, i64_of_wf hc, i64_of_wf hd⟩
theorem rows_calls {L : List (List Value)} (h : ∀ l ∈ L, FlatOk [.int .i64, .int .i64, .int .i64, .int .i64] l) : ∃ ls : List CallS, L.flatten = callsC ls ∧ L.length = ls.length ∧ ∀ a ∈ ls, a.Ok := by
  induction L with
  | nil => exact ⟨[], rfl, rfl, fun a ha => by cases ha⟩
  | cons c L ih =>
    obtain ⟨d, hd, ho⟩ := call_of (h c List.mem_cons_self)
    obtain ⟨ls, h1, h2, h3⟩ := ih fun l hl => h l (List.mem_cons_of_mem _ hl)
    refine ⟨d :: ls, ?_, by simp [h2], fun a ha => ?_⟩
    · rw [List.flatten_cons, hd, h1]; rfl
    · rcases List.mem_cons.1 ha with rfl | ha
      · exact ho
      · exact h3 a ha
theorem isRows_rdC {w : World} {ao : Option Addr} {n cap : Nat} {L : List (List Value)} (h : IsRows w [.int .i64, .int .i64, .int .i64, .int .i64] ao n cap L) : ∃ l, RdC w ao n cap l := by
  have hr := isRows_rdS (by decide) h
  obtain ⟨hl, -, -, -, hf, -⟩ := h
  obtain ⟨ls, h1, h2, h3⟩ := rows_calls hf
  rw [h1] at hr
  exact ⟨ls, hr, by rw [← h2]; exact hl, h3⟩
end Go.Proofs.YtdjooacjjnjfmaaGreat
end

-- law15: what the laws share: what a made history is, read in memory.
section
namespace Go.Proofs.YtdjooacjjnjfmaaGreat
set_option linter.unusedVariables false
set_option linter.unusedSimpArgs false
set_option maxRecDepth 20000
open Go.RowKit Go.Proofs.YtdjooacjjnjfmaaGreatMem Go.Proofs.YtdjooacjjnjfmaaGreatMapK Go.Proofs.YtdjooacjjnjfmaaGreatLin H

theorem confP_r15 (c : Cfg) (h : W64 c.unit) : CfgR (confP c) := ⟨confU_bd h, (confP_ok c h).shards⟩
theorem nil_rdI15 (w : World) : RdI w none 0 0 [] := owns_rdI (e := 3) (base := 0) (owns_nil w 0 3 1) (fun z hz => by cases hz)
/-- A history that has an order, its own. -/
structure MadeX (c : Cfg) (X : List DoneS) (most : Nat) : Prop where
  ok : MadeOk X
  run : ∃ m, runL c .new (partsD X) = some m
  len : X.length ≤ most
  small : ∀ x ∈ X, x.l.length ≤ 16
theorem mkAll_small (c : Cfg) (cs : List CallS) (ws rs : List Int) (n : Nat) : ∀ k, ∀ x ∈ (mkAll c cs ws rs n k).out, x.l.length ≤ 16
  | 0, x, hx => by cases hx
  | k + 1, x, hx => by
    have hx : x ∈ (mkRound c cs ws rs n (mkAll c cs ws rs n k) k).out := hx
    unfold mkRound at hx
    rcases List.mem_append.1 hx with hx | hx
    · exact mkAll_small c cs ws rs n k x hx
    · simp only [List.mem_singleton] at hx
      subst hx
      show (List.map pkS _).length ≤ 16
      rw [List.length_map]
      exact doo_ps _ _ _
theorem made_x (c : Cfg) (cs : List CallS) (ws rs : List Int) (most : Nat) : MadeX c (madeS c cs ws rs most).out most := by
  have h := mkOk c (readyL 2 ++ cs) ws rs (madeN cs most) (madeN cs most) (Nat.le_refl _)
  exact ⟨h.ok, ⟨_, h.run⟩, by have := h.len; unfold madeS; rw [this]; unfold madeN; omega, mkAll_small _ _ _ _ _ _⟩
/-- Two calls at least are made. -/
theorem made_two (c : Cfg) (cs : List CallS) (ws rs : List Int) (most : Nat) (h : 2 ≤ most) : 2 ≤ (madeS c cs ws rs most).out.length := by
  have h := mkOk c (readyL 2 ++ cs) ws rs (madeN cs most) (madeN cs most) (Nat.le_refl _)
  have := h.len
  unfold madeS
  rw [this]
  unfold madeN
  omega
section
variable {c : Cfg} {X l : List DoneS} {most : Nat} {w : World} {ao : Option Addr} {n cap : Nat}
theorem MadeX.par (h : MadeX c X most) (hm : most ≤ 12) (hb : l.map DoneS.bare = X) (r : RdD w ao n cap l) : ParOk n l := by
  have hl := r.len
  have hx := h.len
  rw [← hb, List.length_map] at hx
  refine ⟨by omega, fun d hd => ?_⟩
  have h1 := (r.ok d hd).2.len
  have h2 := h.small d.bare (by rw [← hb]; exact List.mem_map_of_mem hd)
  have h2 : d.l.length ≤ 16 := h2
  omega
theorem MadeX.parts (h : MadeX c X most) (hm : most ≤ 12) : (partsD X).length ≤ 204 := by
  have := partsD_length (m := 16) X h.small
  have := h.len
  omega
theorem MadeX.fits (h : MadeX c X most) (hc : c.right = true) : fitsB c X (toI (List.range (partsD X).length)) = true := by
  obtain ⟨m, hr⟩ := h.run
  exact made_fits hc h.ok hr
end
end Go.Proofs.YtdjooacjjnjfmaaGreat
end

-- What the bound on an input's bulk gives: how long the slices in it are.
section
namespace Go.Proofs.YtdjooacjjnjfmaaGreat.bulks
set_option linter.unusedVariables false
set_option linter.unusedSimpArgs false
open Go Go.RowKit Go.ChangeShapes Go.WideShapes Go.Proofs.YtdjooacjjnjfmaaGreatFlat

theorem one_le {H : Type} (d : DataW H) : 1 ≤ Rows.uptoBulk d := by
  cases d with
  | lit l => cases l <;> simp [Rows.uptoBulk]
  | nil => simp [Rows.uptoBulk]
  | ptr d => simp [Rows.uptoBulk]
  | slice elems spare => simp [Rows.uptoBulk]
  | agg parts => simp [Rows.uptoBulk]
  | iface t d => simp [Rows.uptoBulk]
  | map entries => simp [Rows.uptoBulk]
  | held h => simp [Rows.uptoBulk]
theorem part_le {H : Type} {d : DataW H} {l : List (DataW H)} (h : d ∈ l) : Rows.uptoBulk d ≤ Rows.uptoBulkAll l := by
  induction l with
  | nil => cases h
  | cons x r ih =>
    simp only [Rows.uptoBulkAll]
    cases List.mem_cons.1 h with
    | inl e => subst e; omega
    | inr e => have := ih e; omega
theorem append {H : Type} (l r : List (DataW H)) : Rows.uptoBulkAll (l ++ r) = Rows.uptoBulkAll l + Rows.uptoBulkAll r := by
  induction l with
  | nil => simp [Rows.uptoBulkAll]
  | cons x l ih => simp only [List.cons_append, Rows.uptoBulkAll, ih]; omega
theorem length_le {H : Type} (l : List (DataW H)) : l.length ≤ Rows.uptoBulkAll l := by
  induction l with
  | nil => simp [Rows.uptoBulkAll]
  | cons x r ih => have := one_le x; simp only [Rows.uptoBulkAll, List.length_cons]; omega
theorem slice_le {H : Type} (elems spare : List (DataW H)) : elems.length ≤ Rows.uptoBulk (.slice elems spare) ∧ Rows.uptoBulkAll elems ≤ Rows.uptoBulk (.slice elems spare) := by
  have h1 := length_le elems
  simp only [Rows.uptoBulk]
  omega
theorem bound {H : Type} {l : List (DataW H)} (hk : Rows.uptoSmall H l = true) : Rows.uptoBulkAll l ≤ 1048576 := of_decide_eq_true hk
theorem bound_at {H : Type} {l : List (DataW H)} (hk : Rows.uptoSmall H l = true) {d : DataW H} (hd : d ∈ l) : Rows.uptoBulk d ≤ 1048576 := Nat.le_trans (part_le hd) (bound hk)

/-- Every slice among some cells is at most so long. -/
def Short (N : Nat) (cs : List Value) : Prop := ∀ a len cap, Value.slice a len cap ∈ cs → len ≤ N

section
variable {H : Type} {enc : TypeId × Value → H} {P : Program} {w : World} {base : Nat} {spare : Nat → Bool} {held : Bool}
theorem slice_bulk {t e : TypeId} {fuel : Nat} {ao : Option Addr} {len cap : Nat} {x : DataW H × List MemPlace} (hs : P.underlying t = some (.slice e)) (hf : DataW.trod enc P w base spare held fuel t [.slice ao len cap] = some x) : len ≤ Rows.uptoBulk x.1 := by
  rcases Deep.open_slice hs hf with ⟨hcs, _⟩ | ⟨a, len', cap', m, n', D, Pl, hcs, hb, hl, hm, hmm, hx, hi⟩
  · simp at hcs; omega
  · simp only [List.cons.injEq, Value.slice.injEq, and_true] at hcs
    obtain ⟨_, rfl, _⟩ := hcs
    rw [hx]
    have := (slice_le ((List.range len).map D) ((List.range (m - len)).map fun j => D (len + j))).1
    simpa using this
theorem nestFs_short {go : TypeId → Option (List Kn)} {m : Nat}
    (hgo : ∀ t ks cs x, go t = some ks → DataW.trod enc P w base spare held m t cs = some x → Short (Rows.uptoBulk x.1) cs) :
    ∀ (fs : List Field) (off : Nat) (ks : List Kn) (cs : List Value) (xs : List (DataW H × List MemPlace)), nestFs P go off fs = some ks →
      fs.mapM (fun f => DataW.trod enc P w base spare held m f.type ((cs.drop f.offset).take (P.cellsOf f.type))) = some xs → off + ks.length = cs.length →
      Short (Rows.uptoBulkAll (xs.map (·.1))) (cs.drop off)
  | [], off, ks, cs, xs, h, hx, hl => by
    simp only [nestFs, Option.some.injEq] at h
    subst h
    have : cs.drop off = [] := List.drop_eq_nil_of_le (by simp at hl; omega)
    rw [this]
    intro a len cap hm; cases hm
  | f :: fs, off, ks, cs, xs, h, hx, hl => by
    simp only [nestFs] at h
    by_cases ho : f.offset = off
    · rw [if_pos ho] at h
      cases hk : go f.type with
      | none => rw [hk] at h; cases h
      | some k1 =>
        rw [hk] at h
        by_cases hc : P.cellsOf f.type = k1.length
        · simp only [hc, if_true] at h
          cases hr : nestFs P go (off + k1.length) fs with
          | none => rw [hr] at h; cases h
          | some k2 =>
            rw [hr] at h
            simp only [Option.map_some, Option.some.injEq] at h
            subst h
            simp only [List.mapM_cons, Option.bind_eq_bind, Option.bind_eq_some_iff, Option.pure_def, Option.some.injEq] at hx
            obtain ⟨x, hx1, ys, hys, rfl⟩ := hx
            have h1 := hgo _ _ _ _ hk hx1
            have h2 := nestFs_short hgo fs (off + k1.length) k2 cs ys hr hys (by simp at hl; omega)
            have e : cs.drop off = (cs.drop off).take k1.length ++ cs.drop (off + k1.length) := by
              rw [← List.drop_drop]; exact (List.take_append_drop _ _).symm
            rw [e]
            rw [ho, hc] at h1
            intro a len cap hm
            simp only [List.map_cons, Rows.uptoBulkAll]
            rcases List.mem_append.1 hm with hm | hm
            · have := h1 a len cap hm; omega
            · have := h2 a len cap hm; omega
        · simp [hc] at h
    · rw [if_neg ho] at h; cases h
theorem nestK_short : ∀ (n m : Nat) (t : TypeId) (ks : List Kn) (cs : List Value) (x : DataW H × List MemPlace), nestK P n t = some ks →
    DataW.trod enc P w base spare held m t cs = some x → Short (Rows.uptoBulk x.1) cs
  | 0, _, _, _, _, _, h, _ => by cases h
  | n + 1, 0, t, ks, cs, x, _, hx => by simp [DataW.trod] at hx
  | n + 1, m + 1, t, ks, cs, x, h, hx => by
    simp only [nestK] at h
    cases hu : P.underlying t with
    | none => rw [hu] at h; cases h
    | some d =>
      rw [hu] at h
      cases d with
      | bool =>
        obtain ⟨b, rfl, rfl⟩ := DataW.trod_bool hu hx
        intro a len cap hm; simp at hm
      | int k =>
        obtain ⟨a, rfl, rfl, wa⟩ := DataW.trod_int hu hx
        intro a len cap hm; simp at hm
      | struct fs =>
        simp only [Option.bind_eq_some_iff] at h
        obtain ⟨ks', hk, h⟩ := h
        by_cases hc : P.cellsOf t = ks'.length
        · rw [if_pos hc] at h
          simp only [Option.some.injEq] at h
          subst h
          unfold DataW.trod at hx
          rw [hu] at hx
          simp only [hc] at hx
          by_cases hl : cs.length = ks'.length
          · simp only [hl, if_true, Option.map_eq_some_iff] at hx
            obtain ⟨xs, hp, rfl⟩ := hx
            have h2 := nestFs_short (fun t ks cs x => nestK_short n m t ks cs x) fs.toList 0 ks' cs xs hk hp (by omega)
            intro a len cap hm
            have := h2 a len cap (by simpa using hm)
            simp only [Rows.uptoBulk]; omega
          · simp [hl] at hx
        · rw [if_neg hc] at h; cases h
      | slice e =>
        rcases Deep.open_slice hu hx with ⟨hcs, _⟩ | ⟨a, len', cap', m', n', D, Pl, hcs, _⟩
        · subst hcs; intro a len cap hm; simp at hm; omega
        · subst hcs
          intro a len cap hm
          simp only [List.mem_singleton, Value.slice.injEq] at hm
          obtain ⟨rfl, rfl, rfl⟩ := hm
          exact slice_bulk hu hx
      | _ => simp at h
/-- The slices in the elements of a slice. -/
theorem nests_short {n : Nat} {t e : TypeId} {ks : List Kn} {fuel : Nat} {ao : Option Addr} {len cap : Nat} {L : List (List Value)} {x : DataW H × List MemPlace} (hs : P.underlying t = some (.slice e)) (hk : nestK P n e = some ks) (hC : P.cellsOf e = ks.length)
    (hf : DataW.trod enc P w base spare held fuel t [.slice ao len cap] = some x) (h : IsNest w ks ao len cap L) : ∀ l ∈ L, Short (Rows.uptoBulk x.1) l := by
  intro l hl
  obtain ⟨i, hi', rfl⟩ := List.mem_iff_getElem.1 hl
  obtain ⟨hL, _, _, _, hN, hat⟩ := h
  have hil : i < len := by omega
  obtain ⟨b, off, hao, _, hcell⟩ := hat (by omega)
  rcases Deep.open_slice hs hf with ⟨hcs, _⟩ | ⟨a, len', cap', m, n', D, Pl, hcs, hb, hl', hm, hmm, hx, hi⟩
  · simp at hcs; omega
  · simp only [List.cons.injEq, Value.slice.injEq, and_true] at hcs
    obtain ⟨hca, rfl, rfl⟩ := hcs
    rw [hao] at hca
    simp only [Option.some.injEq] at hca
    subst hca
    have hml : len ≤ m := by rw [hmm]; split <;> omega
    obtain ⟨cs', h1, h2⟩ := hi i (by omega)
    have hsh := nestK_short n n' e ks cs' _ hk h2
    obtain ⟨_, hlen, hat2⟩ := World.cells?_some h1
    have hll : ∀ {ks : List Kn} {l : List Value}, NestOk w ks l → l.length = ks.length := by
      intro ks
      induction ks with
      | nil => intro l h; cases h; rfl
      | cons k ks ih => intro l h; obtain ⟨c, r, rfl, _, hr⟩ := h; simp [ih hr]
    have hlen2 : L[i].length = ks.length := hll (hN _ (List.getElem_mem _))
    have e1 : L[i] = cs' := by
      refine List.ext_getElem (by omega) fun j hj hj' => ?_
      have a1 := hcell i L[i] (List.getElem?_eq_getElem hi') j L[i][j] (List.getElem?_eq_getElem hj)
      have a2 := hat2 j (by omega)
      rw [List.getElem?_eq_getElem hj'] at a2
      have a3 : w.cell? ⟨b, off + (i * ks.length + j), none⟩ = some cs'[j] := by
        rw [← a2, hC]
        congr 1
        simp only [Addr.add]
        split <;> split <;> simp_all <;> omega
      rw [a1] at a3
      simpa using a3
    rw [e1]
    intro a2 len2 cap2 hmem
    have h3 := hsh a2 len2 cap2 hmem
    have h4 : Rows.uptoBulk (D i) ≤ Rows.uptoBulk x.1 := by
      rw [hx]
      refine Nat.le_trans (part_le (l := (List.range len).map D) ?_) (slice_le _ _).2
      exact List.mem_map.2 ⟨i, List.mem_range.2 hil, rfl⟩
    exact Nat.le_trans h3 h4
theorem short_nests {n : Nat} {t e : TypeId} {ks : List Kn} {ao : Option Addr} {len cap : Nat} {L : List (List Value)} {d : DataW H} {p : List MemPlace} {N : Nat} (hs : P.underlying t = some (.slice e)) (hk : nestK P n e = some ks) (hC : P.cellsOf e = ks.length)
    (hf : DataW.Trod enc P w base spare held t (.slice ao len cap) d p) (h : IsNest w ks ao len cap L) (hN : Rows.uptoBulk d ≤ N) : ∀ l ∈ L, Short N l := by
  obtain ⟨fuel, hf⟩ := hf
  intro l hl a len2 cap2 hm
  exact Nat.le_trans (nests_short hs hk hC hf h l hl a len2 cap2 hm) hN
theorem len_short {t e : TypeId} {ao : Option Addr} {len cap : Nat} {d : DataW H} {p : List MemPlace} {N : Nat} (hs : P.underlying t = some (.slice e))
    (hf : DataW.Trod enc P w base spare held t (.slice ao len cap) d p) (hN : Rows.uptoBulk d ≤ N) : len ≤ N := by
  obtain ⟨fuel, hf⟩ := hf
  exact Nat.le_trans (slice_bulk hs hf) hN
theorem short_nest {n : Nat} {t : TypeId} {ks : List Kn} {cs : List Value} {d : DataW H} {p : List MemPlace} {N : Nat} (hk : nestK P n t = some ks)
    (hf : DataW.Trod enc P w base spare held t (.agg cs.toArray) d p) (hN : Rows.uptoBulk d ≤ N) : Short N cs := by
  obtain ⟨fuel, hf⟩ := hf
  intro a len2 cap2 hm
  exact Nat.le_trans (nestK_short n fuel t ks _ _ hk hf a len2 cap2 (by simpa [Value.cells] using hm)) hN
end
end Go.Proofs.YtdjooacjjnjfmaaGreat.bulks
end
