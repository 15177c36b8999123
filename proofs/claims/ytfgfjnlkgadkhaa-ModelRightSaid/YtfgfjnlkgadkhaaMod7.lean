/- The model: how many flows of a flow's shard there are. -/
import Derived.Test.YtfgfjnlkgadkhaaMdP
import Derived.Test.YtfgfjnlkgadkhaaMapR
import Derived.BigQuiet
namespace Go.Proofs.Ytfgfjnlkgadkhaa
set_option linter.unusedVariables false
set_option linter.unusedSimpArgs false
set_option maxRecDepth 20000
open Go.RowKit Go.Proofs.YtfgfjnlkgadkhaaMem Go.Proofs.YtfgfjnlkgadkhaaMapK

def cntM (l : List (Int × Value)) (k id : Int) : Nat := (l.filter fun e => decide (e.1.tmod k = id.tmod k)).length
theorem cntM_le (l : List (Int × Value)) (k id : Int) : cntM l k id ≤ l.length := List.length_filter_le _ _
theorem cntM_add (l : List (Int × Value)) (p : Int × Value) (k id : Int) : cntM (l ++ [p]) k id = cntM l k id + if p.1.tmod k = id.tmod k then 1 else 0 := by
  unfold cntM
  rw [List.filter_append, List.length_append]
  by_cases h : p.1.tmod k = id.tmod k
  · rw [if_pos h]; simp [h]
  · rw [if_neg h]; simp [h]
theorem cntM_lens (s : SfS) (k id : Int) : cntM (lensV s) k id = s.mates k id := by
  unfold cntM lensV SfS.mates
  rw [List.filter_map, List.length_map]
  rfl
structure MtSt (w wr : World) (b lm : Nat) (L d : List (Int × Value)) : Prop where
  it : IterAt wr w.heap.size lm (Value.int .i64) L d
  sub : ∀ p ∈ d, p ∈ L
  bel : Below w.heap.size w wr
  dl : d.length ≤ L.length
set_option maxHeartbeats 1000000 in
theorem mates_any (b : Nat) (c : Cfg) (s : SfS) (served : Int) (F : Nat → Prop) (id : Int) (w : World) (h : MdAt w b c s served F) (hn : s.fs.length ≤ 1000000) (hk : c.shards ≠ 0) :
    Calls Try.prog 40 #[.pointer (some ⟨b, 0, none⟩), .int .i64 id] w fun e w' => e = .returned (.int .i64 (s.mates c.shards id)) ∧ Below w.heap.size w w' := by
  obtain ⟨sb, lm, Fs, h⟩ := h
  obtain ⟨q0, q1, q4, q5, q6, q7, hlt⟩ := h.cells
  have hlm := h.lt lm h.hl
  obtain ⟨w1, hr1, hi1, hg1, hs1⟩ := iter_start under_lens h.lens
  have hb1 : Below w.heap.size w w1 := (Below.refl _ _).grown hg1 (Nat.le_refl _) (by intro q hq; cases hq)
  have hst : MtSt w w1 b lm (lensV s) [] := ⟨hi1, fun e he => (by cases he), hb1, Nat.zero_le _⟩
  have hL : (lensV s).length ≤ 1000000 := by unfold lensV; rw [List.length_map]; exact hn
  rw [← cntM_lens]
  generalize lensV s = L at *
  clear h hi1 hg1 hn hb1
  go_enter Try.func40, Try.ntmps40
  go_wp2_with fail
  go_loopw [5] (fun v wr => ∃ d, v = .int .i64 (cntM d c.shards id : Nat) ∧ MtSt w wr b lm L d) (fun _ wr => L.length - (wr.iterSeen w.heap.size).size)
  case atStart => exact ⟨[], rfl, hst⟩
  case round =>
    obtain ⟨d, rfl, hd⟩ := hrel
    rcases iter_next (P := Try.prog) 0 hd.it with ⟨ha, hnx⟩ | ⟨p, hp, hpn, w2, hnx, hen, hi2, hg2, hs2⟩
    · have hc : cntM d c.shards id = cntM L c.shards id := ((hd.it.all ha).filter _).length_eq
      go_wp2_with fail
      go_ret
      exact ⟨by rw [hc]; rfl, hd.bel⟩
    · have hlt2 := hd.it.some_left hp hpn
      have hseen := hd.it.seen
      have hseen2 := hi2.seen
      have hb2 : Below w.heap.size w w2 := hd.bel.grown hg2 hd.bel.size (by intro q hq; cases hq; exact Nat.le_refl _)
      have x0 : w2.cell? ⟨b, 0, none⟩ = some (.int .i64 c.shards) := (hb2.cell (p := ⟨b, 0, none⟩) hlt).trans q0
      have hC := cntM_add d p c.shards id
      have hCl := cntM_le d c.shards id
      have hk0 : (c.shards == 0) = false := by simpa using hk
      have hsub : ∀ q ∈ d ++ [p], q ∈ L := by
        intro q h'
        rcases List.mem_append.1 h' with h' | h'
        · exact hd.sub q h'
        · simp only [List.mem_singleton] at h'; subst h'; exact hp
      have hdl := hd.dl
      have hln : (d ++ [p]).length ≤ L.length := by rw [List.length_append, List.length_singleton]; omega
      have hk2 : ¬ c.shards = 0 := hk
      have HC := Lib.hid hC
      have e1 : Value.int .i64 (IntKind.i64.wrap ((cntM d c.shards id : Int) + 1)) = .int .i64 ((cntM d c.shards id : Int) + 1) := by rw [IntWalk.i64_left, IntWalk.wrap64_in _ (by omega)]
      clear hC
      have hi3 : IterAt w2.drew w.heap.size lm (Value.int .i64) L (d ++ [p]) := hi2.of_eq rfl rfl
      have hseen3 := hi3.seen
      have hb3 := hb2.drew
      by_cases hm : p.1.tmod c.shards = id.tmod c.shards
      · have hmb : (p.1.tmod c.shards == id.tmod c.shards) = true := by simpa using hm
        have HM := Lib.hid hm
        clear hm
        go_upto_region 5 with fail
        go_region
        go_wp2
        go_roundw
        case rel => exact ⟨d ++ [p], by rw [HC.out, if_pos HM.out]; go_num, hi3, hsub, hb3, hln⟩
        case measure => simp [hseen, hseen3]; omega
      · have hmb : (p.1.tmod c.shards == id.tmod c.shards) = false := by simpa using hm
        have HM := Lib.hid hm
        clear hm
        go_upto_region 5 with fail
        go_region
        go_wp2
        go_roundw
        case rel => exact ⟨d ++ [p], by rw [HC.out, if_neg HM.out]; rfl, hi3, hsub, hb3, hln⟩
        case measure => simp [hseen, hseen3]; omega
end Go.Proofs.Ytfgfjnlkgadkhaa
