/- The model: a new one. -/
import Derived.Test.YtfgfjnlkgadkhaaMod16
import Derived.Deep.RegionWith
namespace Go.Proofs.Ytfgfjnlkgadkhaa
set_option linter.unusedVariables false
set_option linter.unusedSimpArgs false
set_option maxRecDepth 20000
open Go.RowKit Go.Proofs.YtfgfjnlkgadkhaaMem Go.Proofs.YtfgfjnlkgadkhaaMapK

theorem md_new {w w2 : World} {sb lm : Nat} {Fs : Nat → Prop} (c : Cfg) (h : SfsAt w2 sb SfS.new Fs) (hF : ∀ k, Fs k → w.heap.size ≤ k ∧ k < w2.heap.size) (hm : IsMapAt w2 lm (Value.int .i64) []) (hl : w.heap.size ≤ lm) (hn : ¬ Fs lm) (hw : w.heap.size ≤ w2.heap.size) :
    MdAt (w2.alloc (.cells #[.int .i64 c.shards, .int .i64 c.slots, .int .i64 c.workers, .int .i64 c.width, .int .u64 c.unit, .pointer (some ⟨sb, 0, none⟩), .map (some lm), .int .i64 0] 65)) w2.heap.size c SfS.new 0 (fun k => w.heap.size ≤ k ∧ k < w2.heap.size + 1) := by
  have hb := below1 w2 (.cells #[.int .i64 c.shards, .int .i64 c.slots, .int .i64 c.workers, .int .i64 c.width, .int .u64 c.unit, .pointer (some ⟨sb, 0, none⟩), .map (some lm), .int .i64 0] 65)
  have hlm := hm.lt
  have hs : (w2.alloc (.cells #[.int .i64 c.shards, .int .i64 c.slots, .int .i64 c.workers, .int .i64 c.width, .int .u64 c.unit, .pointer (some ⟨sb, 0, none⟩), .map (some lm), .int .i64 0] 65)).heap.size = w2.heap.size + 1 := by simp
  refine ⟨sb, lm, Fs, Blk.new w2 _ _, h.below hb, hm.of_eq (hb.block lm hlm), fun k hk => ?_, ⟨hw, by omega⟩, ⟨hl, by omega⟩, by omega, fun k hk => by rw [hs]; exact hk.2⟩
  have := hF k hk
  refine ⟨⟨this.1, by omega⟩, by omega, fun e => by subst e; exact hn hk⟩
/-- A new model: what was made. -/
def NewPost (c : Cfg) (w : World) (e : Ending) (w' : World) : Prop :=
  if c.right then ∃ b, e = .returned (.tuple #[.pointer (some ⟨b, 0, none⟩), .int .i64 0]) ∧ MdAt w' b c SfS.new 0 (fun k => w.heap.size ≤ k ∧ k < w'.heap.size) ∧ Below w.heap.size w w'
  else e = .returned (.tuple #[.pointer none, .int .i64 1]) ∧ Below w.heap.size w w'
set_option maxHeartbeats 4000000 in
theorem new11_any (c : Cfg) (w : World) :
    Calls Try.prog 11 #[.agg #[.int .i64 c.shards, .int .i64 c.slots, .int .i64 c.workers, .int .i64 c.width, .int .u64 c.unit]] w (NewPost c w) := by
  have hb := below1 w (.cells #[.int .i64 c.shards, .int .i64 c.slots, .int .i64 c.workers, .int .i64 c.width, .int .u64 c.unit] 24)
  have B0 : Blk (w.alloc (.cells #[.int .i64 c.shards, .int .i64 c.slots, .int .i64 c.workers, .int .i64 c.width, .int .u64 c.unit] 24)) w.heap.size c.cells 24 := Blk.new w c.cells 24
  have C0 := right_any c
  go_enter Try.func11, Try.ntmps11
  go_upto_region 1 with fail
  generalize (w.alloc (.cells #[.int .i64 c.shards, .int .i64 c.slots, .int .i64 c.workers, .int .i64 c.width, .int .u64 c.unit] 24)) = W at *
  have b0 : W.cell? ⟨w.heap.size, 0, none⟩ = some (.int .i64 c.shards) := B0.cell 0
  have b1 : W.cell? ⟨w.heap.size, 1, none⟩ = some (.int .i64 c.slots) := B0.cell 1
  have b2 : W.cell? ⟨w.heap.size, 2, none⟩ = some (.int .i64 c.workers) := B0.cell 2
  have b3 : W.cell? ⟨w.heap.size, 3, none⟩ = some (.int .i64 c.width) := B0.cell 3
  have b4 : W.cell? ⟨w.heap.size, 4, none⟩ = some (.int .u64 c.unit) := B0.cell 4
  have hl := B0.lt
  go_wp2_with fail
  refine (C0 _).mono ?_
  rintro e W2 ⟨rfl, hb2⟩
  have HB := Lib.hid (hb.trans (hb2.mono hb.size))
  have B2 := B0.below hb2
  clear hb hb2 B0 b0 b1 b2 b3 b4 hl
  generalize hR : c.right = R
  cases R with
  | false =>
    go_wp2
    go_ret2
    unfold NewPost
    rw [hR]
    exact ⟨rfl, HB.out⟩
  | true =>
    have HC := Lib.hid hR
    clear hR C0
    have b0 : W2.drew.cell? ⟨w.heap.size, 0, none⟩ = some (.int .i64 c.shards) := B2.cell 0
    have b1 : W2.drew.cell? ⟨w.heap.size, 1, none⟩ = some (.int .i64 c.slots) := B2.cell 1
    have b2 : W2.drew.cell? ⟨w.heap.size, 2, none⟩ = some (.int .i64 c.workers) := B2.cell 2
    have b3 : W2.drew.cell? ⟨w.heap.size, 3, none⟩ = some (.int .i64 c.width) := B2.cell 3
    have b4 : W2.drew.cell? ⟨w.heap.size, 4, none⟩ = some (.int .u64 c.unit) := B2.cell 4
    have hl := B2.lt
    have hmm : (Instr.makeMap 63 none).run Try.prog W2.drew = .ok (.map (some W2.heap.size)) (W2.drew.alloc (.map #[] 0)) := rfl
    have T1 : Below W2.heap.size W2 W2.drew := (Below.refl _ _).drew
    have T2 : Below W2.heap.size W2 (W2.alloc (.map #[] 0)).drew := (below1 _ _).drew
    have HCL : Hid (∀ w', Below W2.heap.size W2 w' → w'.cell? ⟨w.heap.size, 0, none⟩ = some (.int .i64 c.shards) ∧ w'.cell? ⟨w.heap.size, 1, none⟩ = some (.int .i64 c.slots) ∧ w'.cell? ⟨w.heap.size, 2, none⟩ = some (.int .i64 c.workers) ∧ w'.cell? ⟨w.heap.size, 3, none⟩ = some (.int .i64 c.width) ∧ w'.cell? ⟨w.heap.size, 4, none⟩ = some (.int .u64 c.unit)) := Lib.hid fun w' hb =>
      ⟨(B2.below hb).cell 0, (B2.below hb).cell 1, (B2.below hb).cell 2, (B2.below hb).cell 3, (B2.below hb).cell 4⟩
    go_upto_region 3 with fail
    refine wp_region_held_drew (S := fun w' => w'.cell? ⟨w.heap.size, 0, none⟩ = some (.int .i64 c.shards) ∧ w'.cell? ⟨w.heap.size, 1, none⟩ = some (.int .i64 c.slots) ∧ w'.cell? ⟨w.heap.size, 2, none⟩ = some (.int .i64 c.workers) ∧ w'.cell? ⟨w.heap.size, 3, none⟩ = some (.int .i64 c.width) ∧ w'.cell? ⟨w.heap.size, 4, none⟩ = some (.int .u64 c.unit)) (by kernel_rfl) ?_ (fun hHeld => ?_)
    · exact HCL.out _ T1
    refine wpAnyH_take (i := 0) (v := ?_) rfl (by kernel_rfl) (by kernel_rfl) (by kernel_rfl) (fun _ _ _ h => h) (Or.inl ⟨by rfl, ?_⟩) (by assumption) ?_
    rotate_left
    · intro w hSw
      (try dsimp only at hSw)
      first | (go_simp; done) | (go_simp; with_reducible rfl)
    try simp only [List.getElem_toArray, List.getElem_cons_succ, List.getElem_cons_zero, Act.put, List.setIfInBounds_toArray, List.set_cons_zero, List.set_cons_succ]
    refine wpAnyH_ready (rs := [1, 2]) (by kernel_rfl) (by simp) ?_
    refine AllReadyH.cons rfl (fun K hK => ?_) (AllReadyH.cons rfl (fun K hK => ?_) AllReadyH.nil)
    · go_simp
      go_at_call 29
      refine (newS_any _).mono ?_
      rintro e w3 ⟨sb, rfl, hs3, hb3⟩
      have hb4 := below_step T1 hb3
      have hmm3 : (Instr.makeMap 63 none).run Try.prog w3 = .ok (.map (some w3.heap.size)) (w3.alloc (.map #[] 0)) := rfl
      refine hK.out _ _ (HCL.out _ hb4) (fun hHeld => ?_)
      clear hK K
      try simp only [List.getElem_toArray, List.getElem_cons_succ, List.getElem_cons_zero, Act.put, List.setIfInBounds_toArray, List.set_cons_zero, List.set_cons_succ]
      refine wpAnyH_ready (rs := [2]) (by kernel_rfl) (by simp) ?_
      refine AllReadyH.cons rfl (fun K hK => ?_) AllReadyH.nil
      go_simp
      have hb5 := hb4.trans ((below1 w3 (.map #[] 0)).mono hb4.size)
      refine hK.out _ _ (HCL.out _ hb5) (fun hHeld => ?_)
      clear hK K
      try simp only [List.getElem_toArray, List.getElem_cons_succ, List.getElem_cons_zero, Act.put, List.setIfInBounds_toArray, List.set_cons_zero, List.set_cons_succ]
      refine wpAnyH_take (i := 3) (v := ?_) rfl (by kernel_rfl) (by kernel_rfl) (by kernel_rfl) (fun _ _ _ h => h) (Or.inl ⟨by rfl, ?_⟩) (by assumption) ?_
      rotate_left
      · intro w hSw
        (try dsimp only at hSw)
        first | (go_simp; done) | (go_simp; with_reducible rfl)
      try simp only [List.getElem_toArray, List.getElem_cons_succ, List.getElem_cons_zero, Act.put, List.setIfInBounds_toArray, List.set_cons_zero, List.set_cons_succ]
      refine wpAnyH_ready (rs := [4]) (by kernel_rfl) (by simp) ?_
      refine AllReadyH.cons rfl (fun K hK => ?_) AllReadyH.nil
      go_simp
      have hb6 := hb5.trans ((below1 _ (.cells #[.int .i64 c.shards, .int .i64 c.slots, .int .i64 c.workers, .int .i64 c.width, .int .u64 c.unit, .pointer (some ⟨sb, 0, none⟩), .map (some w3.heap.size), .int .i64 0] 65)).mono hb5.size)
      refine hK.out _ _ (HCL.out _ hb6) (fun hHeld => ?_)
      clear hK K
      try simp only [List.getElem_toArray, List.getElem_cons_succ, List.getElem_cons_zero, Act.put, List.setIfInBounds_toArray, List.set_cons_zero, List.set_cons_succ]
      refine wpAnyH_take (i := 5) (v := ?_) rfl (by kernel_rfl) (by kernel_rfl) (by kernel_rfl) (fun _ _ _ h => h) (Or.inl ⟨by rfl, ?_⟩) (by assumption) ?_
      rotate_left
      · intro w hSw
        (try dsimp only at hSw)
        first | (go_simp; done) | (go_simp; with_reducible rfl)
      try simp only [List.getElem_toArray, List.getElem_cons_succ, List.getElem_cons_zero, Act.put, List.setIfInBounds_toArray, List.set_cons_zero, List.set_cons_succ]
      refine wpAnyH_take (i := 6) (v := ?_) rfl (by kernel_rfl) (by kernel_rfl) (by kernel_rfl) (fun _ _ _ h => h) (Or.inl ⟨by rfl, ?_⟩) (by assumption) ?_
      rotate_left
      · intro w hSw
        (try dsimp only at hSw)
        first | (go_simp; done) | (go_simp; with_reducible rfl)
      try simp only [List.getElem_toArray, List.getElem_cons_succ, List.getElem_cons_zero, Act.put, List.setIfInBounds_toArray, List.set_cons_zero, List.set_cons_succ]
      refine wpAnyH_done (by kernel_rfl) ?_ _
      go_wp2
      go_ret2
      unfold NewPost
      rw [HC.out]
      have hz := HB.out.size
      have hz3 : W2.heap.size ≤ w3.heap.size := hb4.size
      have hm := md_new (w := w) (w2 := w3.alloc (.map #[] 0)) (sb := sb) (lm := w3.heap.size) c (hs3.below (below1 w3 _)) (fun k hk => ⟨Nat.le_trans hz hk.1, Nat.lt_of_lt_of_le hk.2 (by simp)⟩) (IsMapAt.made w3 _) (by omega) (fun hk => by omega) (by simp; omega)
      have e1 : (w3.alloc (.map #[] 0)).heap.size = w3.heap.size + 1 := by simp
      rw [e1] at hm
      refine ⟨w3.heap.size + 1, rfl, hm.mono (fun k hk => ⟨hk.1, by simp; omega⟩) (fun k hk => hk.2), HB.out.trans (hb6.mono hz)⟩
    · go_simp
      refine hK.out _ _ (HCL.out _ T2) (fun hHeld => ?_)
      clear hK K
      try simp only [List.getElem_toArray, List.getElem_cons_succ, List.getElem_cons_zero, Act.put, List.setIfInBounds_toArray, List.set_cons_zero, List.set_cons_succ]
      have hM := IsMapAt.made (κ := Int) W2 (Value.int .i64)
      have e0 : (W2.alloc (.map #[] 0)).drew.heap.size = W2.heap.size + 1 := by simp
      have hM2 : IsMapAt (W2.alloc (.map #[] 0)).drew W2.heap.size (Value.int .i64) ([] : List (Int × Value)) := hM.of_eq rfl
      generalize (W2.alloc (.map #[] 0)).drew = W5 at *
      refine wpAnyH_ready (rs := [1]) (by kernel_rfl) (by simp) ?_
      refine AllReadyH.cons rfl (fun K hK => ?_) AllReadyH.nil
      go_simp
      go_at_call 29
      refine (newS_any _).mono ?_
      rintro e w3 ⟨sb, rfl, hs3, hb3⟩
      have hb5 := below_step T2 hb3
      refine hK.out _ _ (HCL.out _ hb5) (fun hHeld => ?_)
      clear hK K
      try simp only [List.getElem_toArray, List.getElem_cons_succ, List.getElem_cons_zero, Act.put, List.setIfInBounds_toArray, List.set_cons_zero, List.set_cons_succ]
      refine wpAnyH_take (i := 3) (v := ?_) rfl (by kernel_rfl) (by kernel_rfl) (by kernel_rfl) (fun _ _ _ h => h) (Or.inl ⟨by rfl, ?_⟩) (by assumption) ?_
      rotate_left
      · intro w hSw
        (try dsimp only at hSw)
        first | (go_simp; done) | (go_simp; with_reducible rfl)
      try simp only [List.getElem_toArray, List.getElem_cons_succ, List.getElem_cons_zero, Act.put, List.setIfInBounds_toArray, List.set_cons_zero, List.set_cons_succ]
      refine wpAnyH_ready (rs := [4]) (by kernel_rfl) (by simp) ?_
      refine AllReadyH.cons rfl (fun K hK => ?_) AllReadyH.nil
      go_simp
      have hb6 := hb5.trans ((below1 _ (.cells #[.int .i64 c.shards, .int .i64 c.slots, .int .i64 c.workers, .int .i64 c.width, .int .u64 c.unit, .pointer (some ⟨sb, 0, none⟩), .map (some W2.heap.size), .int .i64 0] 65)).mono hb5.size)
      refine hK.out _ _ (HCL.out _ hb6) (fun hHeld => ?_)
      clear hK K
      try simp only [List.getElem_toArray, List.getElem_cons_succ, List.getElem_cons_zero, Act.put, List.setIfInBounds_toArray, List.set_cons_zero, List.set_cons_succ]
      refine wpAnyH_take (i := 5) (v := ?_) rfl (by kernel_rfl) (by kernel_rfl) (by kernel_rfl) (fun _ _ _ h => h) (Or.inl ⟨by rfl, ?_⟩) (by assumption) ?_
      rotate_left
      · intro w hSw
        (try dsimp only at hSw)
        first | (go_simp; done) | (go_simp; with_reducible rfl)
      try simp only [List.getElem_toArray, List.getElem_cons_succ, List.getElem_cons_zero, Act.put, List.setIfInBounds_toArray, List.set_cons_zero, List.set_cons_succ]
      refine wpAnyH_take (i := 6) (v := ?_) rfl (by kernel_rfl) (by kernel_rfl) (by kernel_rfl) (fun _ _ _ h => h) (Or.inl ⟨by rfl, ?_⟩) (by assumption) ?_
      rotate_left
      · intro w hSw
        (try dsimp only at hSw)
        first | (go_simp; done) | (go_simp; with_reducible rfl)
      try simp only [List.getElem_toArray, List.getElem_cons_succ, List.getElem_cons_zero, Act.put, List.setIfInBounds_toArray, List.set_cons_zero, List.set_cons_succ]
      refine wpAnyH_done (by kernel_rfl) ?_ _
      go_wp2
      go_ret2
      unfold NewPost
      rw [HC.out]
      have hz := HB.out.size
      have hz3 : W2.heap.size ≤ w3.heap.size := hb5.size
      have hz5 := hb3.size
      have hm := md_new (w := w) (w2 := w3) (sb := sb) (lm := W2.heap.size) c hs3 (fun k hk => ⟨by omega, hk.2⟩) (hM2.of_eq (hb3.block _ hM2.lt)) hz (fun hk => by omega) (by omega)
      refine ⟨w3.heap.size, rfl, hm.mono (fun k hk => ⟨hk.1, by simp; omega⟩) (fun k hk => hk.2), HB.out.trans (hb6.mono hz)⟩
end Go.Proofs.Ytfgfjnlkgadkhaa
