/- The model: a copy of it. -/
import Derived.Test.YtfgfjnlkgadkhaaGreatGh
import Derived.Test.YtfgfjnlkgadkhaaGreatGm
import Derived.Test.YtfgfjnlkgadkhaaGreatShlfC
import Derived.Shelf.SlMaps.Clone
import Derived.Deep.RegionHeld3
import Derived.Deep.CutRange
namespace Go.Proofs.YtfgfjnlkgadkhaaGreat
set_option linter.unusedVariables false
set_option linter.unusedSimpArgs false
set_option maxRecDepth 20000
open Go.RowKit Go.Proofs.YtfgfjnlkgadkhaaGreatMem Go.Proofs.YtfgfjnlkgadkhaaGreatMapK

theorem cloneM_any {lm : Nat} {m : List (Int × Value)} {w : World} (h : IsMapP w lm (Value.int .i64) m) :
    Calls Tryz.prog 35 #[.map (some lm)] w fun e w' => e = .returned (.map (some w.heap.size)) ∧ IsMapP w' w.heap.size (Value.int .i64) m ∧ Below w.heap.size w w' := by
  obtain ⟨L, hp, es, clock, hm⟩ := h
  have hc := AnyW.maps_Clone Tryz.cloneF lm es clock w hm.heap
  change Calls Tryz.prog 35 _ _ _ at hc
  refine hc.mono ?_
  rintro e w' ⟨rfl, rfl⟩
  exact ⟨rfl, ⟨L, hp, es, clock, heap_alloc_new _ _, hm.ents, hm.keys, hm.born, hm.stamps⟩, below1 _ _⟩
theorem lens_perm {s s' : SfS} (h : s'.fs.Perm s.fs) : (lensV s).Perm (lensV s') := (h.map _).symm
/-- A copy: what was made. -/
theorem md_copied {w w0 w3 w4 : World} {c2 : Nat} {c : Cfg} {s s' : SfS} {served : Int} (h0 : Below w.heap.size w w0) (h3 : SfsAt w3 c2 s' (fun k => w0.heap.size ≤ k ∧ k < w3.heap.size)) (hb3 : Below w0.heap.size w0 w3) (hp : s'.fs.Perm s.fs)
    (hm : IsMapP w4 w3.heap.size (Value.int .i64) (lensV s)) (hb4 : Below w3.heap.size w3 w4) :
    MdAt (w4.alloc (.cells #[.int .i64 c.shards, .int .i64 c.slots, .int .i64 c.workers, .int .i64 c.width, .int .u64 c.unit, .pointer (some ⟨c2, 0, none⟩), .map (some w3.heap.size), .int .i64 served] 74)) w4.heap.size c s' served (fun k => w.heap.size ≤ k ∧ k < (w4.alloc (.cells #[.int .i64 c.shards, .int .i64 c.slots, .int .i64 c.workers, .int .i64 c.width, .int .u64 c.unit, .pointer (some ⟨c2, 0, none⟩), .map (some w3.heap.size), .int .i64 served] 74)).heap.size) := by
  have hb5 := below1 w4 (.cells #[.int .i64 c.shards, .int .i64 c.slots, .int .i64 c.workers, .int .i64 c.width, .int .u64 c.unit, .pointer (some ⟨c2, 0, none⟩), .map (some w3.heap.size), .int .i64 served] 74)
  have hs : (w4.alloc (.cells #[.int .i64 c.shards, .int .i64 c.slots, .int .i64 c.workers, .int .i64 c.width, .int .u64 c.unit, .pointer (some ⟨c2, 0, none⟩), .map (some w3.heap.size), .int .i64 served] 74)).heap.size = w4.heap.size + 1 := by simp
  have z0 := h0.size
  have z3 := hb3.size
  have z4 := hb4.size
  have zm := hm.lt
  refine ⟨c2, w3.heap.size, fun k => w0.heap.size ≤ k ∧ k < w3.heap.size, Blk.new w4 _ _, (h3.below hb4).below hb5, (hm.of_eq (hb5.block _ zm)).perm (lens_perm hp), fun k hk => ⟨⟨by omega, by rw [hs]; omega⟩, by omega, by omega⟩, ⟨by omega, by rw [hs]; omega⟩, ⟨by omega, by rw [hs]; omega⟩, by omega, fun k hk => hk.2⟩
set_option maxHeartbeats 4000000 in
theorem copyM_any (b : Nat) (c : Cfg) (s : SfS) (served : Int) (F : Nat → Prop) (w : World) (h : MdAt w b c s served F) :
    Calls Tryz.prog 14 #[.pointer (some ⟨b, 0, none⟩)] w fun e w' => ∃ n s', e = .returned (.pointer (some ⟨n, 0, none⟩)) ∧ MdAt w' n c s' served (fun k => w.heap.size ≤ k ∧ k < w'.heap.size) ∧ s'.v = s.v ∧ s'.most = s.most ∧ s'.fs.Perm s.fs ∧ Below w.heap.size w w' := by
  obtain ⟨sb, lm, Fs, h⟩ := h
  have HCL : Hid (∀ w', Below w.heap.size w w' → w'.cell? ⟨b, 0, none⟩ = some (.int .i64 c.shards) ∧ w'.cell? ⟨b, 1, none⟩ = some (.int .i64 c.slots) ∧ w'.cell? ⟨b, 2, none⟩ = some (.int .i64 c.workers) ∧ w'.cell? ⟨b, 3, none⟩ = some (.int .i64 c.width) ∧ w'.cell? ⟨b, 4, none⟩ = some (.int .u64 c.unit) ∧ w'.cell? ⟨b, 5, none⟩ = some (.pointer (some ⟨sb, 0, none⟩)) ∧ w'.cell? ⟨b, 6, none⟩ = some (.map (some lm)) ∧ w'.cell? ⟨b, 7, none⟩ = some (.int .i64 served)) := Lib.hid fun w' hb =>
    have B := h.blk.below hb
    ⟨B.cell 0, B.cell 1, B.cell 2, B.cell 3, B.cell 4, B.cell 5, B.cell 6, B.cell 7⟩
  have T1 : Below w.heap.size w w.drew := (Below.refl _ _).drew
  have H := Lib.hid h
  have hlm := h.lt lm h.hl
  have hS := HCL.out _ T1
  obtain ⟨q0, q1, q2, q3, q4, q5, q6, q7⟩ := HCL.out _ (Below.refl _ _)
  have hbl := h.blk.lt
  clear h
  go_enter Tryz.func14, Tryz.ntmps14
  go_upto_region 1 with fail
  clear q0 q1 q2 q3 q4 q5 q6 q7
  refine wp_region_held_drew (S := (fun w' => w'.cell? ⟨b, 0, none⟩ = some (.int .i64 c.shards) ∧ w'.cell? ⟨b, 1, none⟩ = some (.int .i64 c.slots) ∧ w'.cell? ⟨b, 2, none⟩ = some (.int .i64 c.workers) ∧ w'.cell? ⟨b, 3, none⟩ = some (.int .i64 c.width) ∧ w'.cell? ⟨b, 4, none⟩ = some (.int .u64 c.unit) ∧ w'.cell? ⟨b, 5, none⟩ = some (.pointer (some ⟨sb, 0, none⟩)) ∧ w'.cell? ⟨b, 6, none⟩ = some (.map (some lm)) ∧ w'.cell? ⟨b, 7, none⟩ = some (.int .i64 served))) (by kernel_rfl) ?_ (fun hHeld => ?_)
  · exact hS
  refine wpAnyH_take (i := 0) (v := ?_) rfl (by kernel_rfl) (by kernel_rfl) (by kernel_rfl) (fun _ _ _ h => h) (Or.inl ⟨by rfl, ?_⟩) (by assumption) ?_
  rotate_left
  · intro w hSw
    (try dsimp only at hSw)
    first | (go_simp; done) | (go_simp; with_reducible rfl)
  try simp only [List.getElem_toArray, List.getElem_cons_succ, List.getElem_cons_zero, Act.put, List.setIfInBounds_toArray, List.set_cons_zero, List.set_cons_succ]
  refine wpAnyH_take (i := 1) (v := ?_) rfl (by kernel_rfl) (by kernel_rfl) (by kernel_rfl) (fun _ _ _ h => h) (Or.inl ⟨by rfl, ?_⟩) (by assumption) ?_
  rotate_left
  · intro w hSw
    (try dsimp only at hSw)
    first | (go_simp; done) | (go_simp; with_reducible rfl)
  try simp only [List.getElem_toArray, List.getElem_cons_succ, List.getElem_cons_zero, Act.put, List.setIfInBounds_toArray, List.set_cons_zero, List.set_cons_succ]
  refine wpAnyH_take (i := 2) (v := ?_) rfl (by kernel_rfl) (by kernel_rfl) (by kernel_rfl) (fun _ _ _ h => h) (Or.inl ⟨by rfl, ?_⟩) (by assumption) ?_
  rotate_left
  · intro w hSw
    (try dsimp only at hSw)
    first | (go_simp; done) | (go_simp; with_reducible rfl)
  try simp only [List.getElem_toArray, List.getElem_cons_succ, List.getElem_cons_zero, Act.put, List.setIfInBounds_toArray, List.set_cons_zero, List.set_cons_succ]
  refine wpAnyH_take (i := 3) (v := ?_) rfl (by kernel_rfl) (by kernel_rfl) (by kernel_rfl) (fun _ _ _ h => h) (Or.inl ⟨by rfl, ?_⟩) (by assumption) ?_
  rotate_left
  · intro w hSw
    (try dsimp only at hSw)
    first | (go_simp; done) | (go_simp; with_reducible rfl)
  try simp only [List.getElem_toArray, List.getElem_cons_succ, List.getElem_cons_zero, Act.put, List.setIfInBounds_toArray, List.set_cons_zero, List.set_cons_succ]
  refine wpAnyH_take (i := 4) (v := ?_) rfl (by kernel_rfl) (by kernel_rfl) (by kernel_rfl) (fun _ _ _ h => h) (Or.inl ⟨by rfl, ?_⟩) (by assumption) ?_
  rotate_left
  · intro w hSw
    (try dsimp only at hSw)
    first | (go_simp; done) | (go_simp; with_reducible rfl)
  try simp only [List.getElem_toArray, List.getElem_cons_succ, List.getElem_cons_zero, Act.put, List.setIfInBounds_toArray, List.set_cons_zero, List.set_cons_succ]
  refine wpAnyH_take (i := 5) (v := ?_) rfl (by kernel_rfl) (by kernel_rfl) (by kernel_rfl) (fun _ _ _ h => h) (Or.inl ⟨by rfl, ?_⟩) (by assumption) ?_
  rotate_left
  · intro w hSw
    (try dsimp only at hSw)
    first | (go_simp; done) | (go_simp; with_reducible rfl)
  try simp only [List.getElem_toArray, List.getElem_cons_succ, List.getElem_cons_zero, Act.put, List.setIfInBounds_toArray, List.set_cons_zero, List.set_cons_succ]
  refine wpAnyH_take (i := 6) (v := ?_) rfl (by kernel_rfl) (by kernel_rfl) (by kernel_rfl) (fun _ _ _ h => h) (Or.inl ⟨by rfl, ?_⟩) (by assumption) ?_
  rotate_left
  · intro w hSw
    (try dsimp only at hSw)
    first | (go_simp; done) | (go_simp; with_reducible rfl)
  try simp only [List.getElem_toArray, List.getElem_cons_succ, List.getElem_cons_zero, Act.put, List.setIfInBounds_toArray, List.set_cons_zero, List.set_cons_succ]
  refine wpAnyH_take (i := 7) (v := ?_) rfl (by kernel_rfl) (by kernel_rfl) (by kernel_rfl) (fun _ _ _ h => h) (Or.inl ⟨by rfl, ?_⟩) (by assumption) ?_
  rotate_left
  · intro w hSw
    (try dsimp only at hSw)
    first | (go_simp; done) | (go_simp; with_reducible rfl)
  try simp only [List.getElem_toArray, List.getElem_cons_succ, List.getElem_cons_zero, Act.put, List.setIfInBounds_toArray, List.set_cons_zero, List.set_cons_succ]
  refine wpAnyH_take (i := 9) (v := ?_) rfl (by kernel_rfl) (by kernel_rfl) (by kernel_rfl) (fun _ _ _ h => h) (Or.inl ⟨by rfl, ?_⟩) (by assumption) ?_
  rotate_left
  · intro w hSw
    (try dsimp only at hSw)
    first | (go_simp; done) | (go_simp; with_reducible rfl)
  try simp only [List.getElem_toArray, List.getElem_cons_succ, List.getElem_cons_zero, Act.put, List.setIfInBounds_toArray, List.set_cons_zero, List.set_cons_succ]
  refine wpAnyH_take (i := 10) (v := ?_) rfl (by kernel_rfl) (by kernel_rfl) (by kernel_rfl) (fun _ _ _ h => h) (Or.inl ⟨by rfl, ?_⟩) (by assumption) ?_
  rotate_left
  · intro w hSw
    (try dsimp only at hSw)
    first | (go_simp; done) | (go_simp; with_reducible rfl)
  try simp only [List.getElem_toArray, List.getElem_cons_succ, List.getElem_cons_zero, Act.put, List.setIfInBounds_toArray, List.set_cons_zero, List.set_cons_succ]
  refine wpAnyH_take (i := 11) (v := ?_) rfl (by kernel_rfl) (by kernel_rfl) (by kernel_rfl) (fun _ _ _ h => h) (Or.inl ⟨by rfl, ?_⟩) (by assumption) ?_
  rotate_left
  · intro w hSw
    (try dsimp only at hSw)
    first | (go_simp; done) | (go_simp; with_reducible rfl)
  try simp only [List.getElem_toArray, List.getElem_cons_succ, List.getElem_cons_zero, Act.put, List.setIfInBounds_toArray, List.set_cons_zero, List.set_cons_succ]
  refine wpAnyH_take (i := 12) (v := ?_) rfl (by kernel_rfl) (by kernel_rfl) (by kernel_rfl) (fun _ _ _ h => h) (Or.inl ⟨by rfl, ?_⟩) (by assumption) ?_
  rotate_left
  · intro w hSw
    (try dsimp only at hSw)
    first | (go_simp; done) | (go_simp; with_reducible rfl)
  try simp only [List.getElem_toArray, List.getElem_cons_succ, List.getElem_cons_zero, Act.put, List.setIfInBounds_toArray, List.set_cons_zero, List.set_cons_succ]
  refine wpAnyH_take (i := 14) (v := ?_) rfl (by kernel_rfl) (by kernel_rfl) (by kernel_rfl) (fun _ _ _ h => h) (Or.inl ⟨by rfl, ?_⟩) (by assumption) ?_
  rotate_left
  · intro w hSw
    (try dsimp only at hSw)
    first | (go_simp; done) | (go_simp; with_reducible rfl)
  try simp only [List.getElem_toArray, List.getElem_cons_succ, List.getElem_cons_zero, Act.put, List.setIfInBounds_toArray, List.set_cons_zero, List.set_cons_succ]
  refine wpAnyH_take (i := 15) (v := ?_) rfl (by kernel_rfl) (by kernel_rfl) (by kernel_rfl) (fun _ _ _ h => h) (Or.inl ⟨by rfl, ?_⟩) (by assumption) ?_
  rotate_left
  · intro w hSw
    (try dsimp only at hSw)
    first | (go_simp; done) | (go_simp; with_reducible rfl)
  try simp only [List.getElem_toArray, List.getElem_cons_succ, List.getElem_cons_zero, Act.put, List.setIfInBounds_toArray, List.set_cons_zero, List.set_cons_succ]
  refine wpAnyH_take (i := 16) (v := ?_) rfl (by kernel_rfl) (by kernel_rfl) (by kernel_rfl) (fun _ _ _ h => h) (Or.inl ⟨by rfl, ?_⟩) (by assumption) ?_
  rotate_left
  · intro w hSw
    (try dsimp only at hSw)
    first | (go_simp; done) | (go_simp; with_reducible rfl)
  try simp only [List.getElem_toArray, List.getElem_cons_succ, List.getElem_cons_zero, Act.put, List.setIfInBounds_toArray, List.set_cons_zero, List.set_cons_succ]
  refine wpAnyH_take (i := 17) (v := ?_) rfl (by kernel_rfl) (by kernel_rfl) (by kernel_rfl) (fun _ _ _ h => h) (Or.inl ⟨by rfl, ?_⟩) (by assumption) ?_
  rotate_left
  · intro w hSw
    (try dsimp only at hSw)
    first | (go_simp; done) | (go_simp; with_reducible rfl)
  try simp only [List.getElem_toArray, List.getElem_cons_succ, List.getElem_cons_zero, Act.put, List.setIfInBounds_toArray, List.set_cons_zero, List.set_cons_succ]
  refine wpAnyH_ready (rs := [8]) (by kernel_rfl) (by simp) ?_
  refine AllReadyH.cons rfl (fun K hK => ?_) AllReadyH.nil
  go_simp
  (go_at_call 34; refine (copyS_any sb s Fs _ (H.out.sfq.below T1)).mono ?_; rintro e w3 ⟨c2, s', rfl, hs3, ev, em, hp, hb3⟩; have hbw3 : Below w.heap.size w w3 := below_step T1 hb3; have hS3 := HCL.out _ hbw3)
  refine hK.out _ _ ?_ (fun hHeld => ?_)
  · first | with_reducible exact hS5 | with_reducible exact hS4 | with_reducible exact hS3
  clear hK K
  try simp only [List.getElem_toArray, List.getElem_cons_succ, List.getElem_cons_zero, Act.put, List.setIfInBounds_toArray, List.set_cons_zero, List.set_cons_succ]
  refine wpAnyH_ready (rs := [13]) (by kernel_rfl) (by simp) ?_
  refine AllReadyH.cons rfl (fun K hK => ?_) AllReadyH.nil
  go_simp
  (go_at_call 35; refine (cloneM_any (H.out.lens.of_eq (hbw3.block lm hlm))).mono ?_; rintro e w4 ⟨rfl, hm4, hb4⟩; have hbw4 := hbw3.trans (hb4.mono hbw3.size); have hS4 := HCL.out _ hbw4)
  refine hK.out _ _ ?_ (fun hHeld => ?_)
  · first | with_reducible exact hS5 | with_reducible exact hS4 | with_reducible exact hS3
  clear hK K
  try simp only [List.getElem_toArray, List.getElem_cons_succ, List.getElem_cons_zero, Act.put, List.setIfInBounds_toArray, List.set_cons_zero, List.set_cons_succ]
  refine wpAnyH_take (i := 18) (v := ?_) rfl (by kernel_rfl) (by kernel_rfl) (by kernel_rfl) (fun _ _ _ h => h) (Or.inl ⟨by rfl, ?_⟩) (by assumption) ?_
  rotate_left
  · intro w hSw
    (try dsimp only at hSw)
    first | (go_simp; done) | (go_simp; with_reducible rfl)
  try simp only [List.getElem_toArray, List.getElem_cons_succ, List.getElem_cons_zero, Act.put, List.setIfInBounds_toArray, List.set_cons_zero, List.set_cons_succ]
  refine wpAnyH_ready (rs := [19]) (by kernel_rfl) (by simp) ?_
  refine AllReadyH.cons rfl (fun K hK => ?_) AllReadyH.nil
  go_simp
  (have hbw5 := hbw4.trans ((below1 w4 (.cells #[.int .i64 c.shards, .int .i64 c.slots, .int .i64 c.workers, .int .i64 c.width, .int .u64 c.unit, .pointer (some ⟨c2, 0, none⟩), .map (some w3.heap.size), .int .i64 served] 74)).mono hbw4.size); have hS5 := HCL.out _ hbw5)
  refine hK.out _ _ ?_ (fun hHeld => ?_)
  · first | with_reducible exact hS5 | with_reducible exact hS4 | with_reducible exact hS3
  clear hK K
  try simp only [List.getElem_toArray, List.getElem_cons_succ, List.getElem_cons_zero, Act.put, List.setIfInBounds_toArray, List.set_cons_zero, List.set_cons_succ]
  refine wpAnyH_take (i := 20) (v := ?_) rfl (by kernel_rfl) (by kernel_rfl) (by kernel_rfl) (fun _ _ _ h => h) (Or.inl ⟨by rfl, ?_⟩) (by assumption) ?_
  rotate_left
  · intro w hSw
    (try dsimp only at hSw)
    first | (go_simp; done) | (go_simp; with_reducible rfl)
  try simp only [List.getElem_toArray, List.getElem_cons_succ, List.getElem_cons_zero, Act.put, List.setIfInBounds_toArray, List.set_cons_zero, List.set_cons_succ]
  refine wpAnyH_done (by kernel_rfl) ?_ _
  go_wp2
  go_ret
  exact ⟨_, s', rfl, md_copied T1 hs3 hb3 hp hm4 hb4, ev, em, hp, hbw5⟩
end Go.Proofs.YtfgfjnlkgadkhaaGreat
