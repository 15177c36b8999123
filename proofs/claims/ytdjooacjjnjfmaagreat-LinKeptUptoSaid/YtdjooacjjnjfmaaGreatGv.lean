/- Several texts in one: Vals Whole. -/
import Derived.Test.YtdjooacjjnjfmaaGreatGt
import Derived.Test.YtdjooacjjnjfmaaGreatGs
import Derived.RangeFuncBox
import Derived.RangeFuncLeaves
import Derived.Shelf.Abstract
import Derived.WalkKit
import Derived.OwnWalkIn
import Derived.TacticsInMore
import Derived.LoopNIn
import Derived.LoopIn
import Derived.Maps.AppendAt
import Derived.Test.YtdjooacjjnjfmaaGreatGa
-- slices.Sorted(slices.Values(l)) at numbers: what it gives, of a slice however long. (The iterator's walk and the loop over it are turned from the guide's worked texts on slices.Values and on collecting.)
section
namespace Go.Proofs.YtdjooacjjnjfmaaGreat
set_option linter.unusedVariables false
set_option linter.unusedSimpArgs false
set_option maxRecDepth 20000
open Go.RowKit Go.Proofs.YtdjooacjjnjfmaaGreatMem Go.Proofs.YtdjooacjjnjfmaaGreatMapK Go.Sort Go.Shelf

attribute [local go_sem] Oper.semAt_some

theorem nth_take_snoc (zs : List Int) {k : Nat} (h : k < zs.length) : zs.take (k + 1) = zs.take k ++ [nth zs k] := by
  rw [List.take_add_one, nth_eq h]; simp [h]
set_option maxRecDepth 100000 in
set_option maxHeartbeats 2000000 in
theorem vals1_in (F : Fence) (n : Nat) (h7 : F.fn 95) (hro : F.round = none) (hn : 1 ≤ n) (l Bs n₀ len cap : Nat) (ao : Option Addr) (zs : List Int) (hreach : len * 8 ≤ 140737488355328) (J Jx : List Int → World → Prop)
    (hY : ∀ pre x W, J pre W → pre.length < len → YieldAt F (n - 1) Tryz.prog l #[.int .i64 x] W fun e W' =>
      (e = .returned (.bool true) ∧ J (pre ++ [x]) W' ∧ Below n₀ W W') ∨ (e = .returned (.bool false) ∧ Jx (pre ++ [x]) W'))
    (W : World) (hBs : W.cell? ⟨Bs, 0, none⟩ = some (.slice ao len cap)) (hz : zs.length = len) (hc : ∀ j, j < len → ∃ b off, ao = some ⟨b, off, none⟩ ∧ b < n₀ ∧ W.cell? ⟨b, off + j, none⟩ = some (.int .i64 (nth zs j))) (h0 : J [] W) :
    CallsIn F n Tryz.prog 95 #[.func (.yield l) #[] #[], .pointer (some ⟨Bs, 0, none⟩)] W fun e W' => (∃ v, e = .returned v) ∧
      ((∃ ys, ys = zs ∧ J ys W') ∨ (∃ pre, (∃ k, k ≤ len ∧ pre = zs.take k) ∧ Jx pre W')) := by
  refine callsIn_of_wp Tryz.func95 rfl h7 ?_ hro
  simp only [Tryz.ntmps95, List.size_toArray, List.length_cons, List.length_nil, Nat.reduceAdd, Nat.reduceSub, Array.replicate_succ, Array.replicate_zero, List.push_toArray, List.append_toArray, List.nil_append, List.cons_append]
  gi_wp2
  gi_loopw [7] (fun i wr => ∃ k : Nat, k ≤ len ∧ i = .int .i64 k ∧ J (zs.take k) wr ∧ Below n₀ W wr)
    (fun i _ => len - (intOf i).toNat)
  case atStart => exact ⟨0, Nat.zero_le _, rfl, h0, Below.refl _ _⟩
  case round =>
    obtain ⟨k, hk, rfl, hJs, hnx⟩ := hrel
    by_cases hlt : k < len
    · obtain ⟨fn, tmps, assign, body, hy, hR⟩ := hY _ (nth zs k) wr hJs (by rw [List.length_take]; omega)
      obtain ⟨b, off, rfl, hb, hcx0⟩ := hc k hlt
      have hcx := (hnx.cell (p := ⟨b, off + k, none⟩) hb).trans hcx0
      gi_wp2
      refine hR.mono ?_
      rintro e W3 (⟨rfl, hJ3, hk3⟩ | ⟨rfl, hJx3⟩)
      · gi_wp2
        go_roundw
        case rel => exact ⟨k + 1, by omega, by simp, by rw [nth_take_snoc zs (by omega)]; exact hJ3, hnx.trans hk3⟩
        case measure => simp [intOf]; omega
      · gi_wp2
        refine bodyPost_ret (results_none rfl _ _ _) rfl ?_
        exact ⟨⟨_, rfl⟩, .inr ⟨_, ⟨k + 1, by omega, (nth_take_snoc zs (by omega)).symm⟩, hJx3⟩⟩
    · obtain rfl : k = len := by omega
      gi_wp2
      go_end0
      exact ⟨⟨_, rfl⟩, .inl ⟨_, rfl, by rw [← hz, List.take_length] at hJs; exact hJs⟩⟩
theorem vals_stops (F : Fence) (n : Nat) (h7 : F.fn 95) (hro : F.round = none) (hn : 1 ≤ n) (Bs n₀ len cap : Nat) (ao : Option Addr) (zs : List Int) (hreach : len * 8 ≤ 140737488355328) (w : World) (hBs : Bs < w.heap.size) (hn₀ : n₀ ≤ w.heap.size)
    (hc : w.cell? ⟨Bs, 0, none⟩ = some (.slice ao len cap)) (hz : zs.length = len) (hI : ∀ j, j < len → ∃ b off, ao = some ⟨b, off, none⟩ ∧ b < n₀ ∧ w.cell? ⟨b, off + j, none⟩ = some (.int .i64 (nth zs j))) :
    SeqStopsK F n Tryz.prog 95 #[.pointer (some ⟨Bs, 0, none⟩)] (fun x : Int => #[Value.int .i64 x]) (Below n₀) (fun ys => ys = zs) (fun pre => ∃ k, k ≤ len ∧ pre = zs.take k) len w := fun l J Jx W hW _ _ hY h0 =>
  vals1_in F n h7 hro hn l Bs n₀ len cap ao zs hreach J Jx hY W ((hW.cell (p := ⟨Bs, 0, none⟩) hBs).trans hc) hz (fun j hj => let ⟨b, off, e, hb, h⟩ := hI j hj; ⟨b, off, e, hb, (hW.cell (p := ⟨b, off + j, none⟩) (Nat.lt_of_lt_of_le hb hn₀)).trans h⟩) h0
theorem infoZ : (Tryz.prog.info? 3).map (fun i => (i.zero, i.size, i.bytes)) = some (some (.int .i64 0), 1, 8) := by kernel_rfl
set_option maxRecDepth 100000 in
set_option maxHeartbeats 2000000 in
theorem appendSeqV_in (F : Fence) (n : Nat) (h3 : F.fn 112) (h5 : F.fn 95) (hro : F.round = none) (hn : 3 ≤ n) (Bs len cap : Nat) (ao : Option Addr) (zs : List Int) (hbytes : len * 8 ≤ 140737488355328) (w : World)
    (hBs : Bs < w.heap.size) (hc : w.cell? ⟨Bs, 0, none⟩ = some (.slice ao len cap)) (hz : zs.length = len) (hI : ∀ j, j < len → ∃ b off, ao = some ⟨b, off, none⟩ ∧ b < w.heap.size ∧ w.cell? ⟨b, off + j, none⟩ = some (.int .i64 (nth zs j))) :
    CallsIn F n Tryz.prog 112 #[.slice none 0 0, .func (.func 95) #[] #[.pointer (some ⟨Bs, 0, none⟩)]] w fun e W' => ∃ v, e = .returned v ∧ W'.ownsRow w.heap.size 3 1 v zs.length (zs.map (Value.int .i64)) ∧ Below w.heap.size w W' := by
  have h1 : 1 ≤ n := by omega
  obtain ⟨i0, hi, hz0, hz1, hz2⟩ := info_parts infoZ
  refine callsIn_of_wp_marks Tryz.func112 rfl h3 ?_ hro
  simp only [Tryz.ntmps112, List.size_toArray, List.length_cons, List.length_nil, Nat.reduceAdd, Nat.reduceSub, Array.replicate_succ, Array.replicate_zero, List.push_toArray, List.append_toArray, List.nil_append, List.cons_append]
  gi_wp2
  have bO := Boxed.new w 26 (.slice none 0 0)
  have hB0 : Below w.heap.size w (w.alloc (.cells #[.slice none 0 0] 26)) := (Below.refl _ w).alloc (Nat.le_refl _) _
  refine wpIn_rangeFunc_ownG hro h1 (gf := 95) (lb := #[.pointer (some ⟨Bs, 0, none⟩)]) rfl h5 (enters_of Tryz.func95 (by kernel_rfl) rfl)
    (vals_stops F (n - 1) h5 hro (by omega) Bs w.heap.size len cap ao zs hbytes _ (by simp; omega) (by simp) ((hB0.cell (p := ⟨Bs, 0, none⟩) hBs).trans hc) hz (fun j hj => let ⟨b, off, e, hb, h⟩ := hI j hj; ⟨b, off, e, hb, (hB0.cell (p := ⟨b, off + j, none⟩) hb).trans h⟩)) belowK_t (belowK_b (by simp)) (Below.refl _ _) (fun _ => rfl)
    (fun pre W => (∃ v, Boxed W w.heap.size 26 v ∧ W.ownsRow w.heap.size 3 1 v pre.length (pre.map (Value.int .i64)) ∧ True) ∧ Below w.heap.size w W)
    (fun _ _ _ => False)
    (OwnFrom.and (Own.from (holdsRow_own w.heap.size w.heap.size 26 3 1 (fun pre : List Int => pre.length) (fun pre => pre.map (Value.int .i64)) (fun pre v => True)) _) (ownFrom_below (Nat.le_refl _) (by simp)))
    (fun _ _ _ _ _ hs _ _ => hs)
    ⟨⟨_, bO, World.ownsRow_nil _ _ _ _, trivial⟩, hB0⟩
    (fun x => { tmps := #[.slice none 0 0, .func (.func 95) #[] #[.pointer (some ⟨Bs, 0, none⟩)], .pointer (some ⟨w.heap.size, 0, none⟩), undef, .slice none 0 0, .int .i64 x, .func (.func 95) #[] #[.pointer (some ⟨Bs, 0, none⟩)], .int .i64 x, undef, undef, undef, undef, undef], defers := [] }) ?assign ?body ?done ?stop
  case assign =>
    intro l x W K hK
    gi_wp2
    exact hK
  case body =>
    rintro l pre x W ⟨⟨v, hv, hrow, -⟩, hB⟩ hlt
    have hc := hv.cell
    gi_wp2_with (gi_at_builtin; refine wpListIn_append_own _ rfl _ _ 26 rfl w.heap.size 3 i0 (.int .i64 0) 1 8 Tryz.underlying26 hi hz0 hz1 hz2 rfl (by decide) _ _ _ rfl (hrow.alloc _) ⟨W.heap.size, 0, none⟩ 1 1 [.int .i64 x] rfl rfl (cell_one_new _ _ _) (by simp [Value.oneCell']) (by unfold maxLen; omega) (by omega) (by have := hB.size; simp; omega) ?_; intro v' w1 hown' hgrow _; obtain ⟨g', cap', rfl⟩ := ownsRow_succ hown'; obtain ⟨hv1, hv2, hr2, hk2, hb2⟩ := hv.appended (by decide) hrow hB.size (Nat.le_refl _) hown' hgrow; have hc1 := hv1.cell; have hf1 := hv1.frozen)
    exact ⟨hk2.from _, hb2, ⟨_, hv2, by simpa using hr2, trivial⟩, hB.trans hb2⟩
  case done =>
    rintro D ys W hD rfl ⟨⟨v, hv, hrow, -⟩, hB⟩ hK
    have hc := hv.cell
    gi_wp2
    refine ⟨by simp, .inl ⟨_, _, rfl, run_takeDeferred hK, ?_⟩⟩
    exact ⟨_, results_tmp rfl _ _ _, v, rfl, ownsRow_putObj hrow _ hK rfl, hB.trans (belowK_b (w := w) (Nat.le_refl _) W D _ _ (by simp at hD; omega) hK rfl rfl)⟩
  case stop =>
    rintro D c pre W _ _ h _
    exact h.elim
end Go.Proofs.YtdjooacjjnjfmaaGreat
end

-- lin.whole: whether an order has each of so many places once.
section
namespace Go.Proofs.YtdjooacjjnjfmaaGreat
set_option linter.unusedVariables false
set_option linter.unusedSimpArgs false
set_option maxRecDepth 20000
open Go.RowKit Go.Proofs.YtdjooacjjnjfmaaGreatMem Go.Proofs.YtdjooacjjnjfmaaGreatMapK Go.Sort Go.Shelf

def sortZ (zs : List Int) : List Int := zs.mergeSort fun x y => decide (x ≤ y)
set_option maxHeartbeats 1000000 in
theorem sortedV_any (Bs len cap : Nat) (ao : Option Addr) (zs : List Int) (hbytes : len * 8 ≤ 140737488355328) (w : World)
    (hBs : Bs < w.heap.size) (hc : w.cell? ⟨Bs, 0, none⟩ = some (.slice ao len cap)) (hz : zs.length = len) (hI : ∀ j, j < len → ∃ b off, ao = some ⟨b, off, none⟩ ∧ b < w.heap.size ∧ w.cell? ⟨b, off + j, none⟩ = some (.int .i64 (nth zs j))) :
    Calls Tryz.prog 59 #[.func (.func 95) #[] #[.pointer (some ⟨Bs, 0, none⟩)]] w fun e w' => ∃ v, e = .returned v ∧ w'.ownsRow w.heap.size 3 1 v zs.length ((sortZ zs).map (Value.int .i64)) ∧ Below w.heap.size w w' := by
  subst hz
  have hA := callsIn_wide.1 (appendSeqV_in Fence.wide 5 trivial trivial rfl (by omega) Bs _ cap ao zs hbytes w hBs hc rfl hI)
  have hC : Calls Tryz.prog 93 #[.func (.func 95) #[] #[.pointer (some ⟨Bs, 0, none⟩)]] w fun e w' => ∃ v, e = .returned v ∧ w'.ownsRow w.heap.size 3 1 v zs.length (zs.map (Value.int .i64)) ∧ Below w.heap.size w w' := by
    clear hBs hc hI
    go_enter Tryz.func93, Tryz.ntmps93
    go_wp2_with fail
    refine hA.mono ?_
    rintro e w1 ⟨v, rfl, hrow, hb⟩
    obtain ⟨a1, c1, rfl⟩ := owns_slice hrow
    go_wp2
    go_ret
    exact ⟨_, rfl, hrow, hb⟩
  clear hA hBs hc hI
  go_enter Tryz.func59, Tryz.ntmps59
  go_wp2_with fail
  refine hC.mono ?_
  rintro e W ⟨v, rfl, hrow, hb⟩
  have HB := Lib.hid hb
  rcases hrow.2 with ⟨rfl, hz0⟩ | ⟨gb, cap', cur, rfl, hbase, hgb, r1, r2, r3, r4⟩
  · have hzn : zs = [] := List.eq_nil_of_length_eq_zero hz0
    subst hzn
    clear hrow hb hC
    have cS := AnyM.slices_Sort_int_none Tryz.sortF none 0 W
    change Calls Tryz.prog 94 _ _ _ at cS
    go_wp2_with fail
    refine cS.mono ?_
    rintro e w2 ⟨rfl, rfl⟩
    go_wp2
    go_ret
    exact ⟨_, rfl, by simpa [sortZ] using World.ownsRow_nil _ _ _ _, HB.out⟩
  · have hgl : gb < W.heap.size := (Array.getElem?_eq_some_iff.1 hgb).1
    have hH : Holds encZ W gb 0 zs.toArray := holds_of_block_i hgb (by simpa using r4)
    have cS := AnyM.slices_Sort_int Tryz.sortF gb 0 cap' zs W hH hgl (by omega)
    change Calls Tryz.prog 94 _ _ _ at cS
    have HS := Lib.hid cS
    have H1 := Lib.hid hbase
    have H2 := Lib.hid hgb
    have H3 := Lib.hid r1
    have H4 := Lib.hid r2
    have H5 := Lib.hid r3
    clear hrow hb hC cS hbase hgb r1 r2 r3 r4 hH hgl
    go_wp2_with fail
    refine HS.out.mono ?_
    rintro e w2 ⟨rfl, nn, os, rfl⟩
    go_wp2
    go_ret
    exact ⟨_, rfl, ownsRow_sorted_i (by simp) H1.out H2.out H3.out H4.out H5.out, HB.out.grown (grownBy_sorted_i _) HB.out.size (fun j hj => by cases hj; exact H1.out)⟩

/-! ### What it tells -/
theorem sortZ_perm (zs : List Int) : (sortZ zs).Perm zs := List.mergeSort_perm _ _
theorem sortZ_length (zs : List Int) : (sortZ zs).length = zs.length := (sortZ_perm zs).length_eq
theorem sortZ_rise (zs : List Int) : (sortZ zs).Pairwise fun a b => a ≤ b := by
  have tr : ∀ a b c : Int, decide (a ≤ b) = true → decide (b ≤ c) = true → decide (a ≤ c) = true := fun a b c h1 h2 => by simp only [decide_eq_true_eq] at *; omega
  have tot : ∀ a b : Int, (decide (a ≤ b) || decide (b ≤ a)) = true := fun a b => by simp only [Bool.or_eq_true, decide_eq_true_eq]; omega
  exact (List.pairwise_mergeSort tr tot zs).imp fun h => by simpa using h
theorem toI_range (n : Nat) : YtdjooacjjnjfmaaGreatLin.toI (List.range n) = (List.range n).map fun k : Nat => (k : Int) := rfl
/-- Sorted it is 0, 1, ..: each of n places once. -/
theorem whole_iff {zs : List Int} {n : Nat} : YtdjooacjjnjfmaaGreatLin.allIn n zs = true ↔ (∀ k, k < zs.length → nth (sortZ zs) k = k) ∧ zs.length = n := by
  rw [YtdjooacjjnjfmaaGreatLin.allIn_iff]
  constructor
  · rintro ⟨h1, h2, h3⟩
    refine ⟨fun k hk => ?_, h1⟩
    have he := YtdjooacjjnjfmaaGreatLin.toNat_toI fun z hz => (h2 z hz).1
    have hnd : (zs.map Int.toNat).Nodup := by
      rw [← he] at h3
      unfold YtdjooacjjnjfmaaGreatLin.toI at h3
      rw [List.Nodup, List.pairwise_map] at h3
      exact h3.imp fun h e => h (by rw [e])
    have hlt : ∀ j ∈ zs.map Int.toNat, j < n := by
      intro j hj
      obtain ⟨z, hz, rfl⟩ := List.mem_map.1 hj
      have := h2 z hz
      omega
    have hperm : (zs.map Int.toNat).Perm (List.range n) := by
      refine (List.perm_ext_iff_of_nodup hnd List.nodup_range).2 fun j => ⟨fun hj => List.mem_range.2 (hlt j hj), fun hj => YtdjooacjjnjfmaaGreatLin.mem_all_of_nodup (by simpa using h1) hnd hlt (List.mem_range.1 hj)⟩
    have hp2 : (sortZ zs).Perm ((List.range n).map fun k : Nat => (k : Int)) := by
      refine (sortZ_perm zs).trans ?_
      rw [← he]
      exact hperm.map _
    have heq : sortZ zs = (List.range n).map fun k : Nat => (k : Int) := by
      refine List.Perm.eq_of_pairwise (le := fun a b : Int => a ≤ b) (fun a b _ _ h1 h2 => by omega) (sortZ_rise zs) ?_ hp2
      rw [List.pairwise_map]
      exact List.pairwise_lt_range.imp fun h => by omega
    rw [heq, nth_eq (by simp; omega)]
    simp
  · rintro ⟨h1, h2⟩
    have heq : sortZ zs = (List.range n).map fun k : Nat => (k : Int) := by
      apply List.ext_getElem (by rw [sortZ_length]; simp; exact h2)
      intro k hk1 hk2
      have := h1 k (by rw [sortZ_length] at hk1; exact hk1)
      rw [nth_eq hk1] at this
      rw [this]; simp
    have hp := (sortZ_perm zs).symm
    rw [heq] at hp
    refine ⟨h2, fun z hz => ?_, hp.nodup_iff.2 ?_⟩
    · obtain ⟨k, hk, rfl⟩ := List.mem_map.1 (hp.mem_iff.1 hz)
      have := List.mem_range.1 hk
      omega
    · rw [List.Nodup, List.pairwise_map]
      exact List.nodup_range.imp fun h e => h (by omega)

set_option maxHeartbeats 1000000 in
theorem whole_any (ao : Option Addr) (n cap : Nat) (zs : List Int) (m : Nat) (w : World) (h : RdI w ao n cap zs) (hbytes : n * 8 ≤ 140737488355328) :
    Calls Tryz.prog 34 #[.slice ao n cap, .int .i64 m] w fun e w' => e = .returned (.bool (YtdjooacjjnjfmaaGreatLin.allIn m zs)) ∧ Below w.heap.size w w' := by
  have hV : Calls Tryz.prog 60 #[.slice ao n cap] w fun e w' => e = .returned (.func (.func 95) #[] #[.pointer (some ⟨w.heap.size, 0, none⟩)]) ∧ w' = w.alloc (.cells #[.slice ao n cap] 26) := by
    have hmf : ∀ (fn : Fn) (first cap : Array Value) (w : World), (Instr.makeFunc fn first cap).run Tryz.prog w = .ok (.func fn first cap) w := fun _ _ _ _ => rfl
    go_enter Tryz.func60, Tryz.ntmps60
    go_wp2
    go_ret
    exact ⟨rfl, rfl⟩
  have hb1 := below1 w (.cells #[.slice ao n cap] 26)
  have hS := sortedV_any w.heap.size n cap ao zs hbytes (w.alloc (.cells #[.slice ao n cap] 26)) (by simp) (Blk.cell (Blk.new w [.slice ao n cap] 26) 0) h.len fun j hj => let ⟨b, off, e, hlt, hc⟩ := h.at_ j hj; ⟨b, off, e, Nat.lt_of_lt_of_le hlt hb1.size, (hb1.cell (p := ⟨b, off + j, none⟩) hlt).trans hc⟩
  have HN := Lib.hid h.len
  have hL := h.len
  have HB1 := Lib.hid hb1
  have hsm := h.small
  clear h hb1
  go_enter Tryz.func34, Tryz.ntmps34
  go_wp2_with fail
  refine hV.mono ?_
  rintro e w1 ⟨rfl, rfl⟩
  go_wp2_with fail
  refine hS.mono ?_
  rintro e w2 ⟨v, rfl, hrow, hb⟩
  rw [hL] at hrow
  obtain ⟨a2, c2, rfl⟩ := owns_slice hrow
  have HROW := Lib.hid (owns_rdS hrow (fun u hu => by obtain ⟨z, -, rfl⟩ := List.mem_map.1 hu; rfl))
  have HB := Lib.hid (HB1.out.trans (hb.mono HB1.out.size))
  have HSL : Hid ((sortZ zs).length = n) := Lib.hid (by rw [sortZ_length]; exact hL)
  have HW := Lib.hid (whole_iff (zs := zs) (n := m))
  clear hrow hb hV hS hL
  generalize sortZ zs = SZ at *
  go_wp2_with fail
  go_loopw [6, 7, 13] (fun _ _ v13 wr => ∃ k : Nat, k ≤ n ∧ v13 = .int .i64 k ∧ (∀ j : Nat, j < k → nth SZ j = j) ∧ wr = w2) (fun _ _ v13 _ => n - (intOf v13).toNat)
  case atStart => exact ⟨0, Nat.zero_le _, rfl, fun j hj => absurd hj (Nat.not_lt_zero _), rfl⟩
  case round =>
    obtain ⟨k, hk, rfl, heq, rfl⟩ := hrel
    have HQ := Lib.hid heq
    clear heq
    by_cases hl : k < n
    · have i1 : (k : Int) < (n : Int) := by omega
      obtain ⟨b0, o0, rfl, hlt0, hc0⟩ := HROW.out.at_ k (.int .i64 (nth SZ k)) (by rw [List.getElem?_map, List.getElem?_eq_getElem (by rw [HSL.out]; exact hl), nth_eq (by rw [HSL.out]; exact hl)]; rfl)
      by_cases hv : nth SZ k = k
      · have V := Lib.hid hv
        have e1 : ((k : Int) != nth SZ k) = false := by simp [hv]
        clear hv
        go_wp2
        go_roundw
        case rel => exact ⟨k + 1, by omega, by go_num, fun j hj => by
          by_cases hjk : j = k
          · subst hjk; exact V.out
          · exact HQ.out j (by omega), by first | rfl | trivial⟩
        case measure => simp [intOf]; omega
      · have E : Hid (YtdjooacjjnjfmaaGreatLin.allIn m zs = false) := by
          unfold Hid
          rw [← Bool.not_eq_true, HW.out]
          intro h
          exact hv (h.1 k (by rw [HN.out]; exact hl))
        have e1 : ((k : Int) != nth SZ k) = true := by simp; omega
        clear hv
        go_wp2
        go_ret
        exact ⟨by rw [E.out]; rfl, HB.out⟩
    · obtain rfl : k = n := by omega
      by_cases hm : k = m
      · have E : Hid (YtdjooacjjnjfmaaGreatLin.allIn m zs = true) := by
          unfold Hid
          rw [HW.out]
          exact ⟨fun j hj => HQ.out j (by rw [← HN.out]; exact hj), HN.out.trans hm⟩
        have e1 : ((k : Int) == (m : Int)) = true := by simp [hm]
        clear hm
        go_wp2
        go_ret
        exact ⟨by rw [E.out]; rfl, HB.out⟩
      · have E : Hid (YtdjooacjjnjfmaaGreatLin.allIn m zs = false) := by
          unfold Hid
          rw [← Bool.not_eq_true, HW.out]
          intro h
          exact hm (HN.out.symm.trans h.2)
        have e1 : ((k : Int) == (m : Int)) = false := by simp; omega
        clear hm
        go_wp2
        go_ret
        exact ⟨by rw [E.out]; rfl, HB.out⟩
end Go.Proofs.YtdjooacjjnjfmaaGreat
end
