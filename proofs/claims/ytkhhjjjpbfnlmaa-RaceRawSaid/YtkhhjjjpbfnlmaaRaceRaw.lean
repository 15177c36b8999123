/- RaceRaw: the same of any events with any numbers; and whether two of them are in conflict. -/
import Derived.Test.YtkhhjjjpbfnlmaaRaceQ
import Derived.Deep.CutBlock
namespace Go.Proofs.Ytkhhjjjpbfnlmaa
set_option linter.unusedVariables false
set_option linter.unusedSimpArgs false
open Go.RowKit Go.Proofs.YtkhhjjjpbfnlmaaMem Go.Proofs.YtkhhjjjpbfnlmaaFlat Go.Proofs.YtkhhjjjpbfnlmaaMapK

theorem RdE.held {W w' : World} {ao : Option Addr} {n cap : Nat} {l : List EvS} (h : RdE W ao n cap l) (hs : Below W.heap.size W w' ∧ (∀ b o, b < W.heap.size → w'.cell? ⟨b, o, none⟩ = W.cell? ⟨b, o, none⟩)) : RdE w' ao n cap l := h.below hs.1
theorem box_set1' {w : World} {B : Nat} {c0 c1 c2 c3 c4 : Value} {t : TypeId} (h : w.heap[B]? = some (.cells #[c0, c1, c2, c3, c4] t (0, 0))) (v : Value) :
    (w.setCell ⟨B, 1, none⟩ v).heap[B]? = some (.cells #[c0, v, c2, c3, c4] t (0, 0)) := by
  simp [World.setCell, Array.getElem?_modify, h]
theorem take_snocE (l : List EvS) {k : Nat} (h : k < l.length) : l.take (k + 1) = l.take k ++ [nthE l k] := by
  rw [List.take_add_one, nthE_some h]; rfl

theorem two_heaps (w : World) (c0 c1 c2 c3 c4 d0 d1 d2 d3 d4 : Value) (t : TypeId) : ∀ w' : World, Below ((w.alloc (.cells #[c0, c1, c2, c3, c4] t)).alloc (.cells #[d0, d1, d2, d3, d4] t)).heap.size ((w.alloc (.cells #[c0, c1, c2, c3, c4] t)).alloc (.cells #[d0, d1, d2, d3, d4] t)) w' →
    w'.heap[w.heap.size]? = some (.cells #[c0, c1, c2, c3, c4] t (0, 0)) ∧ w'.heap[w.heap.size + 1]? = some (.cells #[d0, d1, d2, d3, d4] t (0, 0)) := by
  intro w' hb
  have h1 : w'.heap[w.heap.size]? = some (.cells #[c0, c1, c2, c3, c4] t) := (hb.block _ (by simp; omega)).trans ((heap_alloc_old _ _ (by simp)).trans (heap_alloc_new w _))
  have h2 : w'.heap[w.heap.size + 1]? = some (.cells #[d0, d1, d2, d3, d4] t) := by
    have e : (w.alloc (.cells #[c0, c1, c2, c3, c4] t)).heap.size = w.heap.size + 1 := by simp
    have := heap_alloc_new (w.alloc (.cells #[c0, c1, c2, c3, c4] t)) (.cells #[d0, d1, d2, d3, d4] t)
    rw [e] at this
    exact (hb.block _ (by simp)).trans this
  exact ⟨h1, h2⟩
theorem box_heap (w : World) (c0 c1 c2 c3 c4 : Value) (t : TypeId) : (w.alloc (.cells #[c0, c1, c2, c3, c4] t)).heap[w.heap.size]? = some (.cells #[c0, c1, c2, c3, c4] t (0, 0)) := heap_alloc_new _ _
theorem box_frozen {w : World} {B : Nat} {cs : Array Value} {t : TypeId} (h : w.heap[B]? = some (.cells cs t (0, 0))) (o : Nat) : w.frozen? ⟨B, o, none⟩ = false := by
  simp [World.frozen?, h]
theorem resF_parts (r : Option (Nat × Nat)) : ∃ (x y : Int) (z : Bool), resF r = .tuple #[.int .i64 x, .int .i64 y, .bool z] := by
  cases r with
  | none => exact ⟨_, _, _, rfl⟩
  | some r => exact ⟨_, _, _, rfl⟩

set_option maxHeartbeats 1500000 in
theorem RaceRaw_1 (ao : Option Addr) (n cap : Nat) (l : List EvS) (x y : EvS) (w : World) (h : RdE w ao n cap l) (hx : x.Ok) (hy : y.Ok) :
    Calls Try.prog 4 #[.slice ao n cap, .agg #[.int .i64 x.who, .int .i64 x.kind, .int .i64 x.loc.kind, .int .i64 x.loc.a, .int .i64 x.loc.b], .agg #[.int .i64 y.who, .int .i64 y.kind, .int .i64 y.loc.kind, .int .i64 y.loc.a, .int .i64 y.loc.b]] w fun e w' => e = .returned (.bool true) ∧ Below w.heap.size w w' := by
  have s0 := h.rd.small
  have L0 := Lib.hid h.len
  have HK := Lib.hid h.ok
  go_enter Try.func4, Try.ntmps4
  go_upto_region 1 with fail
  obtain ⟨W0, hW0⟩ : ∃ W0, W0 = ((w.alloc (.cells #[.int .i64 x.who, .int .i64 x.kind, .int .i64 x.loc.kind, .int .i64 x.loc.a, .int .i64 x.loc.b] 36)).alloc (.cells #[.int .i64 y.who, .int .i64 y.kind, .int .i64 y.loc.kind, .int .i64 y.loc.a, .int .i64 y.loc.b] 36)) := ⟨_, rfl⟩
  have hb0 : Below w.heap.size w W0 := by rw [hW0]; exact below2 _ _ _
  have hbx := two_heaps w (.int .i64 x.who) (.int .i64 x.kind) (.int .i64 x.loc.kind) (.int .i64 x.loc.a) (.int .i64 x.loc.b) (.int .i64 y.who) (.int .i64 y.kind) (.int .i64 y.loc.kind) (.int .i64 y.loc.a) (.int .i64 y.loc.b) 36
  rw [← hW0] at hbx ⊢
  clear hW0
  have HBX := Lib.hid hbx
  clear hbx
  have h0 := h.below hb0
  go_upto_block 0 with fail
  go_cut [7, 8] from 17 to 33 (fun s7 s8 wx => ∃ (k : Nat) (a : Option Addr) (c : Nat) (L : List EvS), k ≤ 40 ∧ L.length = k ∧ s7 = .slice a k c ∧ RdE wx a k c L ∧ Below W0.heap.size W0 wx)
  case first =>
    go_wp2_with fail
    go_loopw [7, 8] (fun v i wr => ∃ k : Nat, k ≤ n ∧ k ≤ 40 ∧ i = .int .i64 k ∧ (∃ a c, v = .slice a k c ∧ wr.ownsRow W0.heap.size 36 5 (.slice a k c) k (evs (l.take k))) ∧ Below W0.heap.size W0 wr) (fun _ i _ => n - (intOf i).toNat)
    case atStart => exact ⟨0, Nat.zero_le _, Nat.zero_le _, rfl, ⟨none, 0, rfl, by simpa [evs] using World.ownsRow_nil W0 _ _ _⟩, Below.refl _ _⟩
    case round =>
      obtain ⟨k, hk, hk40, rfl, ⟨a, c, rfl, hown⟩, hbr⟩ := hrel
      by_cases hl : k < n ∧ k < 40
      · obtain ⟨hl, hl2⟩ := hl
        obtain ⟨b, o, rfl, hlt, hc⟩ := h0.cells hl
        obtain ⟨c0, c1, c2, c3, c4⟩ := hc wr hbr
        have kn : (k : Int) < n := by omega
        have km : (k : Int) < 40 := by omega
        have S := Lib.hid (take_snocE l (show k < l.length by rw [L0.out]; exact hl))
        have hbase : W0.heap.size ≤ wr.heap.size := hbr.size
        have hn2 : k + 1 ≤ 1099511627776 := by omega
        go_wp2_with ((at_builtin; refine ap_new wr _ EE rfl _ _ rfl W0.heap.size _ k _ rfl hown hbase 1 rfl rfl (by simp [Value.oneCell']) hn2 ?_; intro v' w3 hown3 hg3 hb3 hfr3))
        obtain ⟨a3, c3', rfl⟩ := owns_slice hown3
        go_roundw
        case rel => exact ⟨k + 1, by omega, by omega, by go_num, ⟨a3, c3', rfl, by rw [S.out, evs_snoc]; exact hown3⟩, hbr.trans hb3⟩
        case measure => simp [intOf]; omega
      · have hrE := owns_rdE hown (fun e he => HK.out e (List.mem_of_mem_take he))
        have hll : (l.take k).length = k := by rw [List.length_take, L0.out]; omega
        have LL := Lib.hid hll
        clear hll
        have hk2 : k = n ∨ k = 40 := by omega
        rcases hk2 with hk2 | hk2
        · obtain rfl := hk2
          have kn : ¬ (k : Int) < (k : Int) := by omega
          go_wp2
          go_meet
          exact ⟨k, a, c, _, hk40, LL.out, rfl, hrE, hbr⟩
        · obtain rfl := hk2
          by_cases hn40 : (40 : Int) < (n : Int)
          · go_wp2
            go_meet
            exact ⟨40, a, c, _, hk40, LL.out, rfl, hrE, hbr⟩
          · go_wp2
            go_meet
            exact ⟨40, a, c, _, hk40, LL.out, rfl, hrE, hbr⟩
  case rest =>
    obtain ⟨k, a, c, L, hk40, hll, rfl, hR, hbr⟩ := hcut
    have hkl : k ≤ 1000 := by omega
    have hfit := Lib.hid (allC_fits L (by rw [hll]; omega))
    obtain ⟨f1, f2, f3, hxyz⟩ := resF_parts (firstR L)
    go_wp2_with fail
    refine (first_any a k c L _ hR (by omega)).mono ?_
    rw [hxyz]
    rintro e w2 ⟨rfl, hb2⟩
    have B2 := hbr.trans (hb2.mono hbr.size)
    have R2 := hR.below hb2
    clear hb2
    go_wp2_with fail
    refine (refFirst_any a k c L _ R2 (by omega)).mono ?_
    rw [hxyz]
    rintro e w3 ⟨rfl, hb3⟩
    have B3 := B2.trans (hb3.mono B2.size)
    have R3 := R2.below hb3
    clear hb3 B2 R2
    obtain ⟨hx0, hy0⟩ := HBX.out w3 B3
    obtain ⟨y0, y1, y2, y3, y4, _, _⟩ := box_cells hy0
    go_wp2_with fail
    refine (near_any y _).mono ?_
    rintro e w4 ⟨rfl, hb4⟩
    have B4 := B3.trans (hb4.mono B3.size)
    have R4 := R3.below hb4
    clear hb4 R3 y0 y1 y2 y3 y4 hy0
    go_upto_region 9 with fail
    obtain ⟨Z, hZ⟩ : ∃ Z, Z = w4.heap.size := ⟨_, rfl⟩
    have hz0 := box_heap w4 (.int .i64 (nearE y).who) (.int .i64 (nearE y).kind) (.int .i64 (nearE y).loc.kind) (.int .i64 (nearE y).loc.a) (.int .i64 (nearE y).loc.b) 36
    have hZs : (w4.alloc (.cells #[.int .i64 (nearE y).who, .int .i64 (nearE y).kind, .int .i64 (nearE y).loc.kind, .int .i64 (nearE y).loc.a, .int .i64 (nearE y).loc.b] 36)).heap.size = Z + 1 := by simp [hZ]
    have B5 := B4.trans ((below1 w4 (.cells #[.int .i64 (nearE y).who, .int .i64 (nearE y).kind, .int .i64 (nearE y).loc.kind, .int .i64 (nearE y).loc.a, .int .i64 (nearE y).loc.b] 36)).mono B4.size)
    have HRZ : Hid (∀ w' : World, Below Z w4 w' → RdE w' a k c L) := fun w' hb => R4.below (by rw [hZ] at hb; exact hb)
    have hWZ : W0.heap.size ≤ Z := by rw [hZ]; exact B4.size
    have BZ5 : Below Z w4 (w4.alloc (.cells #[.int .i64 (nearE y).who, .int .i64 (nearE y).kind, .int .i64 (nearE y).loc.kind, .int .i64 (nearE y).loc.a, .int .i64 (nearE y).loc.b] 36)) := by rw [hZ]; exact below1 _ _
    have B4' := B4
    rw [← hZ] at hz0 ⊢
    clear B4 R4 hZ
    generalize w4.alloc (.cells #[.int .i64 (nearE y).who, .int .i64 (nearE y).kind, .int .i64 (nearE y).loc.kind, .int .i64 (nearE y).loc.a, .int .i64 (nearE y).loc.b] 36) = W5 at *
    obtain ⟨hx5, _⟩ := HBX.out W5 B5
    obtain ⟨y0, y1, y2, y3, y4, _, _⟩ := box_cells hx5
    go_wp2_with fail
    refine (near_any x _).mono ?_
    rintro e w6 ⟨rfl, hb6⟩
    have B6 := B5.trans (hb6.mono B5.size)
    have BZ6 := BZ5.trans (hb6.mono (by omega))
    have hz6 := (hb6.block Z (by omega)).trans hz0
    have hZ6 : Z < w6.heap.size := by have := hb6.size; omega
    clear hb6 BZ5 y0 y1 y2 y3 y4 hx5 B5 hz0 hZs
    go_upto_region 10 with fail
    obtain ⟨V, hV⟩ : ∃ V, V = w6.heap.size := ⟨_, rfl⟩
    have hv0 := box_heap w6 (.int .i64 (nearE x).who) (.int .i64 (nearE x).kind) (.int .i64 (nearE x).loc.kind) (.int .i64 (nearE x).loc.a) (.int .i64 (nearE x).loc.b) 36
    have hVs : (w6.alloc (.cells #[.int .i64 (nearE x).who, .int .i64 (nearE x).kind, .int .i64 (nearE x).loc.kind, .int .i64 (nearE x).loc.a, .int .i64 (nearE x).loc.b] 36)).heap.size = V + 1 := by simp [hV]
    have B7 := B6.trans ((below1 w6 (.cells #[.int .i64 (nearE x).who, .int .i64 (nearE x).kind, .int .i64 (nearE x).loc.kind, .int .i64 (nearE x).loc.a, .int .i64 (nearE x).loc.b] 36)).mono B6.size)
    have BZ7 := BZ6.alloc (by omega) (.cells #[.int .i64 (nearE x).who, .int .i64 (nearE x).kind, .int .i64 (nearE x).loc.kind, .int .i64 (nearE x).loc.a, .int .i64 (nearE x).loc.b] 36)
    have hZV : Z < V := by omega
    have hz7 := ((below1 w6 (.cells #[.int .i64 (nearE x).who, .int .i64 (nearE x).kind, .int .i64 (nearE x).loc.kind, .int .i64 (nearE x).loc.a, .int .i64 (nearE x).loc.b] 36)).block Z hZ6).trans hz6
    have hbV : W0.heap.size ≤ V := by rw [hV]; exact B6.size
    have HZV : Hid (∀ w' : World, Below V w6 w' → w'.heap[Z]? = some (.cells #[.int .i64 (nearE y).who, .int .i64 (nearE y).kind, .int .i64 (nearE y).loc.kind, .int .i64 (nearE y).loc.a, .int .i64 (nearE y).loc.b] 36 (0, 0))) := fun w' hb => (hb.block Z (by rw [hV]; exact hZ6)).trans hz6
    rw [← hV] at hv0 hZ6 ⊢
    have hbe : Below V w6 (w6.alloc (.cells #[.int .i64 (nearE x).who, .int .i64 (nearE x).kind, .int .i64 (nearE x).loc.kind, .int .i64 (nearE x).loc.a, .int .i64 (nearE x).loc.b] 36)) := by rw [hV]; exact below1 _ _
    clear hz6 hV BZ6
    generalize w6.alloc (.cells #[.int .i64 (nearE x).who, .int .i64 (nearE x).kind, .int .i64 (nearE x).loc.kind, .int .i64 (nearE x).loc.a, .int .i64 (nearE x).loc.b] 36) = W7 at *
    obtain ⟨z0, z1, z2, z3, z4, _, _⟩ := box_cells hz7
    obtain ⟨y0, y1, y2, y3, y4, _, _⟩ := box_cells hv0
    have fr := box_frozen hv0
    have q2 := fr 2
    have q3 := fr 3
    have q4 := fr 4
    clear fr
    go_upto_region 11 with fail
    obtain ⟨W8, hW8⟩ : ∃ W8, W8 = ((W7.setCell ⟨V, 2, none⟩ (.int .i64 (nearE y).loc.kind)).setCell ⟨V, 3, none⟩ (.int .i64 (nearE y).loc.a)).setCell ⟨V, 4, none⟩ (.int .i64 (nearE y).loc.b) := ⟨_, rfl⟩
    have hb8 : Below V w6 W8 := by
      rw [hW8]
      exact ((hbe.setCell (p := ⟨V, 2, none⟩) (Nat.le_refl _) _).setCell (p := ⟨V, 3, none⟩) (Nat.le_refl _) _).setCell (p := ⟨V, 4, none⟩) (Nat.le_refl _) _
    have hv8 : W8.heap[V]? = some (.cells #[.int .i64 (nearE x).who, .int .i64 (nearE x).kind, .int .i64 (nearE y).loc.kind, .int .i64 (nearE y).loc.a, .int .i64 (nearE y).loc.b] 36 (0, 0)) := by
      rw [hW8]; simp [World.setCell, Array.getElem?_modify, hv0]
    have hz8 := HZV.out W8 hb8
    have hZV' : Z ≤ V := Nat.le_of_lt hZV
    have BZ8 : Below Z w4 W8 := by
      rw [hW8]
      exact ((BZ7.setCell (p := ⟨V, 2, none⟩) hZV' _).setCell (p := ⟨V, 3, none⟩) hZV' _).setCell (p := ⟨V, 4, none⟩) hZV' _
    rw [← hW8]
    have hVs8 : V < W8.heap.size := (Array.getElem?_eq_some_iff.1 hv8).1
    clear hW8 hv0 hz7 hbe z0 z1 z2 z3 z4 y0 y1 y2 y3 y4 q2 q3 q4 B7 BZ7 hb8
    obtain ⟨z0, z1, z2, z3, z4, _, _⟩ := box_cells hz8
    obtain ⟨y0, y1, y2, y3, y4, _, _⟩ := box_cells hv8
    have p1 := box_frozen hv8 1
    have p2 := box_frozen hz8 1
    generalize nearE x = X at *
    generalize nearE y = Y at *
    have mx := modZ_bd X.kind (n := 6) (by omega)
    have my := modZ_bd Y.kind (n := 6) (by omega)
    have hwx : wrap64 (1 + modZ X.kind 6) = 1 + modZ X.kind 6 := by unfold RowKit.wrap64; omega
    have hwy : wrap64 (1 + modZ Y.kind 6) = 1 + modZ Y.kind 6 := by unfold RowKit.wrap64; omega
    have HWX := Lib.hid hwx
    have HWY := Lib.hid hwy
    clear hwx hwy
    have hVZ : V ≠ Z := by omega
    have hZVn : Z ≠ V := by omega
    go_cut [] from 53 to 62 (fun wx => Below Z w4 wx ∧ wx.heap[Z]? = some (.cells #[.int .i64 Y.who, .int .i64 (wrap64 (1 + modZ Y.kind 6)), .int .i64 Y.loc.kind, .int .i64 Y.loc.a, .int .i64 Y.loc.b] 36 (0, 0)) ∧ wx.heap[V]? = some (.cells #[.int .i64 X.who, .int .i64 (wrap64 (1 + modZ X.kind 6)), .int .i64 Y.loc.kind, .int .i64 Y.loc.a, .int .i64 Y.loc.b] 36 (0, 0)))
    case first =>
      go_region_with (first
        | (go_at_call 21; (with_reducible refine (mod_any _ 6 (by omega) (by omega) _).mono ?_); rintro e w' ⟨rfl, rfl⟩))
      all_goals
        go_wp2
        go_meet
        refine ⟨?_, by simp [World.setCell, World.drew, Array.getElem?_modify, hz8, hVZ, hZVn, RowKit.wrap64, IntKind.wrap_i64], by simp [World.setCell, World.drew, Array.getElem?_modify, hv8, hVZ, hZVn, RowKit.wrap64, IntKind.wrap_i64]⟩
        first
          | exact ((BZ8.setCell (p := ⟨V, 1, none⟩) hZV' _).setCell (p := ⟨Z, 1, none⟩) (Nat.le_refl _) _).drew
          | exact ((BZ8.setCell (p := ⟨Z, 1, none⟩) (Nat.le_refl _) _).setCell (p := ⟨V, 1, none⟩) hZV' _).drew
          | exact ((BZ8.drew.setCell (p := ⟨V, 1, none⟩) hZV' _).setCell (p := ⟨Z, 1, none⟩) (Nat.le_refl _) _)
          | exact ((BZ8.drew.setCell (p := ⟨Z, 1, none⟩) (Nat.le_refl _) _).setCell (p := ⟨V, 1, none⟩) hZV' _)
    case rest =>
      obtain ⟨BZ9, hz9, hv9⟩ := hcut
      rw [HWX.out] at hv9
      rw [HWY.out] at hz9
      have R9 := HRZ.out wc BZ9
      have B9 : Below W0.heap.size W0 wc := B4'.trans (BZ9.mono hWZ)
      obtain ⟨z0, z1, z2, z3, z4, _, _⟩ := box_cells hz9
      obtain ⟨y0, y1, y2, y3, y4, _, _⟩ := box_cells hv9
      have hzl : Z < wc.heap.size := (Array.getElem?_eq_some_iff.1 hz9).1
      have hvl : V < wc.heap.size := (Array.getElem?_eq_some_iff.1 hv9).1
      have hcf2 : conf2B ⟨X.who, 1 + modZ X.kind 6, Y.loc⟩ ⟨Y.who, 1 + modZ Y.kind 6, Y.loc⟩ = conflictB ⟨X.who, 1 + modZ X.kind 6, Y.loc⟩ ⟨Y.who, 1 + modZ Y.kind 6, Y.loc⟩ := conf2_eq (by simp only; omega) (by simp only; omega)
      obtain ⟨cb, hcb⟩ : ∃ cb, conflictB ⟨X.who, 1 + modZ X.kind 6, Y.loc⟩ ⟨Y.who, 1 + modZ Y.kind 6, Y.loc⟩ = cb := ⟨_, rfl⟩
      rw [hcb] at hcf2
      have HCB := Lib.hid hcb
      have HCF := Lib.hid hcf2
      clear hcb hcf2 hz9 hv9 hz8 hv8 BZ8 mx my
      generalize modZ X.kind 6 = mx at *
      generalize modZ Y.kind 6 = my at *
      go_upto_region 12 with fail
      go_region_held3 (fun w' => Below wc.heap.size wc w' ∧ (∀ b o, b < wc.heap.size → w'.cell? ⟨b, o, none⟩ = wc.cell? ⟨b, o, none⟩)) (first | exact hs_refl ((Below.refl _ _).drew) | assumption | exact hs_step (by assumption) (by assumption))
        (first
          | (go_at_call 14; (with_reducible refine (awake_any _).mono ?_); rintro e w' ⟨rfl, hb'⟩)
          | (go_at_call 15; (with_reducible refine (right_any a k c L _ (R9.held (by assumption))).mono ?_); rintro e w' ⟨rfl, hb'⟩)
          | (go_at_call 16; (with_reducible refine (refRight_any a k c L _ (R9.held (by assumption))).mono ?_); rintro e w' ⟨rfl, hb'⟩)
          | (go_at_call 18; (with_reducible refine (clocks_any a k c L _ (R9.held (by assumption)) hkl).mono ?_); rintro e w' ⟨v7, rfl, hown7, hb'⟩; obtain ⟨a7, c7, rfl⟩ := hown7.slice; have d7 := hown7.rd hfit.out; clear hown7)
          | (go_at_call 19; (with_reducible refine (refClocks_any a k c L _ (R9.held (by assumption)) hkl).mono ?_); rintro e w' ⟨v8, rfl, hown8, hb'⟩; obtain ⟨a8, c8, rfl⟩ := hown8.slice; have d8 := hown8.rd hfit.out; clear hown8; replace d7 := d7.below hb')
          | (go_at_call 17; (with_reducible refine (clocksEq_any a7 a8 _ c7 _ c8 _ _ _ d7 d8).mono ?_); rw [eqC_same]; rintro e w' ⟨rfl, hb'⟩)
          | (go_at_call 22; (with_reducible refine (conflict_any ⟨X.who, 1 + mx, Y.loc⟩ ⟨Y.who, 1 + my, Y.loc⟩ _).mono ?_); rw [HCB.out]; rintro e w' ⟨rfl, hb'⟩)
          | (go_at_call 23; (with_reducible refine (refConflict_any ⟨X.who, 1 + mx, Y.loc⟩ ⟨Y.who, 1 + my, Y.loc⟩ _).mono ?_); rw [HCF.out]; rintro e w' ⟨rfl, hb'⟩))
      go_wp2
      go_ret
      exact ⟨rfl, hb0.trans ((B9.trans ((‹Below wc.heap.size wc _ ∧ _›).1.mono B9.size)).mono hb0.size)⟩

theorem RaceRaw_any (w : World) (ao : Option Addr) (n cap : Nat) (L : List (List Value)) (h : IsRows w [.int .i64, .int .i64, .int .i64, .int .i64, .int .i64] ao n cap L) (cx : List Value) (hx : FlatOk [.int .i64, .int .i64, .int .i64, .int .i64, .int .i64] cx) (cy : List Value) (hy : FlatOk [.int .i64, .int .i64, .int .i64, .int .i64, .int .i64] cy) :
    Calls Try.prog 4 #[.slice ao n cap, .agg cx.toArray, .agg cy.toArray] w fun e w' => e = .returned (.bool true) ∧ Below w.heap.size w w' := by
  obtain ⟨l, r⟩ := isRows_rdE h
  obtain ⟨x, rfl, ox⟩ := ev_of hx
  obtain ⟨y, rfl, oy⟩ := ev_of hy
  exact RaceRaw_1 ao n cap l x y w r ox oy
end Go.Proofs.Ytkhhjjjpbfnlmaa
