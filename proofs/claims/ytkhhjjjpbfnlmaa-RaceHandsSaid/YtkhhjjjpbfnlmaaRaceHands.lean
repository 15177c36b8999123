/- RaceHands: what is told by one place is read without a race; without that there is one. -/
import Derived.Test.YtkhhjjjpbfnlmaaRaceHP
import Derived.Deep.RegionWith
namespace Go.Proofs.Ytkhhjjjpbfnlmaa
set_option linter.unusedVariables false
set_option linter.unusedSimpArgs false
open Go.RowKit Go.Proofs.YtkhhjjjpbfnlmaaMem Go.Proofs.YtkhhjjjpbfnlmaaFlat Go.Proofs.YtkhhjjjpbfnlmaaMapK

def BoxL (w : World) (b : Nat) (x : LocS) : Prop := w.heap[b]? = some (.cells #[.int .i64 x.kind, .int .i64 x.a, .int .i64 x.b] 34 (0, 0))
theorem BoxL.cells {w : World} {b : Nat} {x : LocS} (h : BoxL w b x) : w.cell? ⟨b, 0, none⟩ = some (.int .i64 x.kind) ∧ w.cell? ⟨b, 1, none⟩ = some (.int .i64 x.a) ∧ w.cell? ⟨b, 2, none⟩ = some (.int .i64 x.b) := by
  have h := h
  unfold BoxL at h
  simp only [World.cell?, h]
  exact ⟨rfl, rfl, rfl⟩
theorem BoxL.lt {w : World} {b : Nat} {x : LocS} (h : BoxL w b x) : b < w.heap.size := (Array.getElem?_eq_some_iff.1 h).1
theorem BoxL.below {w w' : World} {b : Nat} {x : LocS} (h : BoxL w b x) (hb : Below w.heap.size w w') : BoxL w' b x := (hb.block b h.lt).trans h
theorem two_boxesL (w : World) (x y : LocS) : BoxL ((w.alloc (.cells #[.int .i64 x.kind, .int .i64 x.a, .int .i64 x.b] 34)).alloc (.cells #[.int .i64 y.kind, .int .i64 y.a, .int .i64 y.b] 34)) w.heap.size x ∧ BoxL ((w.alloc (.cells #[.int .i64 x.kind, .int .i64 x.a, .int .i64 x.b] 34)).alloc (.cells #[.int .i64 y.kind, .int .i64 y.a, .int .i64 y.b] 34)) (w.heap.size + 1) y := by
  refine ⟨(heap_alloc_old _ _ (by simp)).trans (heap_alloc_new w _), ?_⟩
  have e : (w.alloc (.cells #[.int .i64 x.kind, .int .i64 x.a, .int .i64 x.b] 34)).heap.size = w.heap.size + 1 := by simp
  have := heap_alloc_new (w.alloc (.cells #[.int .i64 x.kind, .int .i64 x.a, .int .i64 x.b] 34)) (.cells #[.int .i64 y.kind, .int .i64 y.a, .int .i64 y.b] 34)
  rw [e] at this
  exact this

set_option maxRecDepth 20000 in
set_option maxHeartbeats 2000000 in
theorem RaceHands_1 (q0 q1 : Int) (x y : LocS) (q4 q5 q6 : Int) (hx : x.Ok) (hy : y.Ok) (w : World) :
    Calls Try.prog 9 #[.int .i64 q0, .int .i64 q1, .agg #[.int .i64 x.kind, .int .i64 x.a, .int .i64 x.b], .agg #[.int .i64 y.kind, .int .i64 y.a, .int .i64 y.b], .int .i64 q4, .int .i64 q5, .int .i64 q6] w fun e w' => e = .returned (.bool true) ∧ Below w.heap.size w w' := by
  have hm0 := modZ_bd q0 (n := 64) (by omega)
  have hm1 := modZ_bd q1 (n := 64) (by omega)
  obtain ⟨U, hU⟩ := Int.eq_ofNat_of_zero_le hm0.1
  obtain ⟨V, hV⟩ := Int.eq_ofNat_of_zero_le hm1.1
  rw [hU] at hm0
  rw [hV] at hm1
  have hU64 : U < 64 := by omega
  have hV64 : V < 64 := by omega
  have HU := Lib.hid hU
  have HV := Lib.hid hV
  clear hm0 hm1 hU hV
  go_enter Try.func9, Try.ntmps9
  go_upto_region 1 with fail
  have hh := two_boxesL w x y
  have hbW := below2 w (.cells #[.int .i64 x.kind, .int .i64 x.a, .int .i64 x.b] 34) (.cells #[.int .i64 y.kind, .int .i64 y.a, .int .i64 y.b] 34)
  generalize ((w.alloc (.cells #[.int .i64 x.kind, .int .i64 x.a, .int .i64 x.b] 34)).alloc (.cells #[.int .i64 y.kind, .int .i64 y.a, .int .i64 y.b] 34)) = W at *
  obtain ⟨hX, hY⟩ := hh
  generalize hn : w.heap.size = A at *
  generalize A + 1 = A1 at *
  obtain ⟨x0, x1, x2⟩ := hX.cells
  obtain ⟨y0, y1, y2⟩ := hY.cells
  have HX := Lib.hid hX
  have HY := Lib.hid hY
  clear hX hY
  go_wp2_with fail
  refine (mod_any q0 64 (by omega) (by omega) _).mono ?_
  rw [HU.out]
  rintro e w' ⟨rfl, rfl⟩
  go_wp2_with fail
  refine (mod_any q1 64 (by omega) (by omega) _).mono ?_
  rw [HV.out]
  rintro e w' ⟨rfl, rfl⟩
  by_cases huv : U = V
  · have e1 : ((U : Int) == (V : Int)) = true := by simp [huv]
    clear huv
    go_wp2_with fail
    refine (awake_any _).mono ?_
    rintro e w' ⟨rfl, hb'⟩
    go_wp2
    go_ret
    exact ⟨rfl, below_step (by rw [hn]; exact hbW) hb'⟩
  · have e1 : ((U : Int) == (V : Int)) = false := by simp; omega
    by_cases hxy : x = y
    · obtain ⟨g1, g2, g3⟩ := (LocS.ext_iff' _ _).1 hxy
      clear huv hxy
      go_wp2_with fail
      refine (awake_any _).mono ?_
      rintro e w' ⟨rfl, hb'⟩
      go_wp2
      go_ret
      exact ⟨rfl, below_step (by rw [hn]; exact hbW) hb'⟩
    · go_upto_region 2 with fail
      go_cut [39] from 32 to 39 (fun s39 wx => wx = W ∧ s39 = .bool false)
      case first =>
        rcases (show ¬ x.kind = y.kind ∨ (x.kind = y.kind ∧ ¬ x.a = y.a) ∨ (x.kind = y.kind ∧ x.a = y.a ∧ ¬ x.b = y.b) by
          rw [LocS.ext_iff'] at hxy; omega) with g1 | ⟨g1, g2⟩ | ⟨g1, g2, g3⟩
        all_goals
          clear hxy
          go_wp2
          go_meet
          exact ⟨rfl, rfl⟩
      case rest =>
        obtain ⟨rfl, rfl⟩ := hcut
        clear e1
        have m4 := modZ_bd q4 (n := 2) (by omega)
        have m6 := modZ_bd q6 (n := 2) (by omega)
        have m5 := modZ_bd q5 (n := 3) (by omega)
        obtain ⟨tl, htl⟩ : ∃ tl, tl = wrap64 (2 + modZ q4 2) := ⟨_, rfl⟩
        obtain ⟨kd, hkd⟩ : ∃ kd, kd = wrap64 (5 + modZ q6 2) := ⟨_, rfl⟩
        have ht : tl = 2 ∨ tl = 3 := by rw [htl]; unfold RowKit.wrap64; omega
        have hk : kd = 5 ∨ kd = 6 := by rw [hkd]; unfold RowKit.wrap64; omega
        have HT := Lib.hid ht
        have HK := Lib.hid hk
        have HTL := Lib.hid htl
        have HKD := Lib.hid hkd
        clear ht hk htl hkd m4 m6
        go_wp2_with fail
        refine (mod_any q4 2 (by omega) (by omega) _).mono ?_
        rintro e w' ⟨rfl, rfl⟩
        go_wp2_with fail
        refine (mod_any q6 2 (by omega) (by omega) _).mono ?_
        rintro e w' ⟨rfl, rfl⟩
        go_upto_region 5 with fail
        rw [← HTL.out, ← HKD.out]
        clear HTL HKD x0 x1 x2 y0 y1 y2
        go_cut [5] from 47 to 51 (fun s5 wx => ∃ hr : Int, (hr = 1 ∨ hr = 3 ∨ hr = 4) ∧ s5 = .int .i64 hr ∧ Below wc.heap.size wc wx)
        case first =>
          go_wp2_with fail
          refine (mod_any q5 3 (by omega) (by omega) _).mono ?_
          rintro e w' ⟨rfl, rfl⟩
          rcases (show modZ q5 3 = 0 ∨ modZ q5 3 = 1 ∨ modZ q5 3 = 2 by omega) with h | h | h
          all_goals
            rw [h]
            clear h m5
            go_wp2
            go_meet
            exact ⟨_, by first | exact .inl rfl | exact .inr (.inl rfl) | exact .inr (.inr rfl), rfl, below1 _ _⟩
        case rest =>
          obtain ⟨hr, hh, rfl, hb5⟩ := hcut
          have HH := Lib.hid hh
          have HX5 := Lib.hid (HX.out.below hb5)
          have HY5 := Lib.hid (HY.out.below hb5)
          have B5 : Below w.heap.size w wc := below_step (by rw [hn]; exact hbW) hb5
          clear hh hb5 hbW HX HY m5
          obtain ⟨x0, x1, x2⟩ := HX5.out.cells
          have lA := HX5.out.lt
          go_upto_region 6 with fail
          go_cut [15, 16] from 52 to 58 (fun s15 s16 wx => ∃ b15 b16, s15 = .pointer (some ⟨b15, 0, none⟩) ∧ s16 = .pointer (some ⟨b16, 0, none⟩) ∧ BoxE wx b15 ⟨U, 6, x⟩ ∧ BoxE wx b16 ⟨V, kd, x⟩ ∧ Below wc.heap.size wc wx)
          case first =>
            go_region
            all_goals
              go_wp2
              go_meet
              first
                | exact ⟨_, _, rfl, rfl, (two_boxesE wc ⟨U, 6, x⟩ ⟨V, kd, x⟩).1, (two_boxesE wc ⟨U, 6, x⟩ ⟨V, kd, x⟩).2, two_new wc ⟨U, 6, x⟩ ⟨V, kd, x⟩⟩
                | exact ⟨_, _, rfl, rfl, (two_boxesE wc ⟨V, kd, x⟩ ⟨U, 6, x⟩).2, (two_boxesE wc ⟨V, kd, x⟩ ⟨U, 6, x⟩).1, two_new wc ⟨V, kd, x⟩ ⟨U, 6, x⟩⟩
          case rest =>
            obtain ⟨bA, bB, rfl, rfl, hA, hB, hb6⟩ := hcut
            have HY6 := Lib.hid (HY5.out.below hb6)
            have B6 := below_step B5 hb6
            have HA := Lib.hid hA
            have HB := Lib.hid hB
            clear hA hB hb6 x0 x1 x2 HX5 HY5 B5 lA
            obtain ⟨y0, y1, y2⟩ := HY6.out.cells
            have lA := HY6.out.lt
            go_upto_region 7 with fail
            go_cut [17, 18] from 59 to 66 (fun s17 s18 wx => ∃ b17 b18, s17 = .pointer (some ⟨b17, 0, none⟩) ∧ s18 = .pointer (some ⟨b18, 0, none⟩) ∧ BoxE wx b17 ⟨U, tl, y⟩ ∧ BoxE wx b18 ⟨V, hr, y⟩ ∧ Below wc.heap.size wc wx)
            case first =>
              go_region
              all_goals
                go_wp2
                go_meet
                first
                  | exact ⟨_, _, rfl, rfl, (two_boxesE wc ⟨U, tl, y⟩ ⟨V, hr, y⟩).1, (two_boxesE wc ⟨U, tl, y⟩ ⟨V, hr, y⟩).2, two_new wc ⟨U, tl, y⟩ ⟨V, hr, y⟩⟩
                  | exact ⟨_, _, rfl, rfl, (two_boxesE wc ⟨V, hr, y⟩ ⟨U, tl, y⟩).2, (two_boxesE wc ⟨V, hr, y⟩ ⟨U, tl, y⟩).1, two_new wc ⟨V, hr, y⟩ ⟨U, tl, y⟩⟩
            case rest =>
              obtain ⟨bS, bR, rfl, rfl, hS, hR, hb7⟩ := hcut
              have B7 := below_step B6 hb7
              have hA := HA.out.below hb7
              have hB := HB.out.below hb7
              have cells := fun (w' : World) (hb : Below wc.heap.size wc w') => And.intro (hA.below hb).cells (And.intro (hB.below hb).cells (And.intro (hS.below hb).cells (hR.below hb).cells))
              have HC := Lib.hid cells
              clear cells hA hB hS hR hb7 HA HB HY6 y0 y1 y2 lA B6
              have o1 := l1_first huv hxy hU64 hV64 HT.out HH.out HK.out
              have o2 := l2_first huv hxy hU64 hV64 HT.out HH.out HK.out
              have o3 := l3_first huv hxy hU64 hV64 HT.out HH.out HK.out
              have O1 := Lib.hid o1
              have O2 := Lib.hid o2
              have O3 := Lib.hid o3
              have ht := HT.out
              have hh := HH.out
              have hk := HK.out
              have iu : I64 (U : Int) := by unfold I64; omega
              have iv : I64 (V : Int) := by unfold I64; omega
              have it : I64 tl := by unfold I64; omega
              have ih : I64 hr := by unfold I64; omega
              have ik : I64 kd := by unfold I64; omega
              have i6 : I64 6 := by decide
              have ok1 : ∀ e ∈ l1 U V x y tl hr kd, e.Ok := by
                intro e he; simp only [l1, List.mem_cons, List.not_mem_nil, or_false] at he
                rcases he with rfl | rfl | rfl | rfl
                · exact ⟨iu, i6, hx⟩
                · exact ⟨iu, it, hy⟩
                · exact ⟨iv, ih, hy⟩
                · exact ⟨iv, ik, hx⟩
              have ok2 : ∀ e ∈ l2 U V x y tl hr kd, e.Ok := by
                intro e he; simp only [l2, List.mem_cons, List.not_mem_nil, or_false] at he
                rcases he with rfl | rfl | rfl | rfl
                · exact ⟨iu, i6, hx⟩
                · exact ⟨iv, ih, hy⟩
                · exact ⟨iu, it, hy⟩
                · exact ⟨iv, ik, hx⟩
              have ok3 : ∀ e ∈ l3 U V x y tl hr kd, e.Ok := by
                intro e he; simp only [l3, List.mem_cons, List.not_mem_nil, or_false] at he
                rcases he with rfl | rfl | rfl | rfl
                · exact ⟨iu, it, hy⟩
                · exact ⟨iv, ih, hy⟩
                · exact ⟨iu, i6, hx⟩
                · exact ⟨iv, ik, hx⟩
              have OK1 := Lib.hid ok1
              have OK2 := Lib.hid ok2
              have OK3 := Lib.hid ok3
              clear ht hh hk iu iv it ih ik i6 ok1 ok2 ok3 o1 o2 o3 huv hxy hx hy hU64 hV64
              obtain ⟨⟨a0, a1, a2, a3, a4⟩, ⟨b0, b1, b2, b3, b4⟩, ⟨s0, s1, s2, s3, s4⟩, ⟨r0, r1, r2, r3, r4⟩⟩ := HC.out wc (Below.refl _ _)
              go_wp2_with fail
              refine (first_any _ 4 4 (l1 U V x y tl hr kd) _ (lit_rdE _ _ (l1 U V x y tl hr kd) rfl OK1.out (by show 4 ≤ 1000; omega) _ _ rfl rfl) (by omega)).mono ?_
              rw [O1.out.1]
              simp only [resF]
              rintro e w1 ⟨rfl, hb1⟩
              have C1 := below_step (below1 wc _) hb1
              clear hb1 a0 a1 a2 a3 a4 b0 b1 b2 b3 b4 s0 s1 s2 s3 s4 r0 r1 r2 r3 r4
              obtain ⟨⟨a0, a1, a2, a3, a4⟩, ⟨b0, b1, b2, b3, b4⟩, ⟨s0, s1, s2, s3, s4⟩, ⟨r0, r1, r2, r3, r4⟩⟩ := HC.out w1 C1
              go_wp2_with fail
              refine (first_any _ 4 4 (l2 U V x y tl hr kd) _ (lit_rdE _ _ (l2 U V x y tl hr kd) rfl OK2.out (by show 4 ≤ 1000; omega) _ _ rfl rfl) (by omega)).mono ?_
              rw [O2.out.1]
              simp only [resF]
              rintro e w2 ⟨rfl, hb2⟩
              have C2 := below_step C1 (below_step (below1 w1 _) hb2)
              clear hb2 a0 a1 a2 a3 a4 b0 b1 b2 b3 b4 s0 s1 s2 s3 s4 r0 r1 r2 r3 r4 C1
              obtain ⟨⟨a0, a1, a2, a3, a4⟩, ⟨b0, b1, b2, b3, b4⟩, ⟨s0, s1, s2, s3, s4⟩, ⟨r0, r1, r2, r3, r4⟩⟩ := HC.out w2 C2
              go_wp2_with fail
              refine (first_any _ 4 4 (l3 U V x y tl hr kd) _ (lit_rdE _ _ (l3 U V x y tl hr kd) rfl OK3.out (by show 4 ≤ 1000; omega) _ _ rfl rfl) (by omega)).mono ?_
              rw [O3.out]
              simp only [resF]
              rintro e w3 ⟨rfl, hb3⟩
              have C3 := below_step C2 (below_step (below1 w2 _) hb3)
              clear hb3 a0 a1 a2 a3 a4 b0 b1 b2 b3 b4 s0 s1 s2 s3 s4 r0 r1 r2 r3 r4 C2
              go_wp2_with fail
              refine (awake_any _).mono ?_
              rintro e w4 ⟨rfl, hb4⟩
              have C4 := below_step C3 hb4
              clear hb4 C3
              obtain ⟨⟨a0, a1, a2, a3, a4⟩, ⟨b0, b1, b2, b3, b4⟩, ⟨s0, s1, s2, s3, s4⟩, ⟨r0, r1, r2, r3, r4⟩⟩ := HC.out w4 C4
              go_wp2_with fail
              refine (before_any _ 4 4 (l1 U V x y tl hr kd) 0 3 _ (lit_rdE _ _ (l1 U V x y tl hr kd) rfl OK1.out (by show 4 ≤ 1000; omega) _ _ rfl rfl) (by omega)).mono ?_
              rw [O1.out.2]
              rintro e w5 ⟨rfl, hb5⟩
              have C5 := below_step C4 (below_step (below1 w4 _) hb5)
              clear hb5 a0 a1 a2 a3 a4 b0 b1 b2 b3 b4 s0 s1 s2 s3 s4 r0 r1 r2 r3 r4 C4
              obtain ⟨⟨a0, a1, a2, a3, a4⟩, ⟨b0, b1, b2, b3, b4⟩, ⟨s0, s1, s2, s3, s4⟩, ⟨r0, r1, r2, r3, r4⟩⟩ := HC.out w5 C5
              go_wp2_with fail
              refine (before_any _ 4 4 (l2 U V x y tl hr kd) 0 3 _ (lit_rdE _ _ (l2 U V x y tl hr kd) rfl OK2.out (by show 4 ≤ 1000; omega) _ _ rfl rfl) (by omega)).mono ?_
              rw [O2.out.2]
              rintro e w6 ⟨rfl, hb6⟩
              go_wp2
              go_ret
              exact ⟨rfl, below_step B7 (below_step C5 (below_step (below1 w5 _) hb6))⟩

theorem RaceHands_any (w : World) (u : Int) (hu : (Lit.int .i64 u).wf = true) (v : Int) (hv : (Lit.int .i64 v).wf = true) (cx : List Value) (hx : FlatOk [.int .i64, .int .i64, .int .i64] cx) (cy : List Value) (hy : FlatOk [.int .i64, .int .i64, .int .i64] cy) (q4 : Int) (h4 : (Lit.int .i64 q4).wf = true) (q5 : Int) (h5 : (Lit.int .i64 q5).wf = true) (q6 : Int) (h6 : (Lit.int .i64 q6).wf = true) :
    Calls Try.prog 9 #[.int .i64 u, .int .i64 v, .agg cx.toArray, .agg cy.toArray, .int .i64 q4, .int .i64 q5, .int .i64 q6] w fun e w' => e = .returned (.bool true) ∧ Below w.heap.size w w' := by
  obtain ⟨x, rfl, ox⟩ := loc_of hx
  obtain ⟨y, rfl, oy⟩ := loc_of hy
  exact RaceHands_1 u v x y q4 q5 q6 ox oy w
end Go.Proofs.Ytkhhjjjpbfnlmaa
