/- The program's clocks of events. -/
import Derived.Test.YtkhhjjjpbfnlmaaRaceM
namespace Go.Proofs.Ytkhhjjjpbfnlmaa
set_option linter.unusedVariables false
set_option linter.unusedSimpArgs false
open Go.RowKit Go.Proofs.YtkhhjjjpbfnlmaaMem Go.Proofs.YtkhhjjjpbfnlmaaFlat Go.Proofs.YtkhhjjjpbfnlmaaMapK

theorem start_work (w0 : World) (l : List EvS) (cur : Array Value) (hc : ∀ u, u < 64 → cur[u]? = some (.slice none 0 0)) (base : Nat) :
    Workers ((w0.alloc (.cells cur 58)).alloc (.map #[] 0)) base w0.heap.size l 0 :=
  ⟨fun _ => .slice none 0 0, ⟨cur, (heap_alloc_old _ _ (by simp)).trans (heap_alloc_new w0 _), hc⟩, fun u _ => World.ownsRow_nil _ _ _ _⟩
theorem start_place (w1 : World) (l : List EvS) (base : Nat) : Places (w1.alloc (.map #[] 0)) base w1.heap.size l 0 :=
  ⟨[], IsMapAt.made w1 _, fun x => .inl ⟨rfl, rfl⟩⟩

theorem start_all {P : World → Prop} (w w0 : World) (hb0 : Below w.heap.size w w0) (l : List EvS) (cur : Array Value) (hcur : cur = Array.replicate 64 (.slice none 0 0))
    (h : ∀ W, ClkSt w W (w0.heap.size + 2) w0.heap.size (w0.heap.size + 1) l 0 (.slice none 0 0) → P W) : P ((w0.alloc (.cells cur 58)).alloc (.map #[] 0)) := by
  have hs : (w0.alloc (.cells cur 58)).heap.size = w0.heap.size + 1 := by simp
  have hp := start_place (w0.alloc (.cells cur 58)) l (w0.heap.size + 2)
  rw [hs] at hp
  refine h _ ⟨start_work w0 l cur (by intro u hu; rw [hcur]; simp [hu]) _, hp, OwnCs.nil _ _ _, ?_, by omega, by omega, hb0.size, by have := hb0.size; omega, by omega, by simp⟩
  exact (hb0.alloc hb0.size _).alloc (by have := hb0.size; simp; omega) _

set_option maxHeartbeats 2000000 in
theorem clocks_right (ao : Option Addr) (n cap : Nat) (l : List EvS) (w : World) (h : RdE w ao n cap l) (hr : rightB l = true) (hn : n ≤ 1000) :
    Calls Try.prog 18 #[.slice ao n cap] w (RetCs w (clks l n)) := by
  have s0 := h.rd.small
  have L0 := Lib.hid h.len
  have HR := Lib.hid hr
  have hmm := makeMap_run
  go_enter Try.func18, Try.ntmps18
  go_wp2_with fail
  refine (right_any ao n cap l _ h).mono ?_
  rw [hr]
  rintro e w0 ⟨rfl, hb0⟩
  go_upto_region 5 with fail
  refine start_all (P := fun W => Code.wp Try.prog _ _ _ W) w w0 hb0 l _ rfl ?_
  intro W hst
  generalize hB3 : w0.heap.size = B3 at hst ⊢
  generalize hB4 : B3 + 1 = B4 at hst ⊢
  have hbs : B3 + 2 = B4 + 1 := by omega
  rw [hbs] at hst
  generalize hB : B4 + 1 = base at hst
  clear hbs hB hB3 hB4 hb0
  go_wp2_with fail
  go_loopw [5, 15] (fun v i wr => ∃ k : Nat, k ≤ n ∧ i = .int .i64 k ∧ ClkSt w wr base B3 B4 l k v) (fun _ i _ => n - (intOf i).toNat)
  case atStart => exact ⟨0, Nat.zero_le _, rfl, hst⟩
  case round =>
    obtain ⟨k, hk, rfl, hsr⟩ := hrel
    clear hst
    by_cases hl : k < n
    · obtain ⟨b, o, rfl, hlt, hc⟩ := h.cells hl
      obtain ⟨c0, c1, c2, c3, c4⟩ := hc wr hsr.bel
      obtain ⟨r1, r2, _, _⟩ := right_nth HR.out (show k < l.length by rw [L0.out]; exact hl)
      obtain ⟨u, hu⟩ := Int.eq_ofNat_of_zero_le r1
      have HU := Lib.hid hu
      rw [hu] at r1 r2 c0
      clear hu
      have hu64 : u < 64 := by omega
      obtain ⟨ao', cap', rfl⟩ := hsr.out.slice
      rw [clks_length] at hsr ⊢
      have CL := Lib.hid (clks_length l k)
      have hf := Lib.hid (clks_fits l (show k ≤ 1000000 by omega))
      have hbd := Lib.hid (clks_bd l k (show k ≤ 1000000 by omega))
      have h64 := Lib.hid (clks_64 l k)
      go_upto_region 9 with fail
      obtain ⟨W1, hW1⟩ : ∃ W1, W1 = wr.alloc (.cells #[.int .i64 u, .int .i64 (nthE l k).kind, .int .i64 (nthE l k).loc.kind, .int .i64 (nthE l k).loc.a, .int .i64 (nthE l k).loc.b] 36) := ⟨_, rfl⟩
      have hbW : Below wr.heap.size wr W1 := by rw [hW1]; exact (Below.refl _ _).alloc (Nat.le_refl _) _
      have hsW : wr.heap.size < W1.heap.size := by rw [hW1]; simp
      have hE : ∀ w' : World, w'.heap[wr.heap.size]? = W1.heap[wr.heap.size]? → w'.cell? ⟨wr.heap.size, 0, none⟩ = some (.int .i64 u) ∧ w'.cell? ⟨wr.heap.size, 1, none⟩ = some (.int .i64 (nthE l k).kind) ∧ w'.cell? ⟨wr.heap.size, 2, none⟩ = some (.int .i64 (nthE l k).loc.kind) ∧ w'.cell? ⟨wr.heap.size, 3, none⟩ = some (.int .i64 (nthE l k).loc.a) ∧ w'.cell? ⟨wr.heap.size, 4, none⟩ = some (.int .i64 (nthE l k).loc.b) := by
        intro w' hw'
        simp only [World.cell?, hw', hW1, heap_alloc_new]
        exact ⟨rfl, rfl, rfl, rfl, rfl⟩
      rw [← hW1]
      clear hW1 c0 c1 c2 c3 c4 hc
      have HE := Lib.hid hE
      clear hE
      generalize hBE : wr.heap.size = BE at *
      have hbaseE : base ≤ BE := by rw [← hBE]; exact hsr.bs
      have hs1 := hsr.below (by rw [hBE]; exact hbW)
      have hb3E := hs1.b3
      have hb4E := hs1.b4
      clear hBE hsr
      obtain ⟨e0, e1, _, _, _⟩ := HE.out W1 rfl
      obtain ⟨f, ha, hw⟩ := hs1.work
      have hcu := ha.cell hu64
      have hfo := hw u hu64
      obtain ⟨a, c, hfu⟩ := owns_slice hfo
      rw [hfu] at hcu hfo
      have EO : Hid (ownC l (clks l k) k = atO (clks l k) (lastP (ownP l u) k)) := by unfold Hid ownC; rw [HU.out]
      rw [← EO.out] at hfo hcu
      have hl64 : (ownC l (clks l k) k).length ≤ 64 := atO_length h64.out _
      have hrd := owns_rdI hfo (ownC_fits l (show k ≤ 1000000 by omega))
      clear hw hfu ha
      go_wp2_with fail
      refine (hears_any (nthE l k).kind _).mono ?_
      rintro e w' ⟨rfl, rfl⟩
      go_upto_if 25 with fail
      go_cut [8, 15] from 15 to 52 (fun s8 s15 wx => s15 = .int .i64 k ∧ Below W1.heap.size W1 wx ∧ ∃ a c, s8 = .slice a (heardC l (clks l k) k).length c ∧ RdI wx a (heardC l (clks l k) k).length c (heardC l (clks l k) k))
      case first =>
        cases hh : hearsB (nthE l k).kind
        · have E : Hid (heardC l (clks l k) k = ownC l (clks l k) k) := by unfold Hid heardC foundC; rw [if_neg (by rw [hh]; simp)]
          go_wp2
          go_meet
          exact ⟨rfl, Below.refl _ _, a, c, by rw [E.out], by rw [E.out]; exact hrd⟩
        · have hfo2 : foundC l k = lastP (tellP l (nthE l k).loc) k := by unfold foundC; rw [if_pos hh]
          have F := Lib.hid hfo2
          clear hfo2
          obtain ⟨_, _, e2, e3, e4⟩ := HE.out W1 rfl
          obtain ⟨m, hm, hp⟩ := hs1.place
          have hlk := run_lookup locKey under_map (zero_map W1) hm (nthE l k).loc
          rcases hp (nthE l k).loc with ⟨hO, hg⟩ | ⟨j, v, hO, hg, hv⟩
          · rw [hg] at hlk
            simp only [Option.getD_none, LocS.val] at hlk
            have E : Hid (heardC l (clks l k) k = joinC (ownC l (clks l k) k) []) := by
              unfold Hid heardC; rw [F.out, hO]; exact (join_nil (m := k) (Bd.atO hbd.out _) (by omega)).symm
            clear hO F hp hm hg
            go_wp2_with fail
            refine (join_any _ _ _ _ _ _ _ _ _ hrd (nil_rdI _) (by omega) (by omega)).mono ?_
            rintro e w3 ⟨v3, rfl, hown3, hb3⟩
            obtain ⟨a3, c3, rfl⟩ := owns_slice hown3
            go_wp2_with fail
            go_meet
            have LL : (heardC l (clks l k) k).length = maxN (ownC l (clks l k) k).length 0 := by rw [E.out, join_length]; rfl
            refine ⟨rfl, hb3, a3, c3, by rw [LL], ?_⟩
            rw [LL, E.out]
            exact owns_rdI hown3 (by rw [← E.out]; exact heardC_fits l (by omega))
          · rw [hg] at hlk
            obtain ⟨a2, c2, rfl⟩ := owns_slice hv
            simp only [Option.getD_some, LocS.val] at hlk
            have E : Hid (heardC l (clks l k) k = joinC (ownC l (clks l k) k) (nthC (clks l k) j)) := by unfold Hid heardC; rw [F.out, hO]
            have hj64 := nthC_length h64.out j
            have hrdj := owns_rdI hv (hbd.out |> fun hh => (Bd.nthC hh j).fits (by omega))
            clear hO F hp hm hg
            go_wp2_with fail
            refine (join_any _ _ _ _ _ _ _ _ _ hrd hrdj (by omega) (by omega)).mono ?_
            rintro e w3 ⟨v3, rfl, hown3, hb3⟩
            obtain ⟨a3, c3, rfl⟩ := owns_slice hown3
            go_wp2_with fail
            go_meet
            have LL : (heardC l (clks l k) k).length = maxN (ownC l (clks l k) k).length (nthC (clks l k) j).length := by rw [E.out, join_length]
            refine ⟨rfl, hb3, a3, c3, by rw [LL], ?_⟩
            rw [LL, E.out]
            exact owns_rdI hown3 (by rw [← E.out]; exact heardC_fits l (by omega))
      case rest =>
        obtain ⟨rfl, hbc, a2, c2, rfl, hrd2⟩ := hcut
        have hs2 := hs1.below hbc
        obtain ⟨f0, f1, _, _, _⟩ := HE.out wc (hbc.block _ hsW)
        have hl64' := heard_length (l := l) h64.out k
        have hEw : wc.heap.size > BE := Nat.lt_of_lt_of_le hsW hbc.size
        have hEc := hbc.block _ hsW
        clear hs1 hcu hfo hrd e0 e1
        go_wp2_with fail
        refine (tick_any _ _ _ _ u _ hrd2 (by omega)).mono ?_
        rintro e w4 ⟨v4, rfl, hown4, hb4⟩
        obtain ⟨a4, c4, rfl⟩ := owns_slice hown4
        have hs4 := hs2.below hb4
        obtain ⟨g0, g1, g2, g3, g4⟩ := HE.out w4 ((hb4.block _ hEw).trans hEc)
        obtain ⟨f, ha, hw⟩ := hs4.work
        have hcu := ha.cell hu64
        have hfz := ha.frozen u
        have ET : Hid (clkE l (clks l k) k = tickC (heardC l (clks l k) k) u) := by unfold Hid clkE; rw [HU.out]
        have ELN : Hid ((clkE l (clks l k) k).length = tickN (heardC l (clks l k) k).length u) := by unfold Hid; rw [ET.out, tickC_length]
        have hv4 : w4.ownsRow wc.heap.size 3 1 (.slice a4 (tickN (heardC l (clks l k) k).length u) c4) (clkE l (clks l k) k).length (ints (clkE l (clks l k) k)) := by rw [ELN.out, ET.out]; exact hown4
        have hv4b := owns_base hv4 hs2.bs
        clear hw f0 f1
        go_upto_region 14 with fail
        have hW5 := hs4.work.next (u := u) hb3E HU.out hv4b
        have hk5 := RowsKept.grown (base := base) (grown_set w4 B3 u (.slice a4 (tickN (heardC l (clks l k) k).length u) c4)) hb3E
        have hp5 := hs4.place.keep hk5 (Below.heap_setCell w4 ⟨B3, u, none⟩ _ B4 hs4.ne.symm)
        have ho5 : OwnCs (w4.setCell ⟨B3, u, none⟩ (.slice a4 (tickN (heardC l (clks l k) k).length u) c4)) base (w4.setCell ⟨B3, u, none⟩ (.slice a4 (tickN (heardC l (clks l k) k).length u) c4)).heap.size (.slice ao' k cap') (clks l k) := by
          obtain ⟨vs, o1, o2, o3, o4⟩ := hs4.out
          refine ⟨vs, owns_grown o1 (grown_set w4 B3 u _) fun q hq e => ?_, fun i hi => hk5 _ _ _ (o2 i hi), fun i q hi hq => ?_, o4⟩
          · cases e; have := (owns_lt o1 _ hq).1; omega
          · have := o3 i q hi hq; simpa [World.setCell] using this
        have hv5 := hk5 _ _ _ hv4b
        have hel5 := HE.out (w4.setCell ⟨B3, u, none⟩ (.slice a4 (tickN (heardC l (clks l k) k).length u) c4)) ((Below.heap_setCell w4 ⟨B3, u, none⟩ _ BE (by simp only; omega)).trans ((hb4.block _ hEw).trans hEc))
        have hbel5 := hs4.bel.setCell (p := ⟨B3, u, none⟩) hs4.bw3 (.slice a4 (tickN (heardC l (clks l k) k).length u) c4)
        have hsz5 : base ≤ (w4.setCell ⟨B3, u, none⟩ (.slice a4 (tickN (heardC l (clks l k) k).length u) c4)).heap.size := by simpa [World.setCell] using hs4.bs
        have hne := hs4.ne
        have hbw4 := hs4.bw4
        have hbw3 := hs4.bw3
        clear hs2 hs4 hcu hfz ha g0 g1 g2 g3 g4
        generalize hW : w4.setCell ⟨B3, u, none⟩ (.slice a4 (tickN (heardC l (clks l k) k).length u) c4) = W5 at *
        obtain ⟨_, e1, e2, e3, e4⟩ := hel5
        go_wp2_with fail
        refine (tells_any (nthE l k).kind _).mono ?_
        rintro e w' ⟨rfl, rfl⟩
        go_upto_if 42 with fail
        go_cut [15] from 15 to 52 (fun s15 wx => s15 = .int .i64 k ∧ Workers wx base B3 l (k + 1) ∧ Places wx base B4 l (k + 1) ∧ OwnCs wx base wx.heap.size (.slice ao' k cap') (clks l k) ∧ wx.ownsRow base 3 1 (.slice a4 (tickN (heardC l (clks l k) k).length u) c4) (clkE l (clks l k) k).length (ints (clkE l (clks l k) k)) ∧ Below w.heap.size w wx ∧ base ≤ wx.heap.size)
        case first =>
          cases ht : tellsB (nthE l k).kind
          · have hpx := hp5.stays ht
            clear ht hp5
            go_wp2
            go_meet
            exact ⟨rfl, hW5, hpx, ho5, hv5, hbel5, hsz5⟩
          · obtain ⟨m, hm, hp⟩ := hp5
            obtain ⟨w6, hru, hm6, hg6⟩ := run_update locKey under_map hm (nthE l k).loc (.slice a4 (tickN (heardC l (clks l k) k).length u) c4)
            have hk6 := RowsKept.grown (base := base) hg6 hb4E
            have hpx := Places.next hp ht hm6 hk6 hv5
            have hwx := hW5.keep hk6 (hg6.block B3 (by have := hb3E; omega) (by simpa using hne))
            have hox : OwnCs w6 base w6.heap.size (.slice ao' k cap') (clks l k) := by
              obtain ⟨vs, o1, o2, o3, o4⟩ := ho5
              refine ⟨vs, owns_grown o1 hg6 fun q hq e => ?_, fun i hi => hk6 _ _ _ (o2 i hi), fun i q hi hq => Nat.lt_of_lt_of_le (o3 i q hi hq) hg6.size, o4⟩
              cases e; have := (owns_lt o1 _ hq).1; omega
            have hbx : Below w.heap.size w w6 := hbel5.grown hg6 hbel5.size (fun q hq => by cases hq; exact hbw4)
            have hszx := Nat.le_trans hsz5 hg6.size
            have hvx := hk6 _ _ _ hv5
            simp only [LocS.val] at hru
            have HPX := Lib.hid hpx
            clear ht hp hm hpx
            go_wp2
            go_meet
            exact ⟨rfl, hwx, HPX.out, hox, hvx, hbx, hszx⟩
        case rest =>
          obtain ⟨rfl, hW6, hp6, ho6, hv6, hbel6, hsz6⟩ := hcut
          have hfit := clkE_fits l (show k ≤ 1000000 by omega)
          have hv6' := hv6
          rw [ELN.out] at hv6'
          have hrd6 := owns_rdI hv6' hfit
          have HTL : tickN (heardC l (clks l k) k).length u ≤ 549755813888 := by have := tickN_le hl64' (u : Int); omega
          go_wp2_with fail
          refine (clone_any _ _ _ _ _ hrd6 HTL).mono ?_
          rintro e w7 ⟨v7, rfl, hown7, hb7⟩
          obtain ⟨a7, c7, rfl⟩ := owns_slice hown7
          obtain ⟨vs, o1, o2, o3, o4⟩ := ho6.below hb7
          rw [CL.out] at o1
          have hbase : base ≤ w7.heap.size := Nat.le_trans hsz6 hb7.size
          have hn2 : k + 1 ≤ 1099511627776 := by omega
          have hW7 := hW6.keep (RowsKept.below hb7) (hb7.block B3 (by omega))
          have hp7 := hp6.keep (RowsKept.below hb7) (hb7.block B4 (by omega))
          clear hW6 hp6
          go_wp2_with ((at_builtin; refine ap_new w7 _ EC rfl _ _ rfl base _ k _ rfl o1 hbase 1 rfl rfl (one1 rfl) hn2 ?_; intro v' w8 hown8 hg8 hb8 hfr8))
          go_roundw
          case rel =>
            have hnt : 23 ≠ 3 := by decide
            have hk8 := RowsKept.tag (base := base) o1 hnt hg8
            have hbel8 : Below w.heap.size w w8 := (hbel6.trans (hb7.mono hbel6.size)).trans (hb8.mono (by have := hne; omega))
            exact ⟨k + 1, by omega, by go_num, hW7.keep hk8 (hb8.block B3 hb3E), hp7.keep hk8 (hb8.block B4 hb4E), OwnCs.push (vs := vs) (M := wc.heap.size) CL.out ELN.out o1 o2 o3 o4 hown7 hsz6 hown8 hg8, hbel8, hb3E, hb4E, hbw3, hbw4, hne, Nat.le_trans hbase hg8.size⟩
          case measure => simp [intOf]; omega
    · obtain rfl : k = n := by omega
      go_wp2
      go_ret
      obtain ⟨vs, o1, o2, o3, o4⟩ := hsr.out
      have hbb : w.heap.size ≤ base := Nat.le_trans hsr.bw3 (Nat.le_of_lt hsr.b3)
      exact ⟨_, rfl, ⟨vs, owns_base o1 hbb, fun i hi => owns_base (o2 i hi) hbb, o3, o4⟩, hsr.bel⟩
end Go.Proofs.Ytkhhjjjpbfnlmaa
