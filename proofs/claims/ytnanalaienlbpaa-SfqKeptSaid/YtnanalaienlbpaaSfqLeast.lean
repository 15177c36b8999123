/- SfqLeast. -/
import Derived.Test.YtnanalaienlbpaaSfqRises
import Derived.Deep.QuietTactic
import Derived.BigQuiet
namespace Go.Proofs.Ytnanalaienlbpaa
set_option linter.unusedVariables false
set_option linter.unusedSimpArgs false
set_option maxRecDepth 20000
open Go.RowKit Go.Proofs.YtnanalaienlbpaaMem Go.Proofs.YtnanalaienlbpaaFlat Go.Proofs.YtnanalaienlbpaaMapK

/-- Each packet lies in its own flow. -/
def SfS.Home (s : SfS) : Prop := ∀ e ∈ s.fs, ∀ p ∈ e.2.l, p.flow = e.1
theorem home_set {fs : List (Int × FlS)} {id : Int} {x : FlS} (h : ∀ e ∈ fs, ∀ p ∈ e.2.l, p.flow = e.1) (hx : ∀ p ∈ x.l, p.flow = id) : ∀ e ∈ setF fs id x, ∀ p ∈ e.2.l, p.flow = e.1 := fun e he p hp => by
  rcases setF_mem he with rfl | he
  · exact hx p hp
  · exact h e he p hp
theorem add_home {s : SfS} (h : s.Home) (id r m : Int) : (s.add id r m).Home := by
  unfold SfS.add
  split
  · exact h
  · intro e he p hp
    rcases List.mem_append.1 he with he | he
    · exact h e he p hp
    · simp only [List.mem_singleton] at he; subst he; cases hp
theorem someS_home : ∀ k, (someS k).Home
  | 0 => fun e he => by cases he
  | k + 1 => add_home (someS_home k) _ _ _
theorem arrive_home {s : SfS} (h : s.Home) (p : Pk) : (s.arrive p).Home := by
  unfold SfS.arrive
  cases hg : getF s.fs p.flow with
  | none => exact h
  | some x =>
    refine home_set h fun q hq => ?_
    have hx := getF_mem hg
    unfold FlS.arrive at hq
    by_cases hf : x.full = true
    · rw [if_pos hf] at hq; exact h _ hx q hq
    · rw [if_neg hf] at hq
      rcases List.mem_append.1 hq with hq | hq
      · exact h _ hx q hq
      · simp only [List.mem_singleton] at hq; subst hq; rfl
theorem serve_home {s : SfS} (h : s.Home) : s.serve.Home := by
  unfold SfS.serve
  split
  · exact h
  · cases hg : getF s.fs s.first.2 with
    | none => exact h
    | some x =>
      have hx := getF_mem hg
      refine home_set h fun q hq => ?_
      unfold FlS.serve at hq
      cases hl : x.l with
      | nil => rw [hl] at hq; simp only at hq; rw [hl] at hq; cases hq
      | cons p rest => rw [hl] at hq; exact h _ hx q (by show q ∈ x.l; rw [hl]; exact List.mem_cons_of_mem _ hq)
theorem stepS_home {s : SfS} (h : s.Home) (a : ActT) : (stepS s a).Home := by
  unfold stepS
  split
  · exact add_home h _ _ _
  · split
    · unfold SfS.remove
      cases getF s.fs a.flow with
      | none => exact h
      | some x =>
        simp only
        split
        · exact fun e he => h e (List.mem_filter.1 he).1
        · exact h
    · split
      · exact arrive_home h _
      · exact serve_home h
/-- Who is served is the first of all starts, and v is its start then; there is none just where there is no start. -/
theorem least {s : SfS} (sn : (s.fs.map (·.1)).Nodup) (h : s.Home) : (s.has = false ∧ s.starts.length = 0 ∧ s.serve.v = max s.v s.most) ∨ (s.has = true ∧ 0 < s.starts.length ∧ (nthE s.starts 0).2 = s.head.flow ∧ (nthE s.starts 0).1 = s.serve.v) := by
  by_cases hn : entL s.fs = []
  · refine .inl ⟨by unfold SfS.has; rw [hn]; rfl, by unfold SfS.starts; rw [sortE_length, hn]; rfl, ?_⟩
    unfold SfS.serve; rw [if_pos hn]
  · right
    have hlen : 0 < s.starts.length := by unfold SfS.starts; rw [sortE_length]; exact List.length_pos_iff.2 hn
    have hfi : IsFirst (entL s.fs) (nthE s.starts 0) := by
      refine ⟨(sortE_perm _).mem_iff.1 (nthE_mem hlen), fun e he => ?_⟩
      have hm : e ∈ s.starts := (sortE_perm _).mem_iff.2 he
      have hp : s.starts.Pairwise fun x y => aheadE y x = false := (sortE_pairwise (entL s.fs)).imp fun h => h
      obtain ⟨j, hj⟩ := List.getElem?_of_mem hm
      have hjl : j < s.starts.length := by
        rcases Nat.lt_or_ge j s.starts.length with h | h
        · exact h
        · rw [List.getElem?_eq_none h] at hj; cases hj
      rw [List.getElem?_eq_getElem hjl] at hj
      cases hj
      have h0 : nthE s.starts 0 = s.starts[0] := by unfold nthE; rw [List.getD_eq_getElem?_getD, List.getElem?_eq_getElem hlen]; rfl
      rw [h0]
      rcases Nat.eq_zero_or_pos j with rfl | hj0
      · exact aheadE_irrefl _
      · exact List.pairwise_iff_getElem.1 hp 0 j hlen hjl hj0
    have hfirst : s.first = nthE s.starts 0 := (minK_isFirst hn).unique hfi
    obtain ⟨e, he, hh, h2⟩ := entL_mem hfi.1
    have hget : getF s.fs e.1 = some e.2 := (getF_iff sn).2 he
    refine ⟨?_, hlen, ?_, ?_⟩
    · unfold SfS.has
      cases hx : entL s.fs with
      | nil => exact absurd hx hn
      | cons _ _ => rfl
    · unfold SfS.head
      rw [if_neg hn, hfirst, h2]
      simp only
      rw [hget]
      simp only
      unfold FlS.head
      cases hl : e.2.l with
      | nil => exact absurd hl (has_l.1 hh)
      | cons p rest => exact (h e he p (by rw [hl]; exact List.mem_cons_self ..)).symm
    · unfold SfS.serve
      rw [if_neg hn, hfirst, h2]
      simp only
      rw [hget]
set_option maxHeartbeats 2000000 in
theorem least_in (ao : Option Addr) (n cap : Nat) (l : List ActT) (w : World) (h : RdT w ao n cap l) :
    Calls Try.prog 5 #[.slice ao n cap] w fun e w' => e = .returned (.bool true) ∧ Below w.heap.size w w' := by
  have hs := h.small
  go_enter Try.func5, Try.ntmps5
  go_wp2_with fail
  refine (newO w w (Below.refl _ _)).mono ?_
  rintro e w1 ⟨b, rfl, H⟩
  have O := twoBegin H
  clear H
  go_upto_region 2 with fail
  generalize hc : w1.heap.size = c at *
  clear hc
  generalize (w1.alloc (.cells #[.slice none 0 0, .int .u64 0, .int .u64 0] 43)) = W1 at *
  go_wp2_with fail
  refine (awake10_any _).mono ?_
  rintro e w2 ⟨rfl, hb2⟩
  replace O := O.below hb2
  obtain ⟨F, f1, f2, f3⟩ := O
  go_wp2_with fail
  refine (some_any b c F _ f1).mono ?_
  rintro e w3 ⟨rfl, hp⟩
  have O := OwnT.post f2 f3 hp
  clear f1 f2 f3 hp hb2
  have hsim := some_sim 4
  have hok := some_ok 4 (Nat.le_refl _)
  have hln : (someS 4).fs.length ≤ 4 := some_len 4
  have hho := someS_home 4
  generalize someS 4 = s0 at *
  generalize someR 4 = t0 at *
  go_wp2_with fail
  go_loopw [5, 6, 7, 8, 9, 10, 61, 67, 87] (fun u5 _ _ _ _ _ _ _ _ wr => ∃ (k : Nat) (s t : SfS), k ≤ n ∧ k ≤ 60 ∧ u5 = .int .i64 k ∧ OwnT w wr b c s t ∧ Sim s t ∧ s.Ok ∧ s.fs.length ≤ 4 + k ∧ s.Home) (fun u5 _ _ _ _ _ _ _ _ _ => (60 - intOf u5).toNat)
  case atStart => exact ⟨0, s0, t0, Nat.zero_le _, Nat.zero_le _, rfl, O, hsim, hok, hln, hho⟩
  case round =>
    obtain ⟨k, s, t, hk, hk8, rfl, O, hsim, hok, hln, hho⟩ := hrel
    by_cases hlx : k < n ∧ k < 60
    · obtain ⟨hl, h8⟩ := hlx
      have i1 : (k : Int) < (n : Int) := by omega
      have i2 : (k : Int) < 60 := by omega
      have ha := h.nth_ok k
      obtain ⟨bl, off, rfl, hc⟩ := h.cells hl
      obtain ⟨F, f1, f2, f3⟩ := O
      obtain ⟨q0, q1, q2, q3, q4, q5, q6⟩ := hc _ f3
      have hsim2 := hsim.step (nthT l k).near
      have hok2 := stepS_ok hok (ActT.near_ok ha)
      have hln2 := stepS_length s (nthT l k).near
      have hho2 := stepS_home hho (nthT l k).near
      have HC := Lib.hid hc
      have S2 := Lib.hid hsim2
      have K2 := Lib.hid hok2
      have M2 := Lib.hid hho2
      clear hc hsim2 hok2 hho hho2
      go_wp2_with fail
      refine (step_any b c s t F (nthT l k) wr f1 hsim hok ha (by omega)).mono ?_
      rintro e w4 ⟨rfl, hp⟩
      have O := OwnT.post f2 f3 hp
      clear f1 f2 f3 hp q0 q1 q2 q3 q4 q5 q6 hsim hok
      generalize stepS s (nthT l k).near = s2 at *
      generalize stepR t (nthT l k).near = t2 at *
      have hl2 : s2.fs.length ≤ 4 + (k + 1) := by omega
      clear hln hln2
      obtain ⟨q0, q1, q2, q3, q4, q5, q6⟩ := HC.out _ O.bel
      have hmb := modZ_bd (nthT l k).most (n := 3) (by omega)
      go_wp2_with fail
      refine (mod_any _ _ (by omega) (by omega) _).mono ?_
      rintro e w' ⟨rfl, rfl⟩
      generalize modZ (nthT l k).most 3 = M at *
      by_cases hM : 0 < M
      · have hd : decide (0 < M) = true := decide_eq_true hM
        go_wp2
        go_roundw
        case rel => exact ⟨k + 1, s2, t2, hl, h8, by go_num, O, S2.out, K2.out, hl2, M2.out⟩
        case measure => simp [intOf]; omega
      · have hd : decide (0 < M) = false := decide_eq_false hM
        clear q0 q1 q2 q3 q4 q5 q6 hM
        obtain ⟨F, f1, f2, f3⟩ := O
        have hle := least S2.out.sn M2.out
        obtain ⟨hs3, hh1, hh2⟩ := S2.out.serve
        have k3 := SfS.serve_ok K2.out
        have m3 := serve_home M2.out
        have l3 := serve_length s2
        have S3 := Lib.hid hs3
        have K3 := Lib.hid k3
        have M3 := Lib.hid m3
        clear hs3 k3 m3 hh1 hh2
        go_wp2_with fail
        refine (twoStarts f1 (by omega)).mono ?_
        rintro e w5 ⟨x, rfl, hrow, hb5⟩
        have hxlt := hrow.lt
        have hFl := f1.lt
        have f1 := f1.below hb5
        have f3 := f3.trans (hb5.mono f3.size)
        obtain ⟨xa, xc, rfl⟩ := owns_slice hrow
        have hrd := owns_rdS hrow (entC_one _)
        have hsm := hrd.small
        go_wp2_with fail
        refine (twoV f1).mono ?_
        rintro e w' ⟨rfl, rfl⟩
        go_wp2_with fail
        refine (twoMost f1).mono ?_
        rintro e w' ⟨rfl, rfl⟩
        go_wp2_with fail
        refine (twoServe f1 K2.out (by omega)).mono ?_
        unfold Pk.val
        rintro e w6 ⟨rfl, hp6⟩
        have two6 := hp6.1
        have P1 := Blk.new w6 [.int .i64 s2.head.flow, .int .i64 s2.head.len, .int .i64 s2.head.mark] 34
        have hp1 : ¬ Ext F w5 w6 w6.heap.size := fun hk => by have := two6.lt _ hk; omega
        have hb7 := below1 w6 (.cells #[.int .i64 s2.head.flow, .int .i64 s2.head.len, .int .i64 s2.head.mark] 34)
        go_wp2_with fail
        refine (twoServeR (two6.below hb7)).mono ?_
        rintro e w8 ⟨rfl, hp8⟩
        have P2 := P1.fr hp8.2 hp1
        have x0 := P2.cell 0
        simp only [List.getElem?_cons_zero] at x0
        have O := OwnT.post f2 f3 (hp6.trans (TwoPost.after_below two6.lt hb7 hp8))
        have HO := Lib.hid O
        obtain ⟨F8, g1, -, -⟩ := O
        have hlp := P2.lt
        rcases hle with ⟨e1, e2, e3⟩ | ⟨e1, e2, e3, e4⟩
        · rw [e1, e2]
          have E3 := Lib.hid e3
          clear P1 P2 hp6 hp8 two6 hb7 hp1 hrd hrow e3
          go_wp2_with fail
          go_quiet (fail)
          have g1 := g1.below (below_drewN w8 nq)
          have HO2 := Lib.hid (HO.out.below (below_drewN w8 nq))
          have hcase : (s2.v < s2.most ∧ max s2.v s2.most = s2.most) ∨ (s2.most ≤ s2.v ∧ max s2.v s2.most = s2.v) := by omega
          rcases hcase with ⟨hv, hm⟩ | ⟨hv, hm⟩
          all_goals
            have HM := Lib.hid hm
            clear hm
            go_wp2_with fail
            refine (twoV g1).mono ?_
            rw [E3.out, HM.out]
            rintro e w' ⟨rfl, rfl⟩
            go_wp2
            go_roundw
            case rel => exact ⟨k + 1, s2.serve, t2.serve, hl, h8, by go_num, HO2.out, S3.out, K3.out, by omega, M3.out⟩
            case measure => simp [intOf]; omega
        · obtain ⟨xb, xo, rfl, hxl, hx⟩ := rds_ent hrd rfl (k := 0) e2
          obtain ⟨y0, y1⟩ := hx _ (Below.refl _ _)
          simp only [Nat.zero_mul, Nat.add_zero] at y0 y1
          have hnx : ¬ F xb := fun hk => by have h1 := hFl _ hk; have h2 := (hxlt xb rfl).1; omega
          have y0 := (hp6.2.cell (o := xo) hxl hnx).trans y0
          have y1 := (hp6.2.cell (o := xo + 1) hxl hnx).trans y1
          have hl6 : xb < w6.heap.size := Nat.lt_of_lt_of_le hxl hp6.2.size
          have y0 := (hb7.cell (p := ⟨xb, xo, none⟩) hl6).trans y0
          have y1 := (hb7.cell (p := ⟨xb, xo + 1, none⟩) hl6).trans y1
          have hnx2 : ¬ Ext F w5 w6 xb := fun hk => by
            rcases hk with hk | hk
            · exact hnx hk
            · omega
          have hl7 := Nat.lt_of_lt_of_le hl6 hb7.size
          have y0 := (hp8.2.cell (o := xo) hl7 hnx2).trans y0
          have y1 := (hp8.2.cell (o := xo + 1) hl7 hnx2).trans y1
          rw [e1]
          rw [e3] at y1
          rw [e4] at y0
          have n1 : (0 : Int) < (s2.starts.length : Int) := by omega
          have n2 : decide ((0 : Int) < (s2.starts.length : Int)) = true := decide_eq_true n1
          have n3 : (s2.head.flow != s2.head.flow) = false := by simp
          generalize s2.starts = LL at *
          clear P1 P2 hp6 hp8 two6 hb7 hp1 hrd hrow e3 e4 hx e1
          go_wp2_with fail
          go_quiet (first | (go_at_call 17; refine Calls.quiet_of_same ((twoV (g1.below (below_drewN w8 _))).mono fun e w' h => ⟨h.1, h.2.symm⟩)))
          have HO2 := Lib.hid (HO.out.below (below_drewN w8 nq))
          go_wp2
          go_roundw
          case rel => exact ⟨k + 1, s2.serve, t2.serve, hl, h8, by go_num, HO2.out, S3.out, K3.out, by omega, M3.out⟩
          case measure => simp [intOf]; omega
    · have i3 : (n : Int) ≤ (k : Int) ∨ (k : Int) < (n : Int) ∧ 60 ≤ (k : Int) := by omega
      rcases i3 with i1 | ⟨i1, i2⟩
      all_goals
        go_wp2
        go_ret
        exact ⟨rfl, O.bel⟩

theorem SfqLeast_any (w : World) (ao : Option Addr) (n cap : Nat) (L : List (List Value)) (w2 : IsRows w [.int .i64, .int .i64, .int .i64, .int .u64, .int .i64, .int .i64, .int .i64] ao n cap L) :
    Calls Try.prog 5 #[.slice ao n cap] w fun e w' => e = .returned (.bool true) ∧ Below w.heap.size w w' := by
  obtain ⟨l, h⟩ := isRows_rdT w2
  exact least_in ao n cap l w h
end Go.Proofs.Ytnanalaienlbpaa
