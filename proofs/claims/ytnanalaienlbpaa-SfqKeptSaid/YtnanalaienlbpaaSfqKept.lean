/- SfqKept. -/
import Derived.Test.YtnanalaienlbpaaKeptM
import Derived.Deep.CutBlock
import Derived.Deep.CutRange
namespace Go.Proofs.Ytnanalaienlbpaa
set_option linter.unusedVariables false
set_option linter.unusedSimpArgs false
set_option maxRecDepth 20000
open Go.RowKit Go.Proofs.YtnanalaienlbpaaMem Go.Proofs.YtnanalaienlbpaaFlat Go.Proofs.YtnanalaienlbpaaMapK

theorem take_inF (l : List Pk) (f : Int) {k : Nat} (h : k < l.length) : inF (l.take (k + 1)) f = inF (l.take k) f ++ (if (nthP l k).flow = f then [nthP l k] else []) := by
  rw [List.take_add_one, inF_append, nthP_eq h]
  congr 1
  rw [List.getElem?_eq_getElem h]
  exact inF_one _ _
theorem serve_none_fs {s : SfS} (h : s.has = false) : s.serve.fs = s.fs := by
  unfold SfS.has at h
  unfold SfS.serve
  cases hx : entL s.fs with
  | nil => rw [if_pos rfl]
  | cons _ _ => rw [hx] at h; cases h
theorem served_ok {s : SfS} (ok : s.Ok) : s.head.Ok := by
  have hz : Pk.zero.Ok := ⟨by show I64 0; unfold I64; omega, by show I64 0; unfold I64; omega, by show I64 0; unfold I64; omega⟩
  unfold SfS.head
  split
  · exact hz
  · cases hg : getF s.fs s.first.2 with
    | none => exact hz
    | some x =>
      simp only
      unfold FlS.head
      cases hl : x.l with
      | nil => exact hz
      | cons p r => exact (ok.fs _ (getF_mem hg)).pk p (by show p ∈ x.l; rw [hl]; exact List.mem_cons_self ..)

/-- Two rows of the call's own, apart. -/
structure AB (w6 wr : World) (va : Value) (la : List Pk) (vb : Value) (lb : List Pk) : Prop where
  bel : Below w6.heap.size w6 wr
  a : wr.ownsRow w6.heap.size 34 3 va la.length (pks la)
  b : wr.ownsRow w6.heap.size 34 3 vb lb.length (pks lb)
  apart : ∀ k, va.ownBlock = some k → vb.ownBlock ≠ some k
section
variable {w6 wr wy : World} {va vb v' : Value} {la lb : List Pk} {p : Pk}
theorem pks_snoc (l : List Pk) (p : Pk) : pks (l ++ [p]) = pks l ++ [.int .i64 p.flow, .int .i64 p.len, .int .i64 p.mark] := by rw [pks_append]; simp [pks, Pk.cells]
theorem AB.toA (h : AB w6 wr va la vb lb) (hown : wy.ownsRow w6.heap.size 34 3 v' (la.length + 1) (pks la ++ [.int .i64 p.flow, .int .i64 p.len, .int .i64 p.mark])) (hg : wr.grownBy wy va.ownBlock) (hfr : FreshOr wr va v') : AB w6 wy v' (la ++ [p]) vb lb := by
  have hf : Fr (fun k => va.ownBlock = some k) wr wy := (Fr.refl _ wr).grown hg fun k hk => .inl hk
  refine ⟨h.bel.trans (hf.below (fun k hk => (h.a.lt k hk).1) h.bel.size), by rw [pks_snoc, List.length_append]; exact hown, owns_fr h.b hf fun k hk hk2 => h.apart k hk2 hk, fun k hk e => ?_⟩
  rcases hfr with hfr | hfr
  · rw [hfr] at hk; exact h.apart k hk e
  · have := hfr k hk; have := (h.b.lt k e).2; omega
theorem AB.toB (h : AB w6 wr va la vb lb) (hown : wy.ownsRow w6.heap.size 34 3 v' (lb.length + 1) (pks lb ++ [.int .i64 p.flow, .int .i64 p.len, .int .i64 p.mark])) (hg : wr.grownBy wy vb.ownBlock) (hfr : FreshOr wr vb v') : AB w6 wy va la v' (lb ++ [p]) := by
  have hf : Fr (fun k => vb.ownBlock = some k) wr wy := (Fr.refl _ wr).grown hg fun k hk => .inl hk
  refine ⟨h.bel.trans (hf.below (fun k hk => (h.b.lt k hk).1) h.bel.size), owns_fr h.a hf fun k hk hk2 => h.apart k hk hk2, by rw [pks_snoc, List.length_append]; exact hown, fun k hk e => ?_⟩
  rcases hfr with hfr | hfr
  · rw [hfr] at e; exact h.apart k hk e
  · have := hfr k e; have := (h.a.lt k hk).2; omega
end

set_option maxHeartbeats 4000000 in
theorem kept_in (ao : Option Addr) (n cap : Nat) (l : List ActT) (w : World) (h : RdT w ao n cap l) :
    Calls Try.prog 6 #[.slice ao n cap] w fun e w' => e = .returned (.bool true) ∧ Below w.heap.size w w' := by
  have hs := h.small
  go_enter Try.func6, Try.ntmps6
  go_wp2_with fail
  refine (newO w w (Below.refl _ _)).mono ?_
  rintro e w1 ⟨b, rfl, H⟩
  have O := twoBegin H
  clear H
  go_upto_region 2 with fail
  generalize hc : w1.heap.size = c at *
  clear hc
  generalize (w1.alloc (.cells #[.slice none 0 0, .int .u64 0, .int .u64 0] 43)) = W1 at *
  go_wp2_with fail
  refine (awake10_any _).mono ?_
  rintro e w2 ⟨rfl, hb2⟩
  replace O := O.below hb2
  obtain ⟨F, f1, f2, f3⟩ := O
  go_wp2_with fail
  refine (some_any b c F _ f1).mono ?_
  rintro e w3 ⟨rfl, hp⟩
  have O := OwnT.post f2 f3 hp
  have K0 : KM w w3 b (someS 4) (.slice none 0 0) [] (.slice none 0 0) [] := by
    obtain ⟨F', ⟨Fs, Gs, g1, -, -, g4, -⟩, g7, g8⟩ := O
    exact ⟨g8, Fs, g1, fun k hk => g7 k (g4 k hk), World.ownsRow_nil _ _ _ _, World.ownsRow_nil _ _ _ _, fun k hk => (by cases hk), fun k hk => (by cases hk)⟩
  clear f1 f2 f3 hp hb2 O
  have hok := some_ok 4 (Nat.le_refl _)
  have hln : (someS 4).fs.length ≤ 4 := some_len 4
  have hkp := Kept10.start
  generalize someS 4 = s0 at *
  go_upto_block 0 with fail
  go_cut [5, 6] from 7 to 71 (fun v5 v6 wx => ∃ (s : SfS) (il ol : List Pk), KM w wx b s v5 il v6 ol ∧ Kept10 s il ol ∧ s.Ok ∧ s.fs.length ≤ 4 ∧ il.length ≤ 60)
  case first =>
    go_wp2_with fail
    go_loopw [5, 6, 7, 8, 9, 10] (fun v5 v6 v7 _ _ _ wr => ∃ (k : Nat) (s : SfS) (il ol : List Pk), k ≤ n ∧ k ≤ 60 ∧ v7 = .int .i64 k ∧ KM w wr b s v5 il v6 ol ∧ Kept10 s il ol ∧ s.Ok ∧ s.fs.length ≤ 4 ∧ il.length ≤ k) (fun _ _ v7 _ _ _ _ => (60 - intOf v7).toNat)
    case atStart => exact ⟨0, s0, [], [], Nat.zero_le _, Nat.zero_le _, rfl, K0, hkp, hok, hln, Nat.le_refl _⟩
    case round =>
      obtain ⟨k, s, il, ol, hk, hk8, rfl, K, hkp, hok, hln, hil⟩ := hrel
      clear K0
      have hcl : ol.length ≤ il.length := by have := hkp.cnt; omega
      by_cases hlx : k < n ∧ k < 60
      · obtain ⟨hl, h8⟩ := hlx
        have i1 : (k : Int) < (n : Int) := by omega
        have i2 : (k : Int) < 60 := by omega
        have ha := h.nth_ok k
        have hz := ActT.near_ok ha
        obtain ⟨bl, off, rfl, hc⟩ := h.cells hl
        obtain ⟨q0, q1, q2, q3, q4, q5, q6⟩ := hc _ K.bel
        have KH := Lib.hid hkp
        have hnear := near_any (nthT l k) wr ha
        generalize (nthT l k).near = z at *
        clear hkp hc
        go_wp2_with fail
        refine hnear.mono ?_
        rintro e w4 ⟨rfl, hb4⟩
        have K4 := K.below hb4
        clear K hnear q0 q1 q2 q3 q4 q5 q6 ha
        go_upto_region 11 with fail
        have B6 := Blk.new w4 [.int .i64 z.kind, .int .i64 z.flow, .int .i64 z.most, .int .u64 z.r, .int .i64 z.p.flow, .int .i64 z.p.len, .int .i64 k] 48
        have hb6 := below1 w4 (.cells #[.int .i64 z.kind, .int .i64 z.flow, .int .i64 z.most, .int .u64 z.r, .int .i64 z.p.flow, .int .i64 z.p.len, .int .i64 k] 48)
        obtain ⟨h0, F, h2, h3, h4, h5, h6, h7⟩ := K4
        have hlt := h2.lt
        have hnq : ¬ F w4.heap.size := fun hk => by have := hlt _ hk; omega
        generalize hW6 : w4.alloc (.cells #[.int .i64 z.kind, .int .i64 z.flow, .int .i64 z.most, .int .u64 z.r, .int .i64 z.p.flow, .int .i64 z.p.len, .int .i64 k] 48) = W6 at *
        clear hW6
        have hB6 := h0.trans (hb6.mono h0.size)
        have e2 := h2.below hb6
        have e4 := owns_below (B := 0) h4 hb6
        have e5 := owns_below (B := 0) h5 hb6
        generalize hqq : w4.heap.size = q at *
        clear hqq
        have x0 := B6.cell 0
        have x4 := B6.cell 4
        have x5 := B6.cell 5
        have x6 := B6.cell 6
        have hl6 := B6.lt
        simp only [List.getElem?_cons_succ, List.getElem?_cons_zero] at x0 x4 x5 x6
        have hmb := modZ_bd z.kind (n := 4) (by omega)
        have HB6 := Lib.hid B6
        clear h2 h4 h5 hb6 B6
        go_wp2_with fail
        refine (mod_any _ _ (by omega) (by omega) _).mono ?_
        rintro e w' ⟨rfl, rfl⟩
        generalize modZ z.kind 4 = M at *
        by_cases hM : 0 < M
        · have hd : decide (0 < M) = true := decide_eq_true hM
          have hpk : (Pk.mk z.p.flow z.p.len k).Ok := ⟨hz.p.1, hz.p.2.1, by show I64 (k : Int); unfold I64; omega⟩
          have hok2 := SfS.arrive_ok hok hpk
          have hl2 := arrive_length s ⟨z.p.flow, z.p.len, k⟩
          have hcame := KH.out.came ⟨z.p.flow, z.p.len, k⟩
          go_wp2_with fail
          refine (arriveS_any b s F ⟨z.p.flow, z.p.len, k⟩ W6 e2 hok hpk).mono ?_
          rintro e w7 ⟨rfl, hp7⟩
          have K7 := KM.post hB6 h3 e4 e5 h6 h7 hp7
          have B7 := HB6.out.fr hp7.2 hnq
          have x4 := B7.cell 4
          have x5 := B7.cell 5
          have x6 := B7.cell 6
          simp only [List.getElem?_cons_succ, List.getElem?_cons_zero] at x4 x5 x6
          have KK := Lib.hid K7
          rcases hcame with ⟨c1, c2⟩ | ⟨c1, c2⟩
          · have c3 : (s.arriveE ⟨z.p.flow, z.p.len, k⟩ == 0) = false := by simpa using c1
            have C2 := Lib.hid c2
            generalize s.arriveE ⟨z.p.flow, z.p.len, k⟩ = E at *
            clear K7 B7 c2 hp7
            go_wp2
            go_roundw
            case rel => exact ⟨k + 1, s, il, ol, hl, h8, by go_num, by have := KK.out; rw [C2.out] at this; exact this, KH.out, hok, hln, by omega⟩
            case measure => simp [intOf]; omega
          · rw [c1]
            obtain ⟨⟨ai, ci, hai, hown⟩, -⟩ := K7.rows
            subst hai
            have hn2 : il.length + 1 ≤ 1099511627776 := by omega
            have C2 := Lib.hid c2
            have hbase := K7.bel.size
            have hl7 := B7.lt
            clear K7 B7 c2 hp7 c1
            go_wp2_with ((at_builtin; refine ap_new w7 #[.int .i64 z.p.flow, .int .i64 z.p.len, .int .i64 k] EP rfl _ _ rfl w.heap.size _ il.length _ rfl hown hbase 1 rfl rfl (onePk ⟨z.p.flow, z.p.len, k⟩) hn2 ?_; intro v' w8 hown8 hg8 hb8 hfr8))
            have K8 := KM.in_ (p := ⟨z.p.flow, z.p.len, k⟩) KK.out hown8 hg8 hfr8
            go_roundw
            case rel => exact ⟨k + 1, _, _, ol, hl, h8, by go_num, K8, C2.out, hok2, by omega, by simp; omega⟩
            case measure => simp [intOf]; omega
        · have hd : decide (0 < M) = false := decide_eq_false hM
          have hok2 := SfS.serve_ok hok
          have hl2 := serve_length s
          have hsv := KH.out.served
          have hpo := served_ok hok
          go_wp2_with fail
          refine (serveS_any b s F W6 e2 hok (by omega)).mono ?_
          unfold Pk.val
          rintro e w7 ⟨rfl, hp7⟩
          have K7 := KM.post hB6 h3 e4 e5 h6 h7 hp7
          have hb8 := below1 w7 (.cells #[.int .i64 s.head.flow, .int .i64 s.head.len, .int .i64 s.head.mark] 34)
          have K8 := K7.below hb8
          have B8 := Blk.new w7 [.int .i64 s.head.flow, .int .i64 s.head.len, .int .i64 s.head.mark] 34
          have y0 := B8.cell 0
          have y1 := B8.cell 1
          have y2 := B8.cell 2
          simp only [List.getElem?_cons_succ, List.getElem?_cons_zero] at y0 y1 y2
          have KK := Lib.hid K8
          have hl8 := B8.lt
          clear K7 hb8 B8 hp7
          rcases hsv with ⟨c1, -, c2⟩ | ⟨c1, c2, -⟩
          · rw [c1]
            have C2 := Lib.hid c2
            clear c2 K8
            go_wp2
            go_roundw
            case rel => exact ⟨k + 1, _, il, ol, hl, h8, by go_num, KK.out, C2.out, hok2, by omega, by omega⟩
            case measure => simp [intOf]; omega
          · rw [c1]
            obtain ⟨-, ⟨ao', co, hao, hown⟩⟩ := K8.rows
            subst hao
            have hn2 : ol.length + 1 ≤ 1099511627776 := by omega
            have C2 := Lib.hid c2
            have hbase := K8.bel.size
            clear K8 c2 c1
            go_upto_region 15 with fail
            generalize hp9 : s.head = p9 at *
            have HP9 := Lib.hid hp9
            generalize hw8 : (w7.alloc (.cells #[.int .i64 p9.flow, .int .i64 p9.len, .int .i64 p9.mark] 34)) = W8 at *
            clear hw8 hp9
            go_wp2_with ((at_builtin; refine ap_new W8 #[.int .i64 p9.flow, .int .i64 p9.len, .int .i64 p9.mark] EP rfl _ _ rfl w.heap.size _ ol.length _ rfl hown hbase 1 rfl rfl (onePk p9) hn2 ?_; intro v' w9 hown9 hg9 hb9 hfr9))
            have K9 := KM.out (p := p9) KK.out hown9 hg9 hfr9
            go_roundw
            case rel => exact ⟨k + 1, _, il, _, hl, h8, by go_num, K9, C2.out, hok2, by omega, by omega⟩
            case measure => simp [intOf]; omega
      · have i3 : (n : Int) ≤ (k : Int) ∨ (k : Int) < (n : Int) ∧ 60 ≤ (k : Int) := by omega
        rcases i3 with i1 | ⟨i1, i2⟩
        all_goals
          go_wp2
          go_meet
          exact ⟨s, il, ol, K, hkp, hok, hln, by omega⟩
  case rest =>
    obtain ⟨s, il, ol, K, hkp, hok, hln, hil⟩ := hcut
    have ht0 : totF s.fs ≤ 60 := by have := hkp.cnt; omega
    clear K0
    have KH := Lib.hid hkp
    clear hkp
    go_wp2_with fail
    go_loopw [6, 11, 12, 13] (fun v6 v11 _ _ wr => ∃ (j : Nat) (s : SfS) (ol : List Pk), j ≤ 60 ∧ v11 = .int .i64 j ∧ KM w wr b s u5 il v6 ol ∧ Kept10 s il ol ∧ s.Ok ∧ s.fs.length ≤ 4 ∧ totF s.fs ≤ 60 - j) (fun _ v11 _ _ _ => (60 - intOf v11).toNat)
    case atStart => exact ⟨0, s, ol, Nat.zero_le _, rfl, K, KH.out, hok, hln, ht0⟩
    case round =>
      obtain ⟨j, s, ol, hj, rfl, K, hkp, hok, hln, ht⟩ := hrel
      by_cases hj6 : j < 60
      · have i1 : (j : Int) < 60 := by omega
        have hok2 := SfS.serve_ok hok
        have hl2 := serve_length s
        have hsv := hkp.served
        have hcl : ol.length ≤ il.length := by have := hkp.cnt; omega
        clear hkp KH
        go_wp2_with fail
        refine (kmServe K hok (by omega)).mono ?_
        unfold Pk.val
        rintro e w7 ⟨rfl, K7⟩
        have hb8 := below1 w7 (.cells #[.int .i64 s.head.flow, .int .i64 s.head.len, .int .i64 s.head.mark] 34)
        have K8 := K7.below hb8
        have B8 := Blk.new w7 [.int .i64 s.head.flow, .int .i64 s.head.len, .int .i64 s.head.mark] 34
        have y0 := B8.cell 0
        have y1 := B8.cell 1
        have y2 := B8.cell 2
        simp only [List.getElem?_cons_succ, List.getElem?_cons_zero] at y0 y1 y2
        have KK := Lib.hid K8
        have hl8 := B8.lt
        clear K7 hb8 B8
        rcases hsv with ⟨c1, c3, c2⟩ | ⟨c1, c2, c3⟩
        · rw [c1]
          have C2 := Lib.hid c2
          have hs0 : totF s.serve.fs ≤ 60 - (j + 1) := by have h1 := c2.cnt; have h2 := KK.out; have h3 : s.serve.fs = s.fs := (serve_none_fs c1); rw [h3]; omega
          clear c2 K8
          go_wp2
          go_roundw
          case rel => exact ⟨j + 1, _, ol, by omega, by go_num, KK.out, C2.out, hok2, by omega, hs0⟩
          case measure => simp [intOf]; omega
        · rw [c1]
          obtain ⟨-, ⟨ao', co, hao, hown⟩⟩ := K8.rows
          subst hao
          have hn2 : ol.length + 1 ≤ 1099511627776 := by omega
          have C2 := Lib.hid c2
          have hbase := K8.bel.size
          clear K8 c2 c1
          go_upto_region 21 with fail
          generalize hp9 : s.head = p9 at *
          have HP9 := Lib.hid hp9
          generalize hw8 : (w7.alloc (.cells #[.int .i64 p9.flow, .int .i64 p9.len, .int .i64 p9.mark] 34)) = W8 at *
          clear hw8 hp9
          go_wp2_with ((at_builtin; refine ap_new W8 #[.int .i64 p9.flow, .int .i64 p9.len, .int .i64 p9.mark] EP rfl _ _ rfl w.heap.size _ ol.length _ rfl hown hbase 1 rfl rfl (onePk p9) hn2 ?_; intro v' w9 hown9 hg9 hb9 hfr9))
          have K9 := KM.out (p := p9) KK.out hown9 hg9 hfr9
          go_roundw
          case rel => exact ⟨j + 1, _, _, by omega, by go_num, K9, C2.out, hok2, by omega, by omega⟩
          case measure => simp [intOf]; omega
      · obtain rfl : j = 60 := by omega
        obtain ⟨hlen, hst, hinf⟩ := hkp.done (by omega)
        obtain ⟨⟨ai, ci, rfl, hoi⟩, ⟨ao', co, rfl, hoo⟩⟩ := K.rows
        have HK := Lib.hid K
        obtain ⟨N, hN⟩ : ∃ N, il.length = N := ⟨_, rfl⟩
        have hN2 : ol.length = N := by omega
        have hN60 : N ≤ 60 := by omega
        rw [hN] at hoi ⊢
        rw [hN2] at hoo ⊢
        have L1 := Lib.hid hN
        have L2 := Lib.hid hN2
        have HI := Lib.hid hinf
        clear hlen hinf hN hN2 KH hkp K hil
        go_wp2_with fail
        refine (kmStarts HK.out (by omega)).mono ?_
        rw [hst]
        rintro e w6 ⟨x, rfl, hrow, hb6⟩
        obtain ⟨xa, xc, rfl⟩ := owns_slice hrow
        have hri := (owns_rdS hoi (pks_one _)).below hb6
        have hro := (owns_rdS hoo (pks_one _)).below hb6
        have hbw := HK.out.bel.trans (hb6.mono HK.out.bel.size)
        have HBW := Lib.hid hbw
        clear hrow hb6 hoi hoo hbw hst
        go_wp2_with fail
        go_loopw [14, 15, 16, 17] (fun v14 _ _ _ wr => ∃ f : Nat, f ≤ 4 ∧ v14 = .int .i64 f ∧ Below w6.heap.size w6 wr) (fun v14 _ _ _ _ => (4 - intOf v14).toNat)
        case atStart => exact ⟨0, Nat.zero_le _, rfl, Below.refl _ _⟩
        case round =>
          obtain ⟨f, hf, rfl, hbr⟩ := hrel
          by_cases hf4 : f < 4
          · have i1 : (f : Int) < 4 := by omega
            have A0 : AB w6 _ (.slice none 0 0) [] (.slice none 0 0) [] := ⟨hbr, World.ownsRow_nil _ _ _ _, World.ownsRow_nil _ _ _ _, fun k hk => by cases hk⟩
            go_wp2_with fail
            go_loopw [15, 16, 17] (fun v15 v16 v17 wr => ∃ i : Nat, i ≤ N ∧ v17 = .int .i64 i ∧ AB w6 wr v15 (inF (il.take i) f) v16 (inF (ol.take i) f)) (fun _ _ v17 _ => N - (intOf v17).toNat)
            case atStart => exact ⟨0, Nat.zero_le _, rfl, by simpa [inF] using A0⟩
            case round =>
              obtain ⟨i, hi, rfl, A⟩ := hrel
              clear A0 hbr
              by_cases hiN : i < N
              · have j1 : (i : Int) < (N : Int) := by omega
                obtain ⟨b0, o0, rfl, hlt0, hc0⟩ := rds_pk hri L1.out hiN
                obtain ⟨b1, o1, rfl, hlt1, hc1⟩ := rds_pk hro L2.out hiN
                obtain ⟨p0, p1, p2⟩ := hc0 _ A.bel
                have E0 := Lib.hid (take_inF il f (k := i) (by rw [L1.out]; exact hiN))
                have E1 := Lib.hid (take_inF ol f (k := i) (by rw [L2.out]; exact hiN))
                have hla : (inF (il.take i) f).length ≤ i := Nat.le_trans (List.length_filter_le _ _) (by rw [List.length_take]; exact Nat.min_le_left _ _)
                have hlb : (inF (ol.take i) f).length ≤ i := Nat.le_trans (List.length_filter_le _ _) (by rw [List.length_take]; exact Nat.min_le_left _ _)
                have HC1 := Lib.hid hc1
                clear hc0 hc1
                generalize nthP il i = pi at *
                generalize nthP ol i = po at *
                generalize hla' : inF (il.take i) f = la at *
                generalize hlb' : inF (ol.take i) f = lb at *
                generalize hla2 : inF (il.take (i + 1)) f = la2 at *
                generalize hlb2 : inF (ol.take (i + 1)) f = lb2 at *
                have HA := Lib.hid hla2
                have HB := Lib.hid hlb2
                clear hla' hlb' hla2 hlb2
                have hbl := A.bel.size
                have hna : la.length + 1 ≤ 1099511627776 := by omega
                have hnb : lb.length + 1 ≤ 1099511627776 := by omega
                go_upto_if 113 with fail
                generalize hX : (pi.flow == (f : Int)) = X at *
                go_cut [15] from 114 to 120 (fun v15 wx => AB w6 wx v15 la2 u16 lb)
                case first =>
                  cases X with
                  | true =>
                    have e0 : la2 = la ++ [pi] := by rw [E0.out, if_pos (by simpa using hX)]
                    have G0 := Lib.hid e0
                    have hown := A.a
                    have HAA := Lib.hid A
                    clear e0 hX A
                    go_wp2_with ((at_builtin; refine ap_new wr #[.int .i64 pi.flow, .int .i64 pi.len, .int .i64 pi.mark] EP rfl _ _ rfl w6.heap.size _ la.length _ rfl hown hbl 1 rfl rfl (onePk pi) hna ?_; intro v' w9 hown9 hg9 hb9 hfr9))
                    go_meet
                    rw [G0.out]
                    exact HAA.out.toA hown9 hg9 hfr9
                  | false =>
                    have e0 : la2 = la := by rw [E0.out, if_neg (by simpa using hX), List.append_nil]
                    have G0 := Lib.hid e0
                    have HAA := Lib.hid A
                    clear e0 hX A
                    go_wp2
                    go_meet
                    rw [G0.out]
                    exact HAA.out
                case rest =>
                clear A p0 p1 p2 hX
                obtain ⟨q0, q1, q2⟩ := HC1.out _ hcut.bel
                have hbl2 := hcut.bel.size
                go_upto_if 127 with fail
                generalize hX : (po.flow == (f : Int)) = X at *
                clear hri hro
                cases X with
                | true =>
                  have e0 : lb2 = lb ++ [po] := by rw [E1.out, if_pos (by simpa using hX)]
                  have G0 := Lib.hid e0
                  have hown := hcut.b
                  have HAA := Lib.hid hcut
                  clear e0 hX hcut
                  go_wp2_with ((at_builtin; refine ap_new wc #[.int .i64 po.flow, .int .i64 po.len, .int .i64 po.mark] EP rfl _ _ rfl w6.heap.size _ lb.length _ rfl hown hbl2 1 rfl rfl (onePk po) hnb ?_; intro v' w9 hown9 hg9 hb9 hfr9))
                  have A9 := HAA.out.toB hown9 hg9 hfr9
                  go_roundw
                  case rel => exact ⟨i + 1, by omega, by go_num, by rw [HA.out, HB.out, G0.out]; exact A9⟩
                  case measure => simp [intOf]; omega
                | false =>
                  have e0 : lb2 = lb := by rw [E1.out, if_neg (by simpa using hX), List.append_nil]
                  have G0 := Lib.hid e0
                  have HAA := Lib.hid hcut
                  clear e0 hX hcut
                  go_wp2
                  go_roundw
                  case rel => exact ⟨i + 1, by omega, by go_num, by rw [HA.out, HB.out, G0.out]; exact HAA.out⟩
                  case measure => simp [intOf]; omega
              · obtain rfl : i = N := by omega
                rw [List.take_of_length_le (by rw [L1.out]; exact Nat.le_refl _), List.take_of_length_le (by rw [L2.out]; exact Nat.le_refl _), HI.out f hf4] at A
                obtain ⟨a5, c5, rfl⟩ := owns_slice A.a
                obtain ⟨a6, c6, rfl⟩ := owns_slice A.b
                have hr0 := owns_rdS A.a (pks_one _)
                have hr1 := owns_rdS A.b (pks_one _)
                have hbl := Lib.hid A.bel
                clear A hri hro
                go_wp2_with fail
                refine (plainP_any _ _ _ _ _ _ _ hr0 hr1 rfl).mono ?_
                rintro e w9 ⟨rfl, hb9⟩
                have hbl9 := Lib.hid (hbl.out.trans (hb9.mono hbl.out.size))
                clear hb9 hr0 hr1
                go_wp2
                go_roundw
                case rel => exact ⟨f + 1, by omega, by go_num, hbl9.out⟩
                case measure => simp [intOf]; omega
          · obtain rfl : f = 4 := by omega
            go_wp2
            go_ret
            exact ⟨rfl, HBW.out.trans (hbr.mono HBW.out.size)⟩

theorem SfqKept_any (w : World) (ao : Option Addr) (n cap : Nat) (L : List (List Value)) (w2 : IsRows w [.int .i64, .int .i64, .int .i64, .int .u64, .int .i64, .int .i64, .int .i64] ao n cap L) :
    Calls Try.prog 6 #[.slice ao n cap] w fun e w' => e = .returned (.bool true) ∧ Below w.heap.size w w' := by
  obtain ⟨l, h⟩ := isRows_rdT w2
  exact kept_in ao n cap l w h
end Go.Proofs.Ytnanalaienlbpaa
