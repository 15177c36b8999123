/- Several texts in one: LinT0 LinT RetM LinT1 RefT. -/
import Derived.Test.YtdjooacjjnjfmaaGreatGw
import Derived.Test.YtdjooacjjnjfmaaGreatGx
import Derived.Test.YtdjooacjjnjfmaaGreatGv
import Derived.Test.YtdjooacjjnjfmaaGreatGn
import Derived.Test.YtdjooacjjnjfmaaGreatGi
import Derived.Test.YtdjooacjjnjfmaaGreatGm
import Derived.Test.YtdjooacjjnjfmaaGreatGr
-- Whether an order fits, step by step: plain.
section
namespace Go.Proofs.YtdjooacjjnjfmaaGreatLin
set_option linter.unusedVariables false
set_option linter.unusedSimpArgs false
open Go.Proofs.YtdjooacjjnjfmaaGreatMem
def nthN (q : List Nat) (i : Nat) : Nat := q.getD i 0
theorem nthN_eq {q : List Nat} {i : Nat} (h : i < q.length) : nthN q i = q[i] := by simp [nthN, h]
theorem nth_toI (q : List Nat) (i : Nat) : nth (toI q) i = (nthN q i : Nat) := by
  unfold nth nthN toI
  rw [List.getD_eq_getElem?_getD, List.getD_eq_getElem?_getD, List.getElem?_map]
  cases q[i]? <;> rfl
theorem take_nthN (q : List Nat) {i : Nat} (h : i < q.length) : q.take (i + 1) = q.take i ++ [nthN q i] := by
  rw [List.take_add_one, nthN_eq h]; simp [h]
section
variable {S : Type} {n : Nat} {bef : Nat → Nat → Bool} {step : S → Nat → Option S}
theorem pairO_iff : ∀ {q : List Nat}, pairO bef (toI q) = true ↔ ∀ i j, i < j → j < q.length → bef (nthN q j) (nthN q i) = false
  | [] => by simp [pairO, toI]
  | k :: q => by
    have ih := pairO_iff (q := q)
    have e : pairO bef (toI (k :: q)) = (((toI q).all fun z => !bef z.toNat k) && pairO bef (toI q)) := rfl
    rw [e, Bool.and_eq_true, ih, List.all_eq_true]
    constructor
    · rintro ⟨h1, h2⟩ i j hij hj
      cases i with
      | zero =>
        obtain ⟨j', rfl⟩ : ∃ j', j = j' + 1 := ⟨j - 1, by omega⟩
        have hj' : j' < q.length := by simpa using hj
        have := h1 ((q[j'] : Nat) : Int) (by unfold toI; exact List.mem_map.2 ⟨_, List.getElem_mem hj', rfl⟩)
        have e2 : nthN (k :: q) (j' + 1) = q[j'] := by simp [nthN, hj']
        rw [e2]
        simpa [nthN] using this
      | succ i =>
        obtain ⟨j', rfl⟩ : ∃ j', j = j' + 1 := ⟨j - 1, by omega⟩
        have hj' : j' < q.length := by simpa using hj
        have := h2 i j' (by omega) hj'
        simpa [nthN] using this
    · intro h
      refine ⟨fun z hz => ?_, fun i j hij hj => ?_⟩
      · unfold toI at hz
        obtain ⟨k', hk', rfl⟩ := List.mem_map.1 hz
        obtain ⟨j, hj, rfl⟩ := List.mem_iff_getElem.1 hk'
        have := h 0 (j + 1) (by omega) (by simpa using hj)
        have e2 : nthN (k :: q) (j + 1) = q[j] := by simp [nthN, hj]
        rw [e2] at this
        have e3 : nthN (k :: q) 0 = k := rfl
        rw [e3] at this
        simp [this]
      · have := h (i + 1) (j + 1) (by omega) (by simpa using hj)
        simpa [nthN] using this
theorem runS_append (m : S) : ∀ (a b : List Nat), runS step m (a ++ b) = (runS step m a).bind fun m' => runS step m' b := by
  intro a
  induction a generalizing m with
  | nil => intro b; rfl
  | cons k a ih =>
    intro b
    show ((step m k).bind fun m' => runS step m' (a ++ b)) = ((step m k).bind fun m' => runS step m' a).bind _
    cases step m k with
    | none => rfl
    | some m' => exact ih m' b
theorem runS_snoc {m mi : S} {q : List Nat} {i : Nat} (h : i < q.length) (hr : runS step m (q.take i) = some mi) : runS step m (q.take (i + 1)) = step mi (nthN q i) := by
  rw [take_nthN q h, runS_append, hr]
  show (step mi (nthN q i)).bind (fun m' => some m') = _
  cases step mi (nthN q i) <;> rfl
theorem fit_false_pair {m : S} {q : List Nat} {i j : Nat} (hij : i < j) (hj : j < q.length) (h : bef (nthN q j) (nthN q i) = true) : fitO n bef step m (toI q) = false := by
  have : pairO bef (toI q) = false := by
    rw [← Bool.not_eq_true, pairO_iff]
    intro h2
    rw [h2 i j hij hj] at h; cases h
  unfold fitO
  rw [this]; simp
theorem fit_false_run {m mi : S} {q : List Nat} {i : Nat} (hi : i < q.length) (hr : runS step m (q.take i) = some mi) (h : step mi (nthN q i) = none) : fitO n bef step m (toI q) = false := by
  have h1 := runS_snoc hi hr
  rw [h] at h1
  have : runS step m q = none := by
    rw [← List.take_append_drop (i + 1) q, runS_append, h1]; rfl
  unfold fitO
  rw [toI_toNat, this]; simp
theorem fit_true {m mi : S} {q : List Nat} (ha : allIn n (toI q) = true) (hp : ∀ i j, i < j → j < q.length → bef (nthN q j) (nthN q i) = false) (hr : runS step m q = some mi) : fitO n bef step m (toI q) = true := by
  unfold fitO
  rw [ha, toI_toNat, hr, pairO_iff.2 hp]; rfl
theorem fit_false_in {m : S} {o : List Int} (ha : allIn n o = false) : fitO n bef step m o = false := by unfold fitO; rw [ha]; rfl
theorem allIn_toI {o : List Int} (ha : allIn n o = true) : ∃ q : List Nat, o = toI q ∧ q.length = n ∧ ∀ i, i < n → nthN q i < n := by
  obtain ⟨h1, h2, h3⟩ := allIn_iff.1 ha
  refine ⟨o.map Int.toNat, (toNat_toI fun z hz => (h2 z hz).1).symm, by simpa using h1, fun i hi => ?_⟩
  rw [nthN_eq (by simpa [h1] using hi)]
  have := h2 (o[i]'(by rw [h1]; exact hi)) (List.getElem_mem _)
  simp only [List.getElem_map]
  omega
end
end Go.Proofs.YtdjooacjjnjfmaaGreatLin
end

-- lin.Fits: whether an order explains calls.
section
namespace Go.Proofs.YtdjooacjjnjfmaaGreat
set_option linter.unusedVariables false
set_option linter.unusedSimpArgs false
set_option maxRecDepth 20000
open Go.RowKit Go.Proofs.YtdjooacjjnjfmaaGreatMem Go.Proofs.YtdjooacjjnjfmaaGreatMapK Go.Proofs.YtdjooacjjnjfmaaGreatLin H

theorem stepD_eq (c : Cfg) (l : List DoneS) (m : MdS) (k : Nat) : stepD c l m k = if retB (m.doo c (callD (nthD l k))).2 (nthD l k) = true then some (m.doo c (callD (nthD l k))).1 else none := rfl
theorem mayB_right {c : Cfg} {l : List DoneS} (h : mayB c l = true) : c.right = true := by unfold mayB at h; simp only [Bool.and_eq_true] at h; exact h.1
set_option maxHeartbeats 8000000 in
theorem linFits_any (c : Cfg) (hu : W64 c.unit) (ao : Option Addr) (n cap : Nat) (l : List DoneS) (oo : Option Addr) (on ocap : Nat) (o : List Int) (w : World) (h : RdD w ao n cap l) (hp : ParOk n l) (ho : RdI w oo on ocap o) (hob : on * 8 ≤ 140737488355328) :
    Calls Tryz.prog 15 #[.agg #[.int .i64 c.shards, .int .i64 c.slots, .int .i64 c.workers, .int .i64 c.width, .int .u64 c.unit], .slice ao n cap, .slice oo on ocap] w fun e w' => e = .returned (.bool (fitsB c l o)) ∧ Below w.heap.size w w' := by
  have B := Blk.new w c.cells 24
  have hb := below1 w (.cells #[.int .i64 c.shards, .int .i64 c.slots, .int .i64 c.workers, .int .i64 c.width, .int .u64 c.unit] 24)
  have HB := Lib.hid hb
  have HRD := Lib.hid (fun w' (hb : Below w.heap.size w w') => h.below hb)
  have HOD := Lib.hid (fun w' (hb : Below w.heap.size w w') => RdI.below (B := 0) ho hb)
  have HBX : Hid (Blk (w.alloc (.cells #[.int .i64 c.shards, .int .i64 c.slots, .int .i64 c.workers, .int .i64 c.width, .int .u64 c.unit] 24)) w.heap.size c.cells 24) := Lib.hid B
  have CP := fun w' (hb : Below w.heap.size w w') => H.histParts_any ao n cap l w' (HRD.out w' hb) hp.1 hp.big
  have CM := fun w' (hb : Below w.heap.size w w') => linMay_any c ao n cap l w' (HRD.out w' hb)
  have CW := fun (m : Nat) w' (hb : Below w.heap.size w w') => whole_any oo on ocap o m w' (HOD.out w' hb) hob
  have CN := new11_any c
  have HF : Hid (fitsB c l o = (mayB c l && fitO (partsD l).length (befB (partsD l)) (stepD c (partsD l)) .new o)) := Lib.hid rfl
  have HMB : Hid (mayB c l = true → c.right = true) := Lib.hid mayB_right
  have hpl : (partsD l).length ≤ 101000 := by
    have h1 := H.partsD_length (m := 100) l fun d hd => by have h1 := hp.2 d hd; have h2 := (h.ok d hd).2.len; omega
    have h2 := h.len
    have h3 := hp.1
    have h4 : l.length * 101 ≤ 1000 * 101 := Nat.mul_le_mul (by omega) (Nat.le_refl _)
    omega
  have hol := ho.len
  clear B hb h hp ho
  generalize fitsB c l o = FB at *
  generalize mayB c l = MB at *
  generalize hPD : partsD l = PD at *
  go_enter Tryz.func15, Tryz.ntmps15
  go_upto_region 1 with fail
  generalize (w.alloc (.cells #[.int .i64 c.shards, .int .i64 c.slots, .int .i64 c.workers, .int .i64 c.width, .int .u64 c.unit] 24)) = W at *
  go_wp2_with fail
  refine (CP _ HB.out).mono ?_
  rintro e w1 ⟨v, l', rfl, hmap, hown, hb1⟩
  obtain ⟨pa, pc, rfl⟩ := hown.slice
  have HB1 := Lib.hid (HB.out.trans (hb1.mono HB.out.size))
  have HBX1 := Lib.hid (HBX.out.below hb1)
  have HOWN := Lib.hid hown.rd
  obtain ⟨q1, q2, q3, -⟩ := parts_bare (c := c) hmap
  rw [← q1] at hpl
  have HF2 : Hid (FB = (MB && fitO l'.length (befB l') (stepD c l') .new o)) := Lib.hid (by rw [HF.out, q1, q2, q3])
  clear q1 q2 q3 hmap hown hb1 hPD HF
  generalize hLN : l'.length = N at *
  have a0 : w1.cell? ⟨w.heap.size, 0, none⟩ = some (.int .i64 c.shards) := HBX1.out.cell 0
  have a1 : w1.cell? ⟨w.heap.size, 1, none⟩ = some (.int .i64 c.slots) := HBX1.out.cell 1
  have a2 : w1.cell? ⟨w.heap.size, 2, none⟩ = some (.int .i64 c.workers) := HBX1.out.cell 2
  have a3 : w1.cell? ⟨w.heap.size, 3, none⟩ = some (.int .i64 c.width) := HBX1.out.cell 3
  have a4 : w1.cell? ⟨w.heap.size, 4, none⟩ = some (.int .u64 c.unit) := HBX1.out.cell 4
  have al := HBX1.out.lt
  clear hLN
  go_wp2_with fail
  refine (CM _ HB1.out).mono ?_
  rintro e w2 ⟨rfl, hb2⟩
  have HB2 := Lib.hid (HB1.out.trans (hb2.mono HB1.out.size))
  have HBX2 := Lib.hid (HBX1.out.below hb2)
  have HOWN2 := Lib.hid (HOWN.out.below hb2)
  clear hb2 a0 a1 a2 a3 a4 al
  cases MB with
  | false =>
    have E : Hid (FB = false) := Lib.hid (by rw [HF2.out]; rfl)
    go_wp2
    go_ret
    exact ⟨by rw [E.out]; rfl, HB2.out⟩
  | true =>
    go_wp2_with fail
    refine (CW N _ HB2.out).mono ?_
    rintro e w3 ⟨rfl, hb3⟩
    have HB3 := Lib.hid (HB2.out.trans (hb3.mono HB2.out.size))
    have HBX3 := Lib.hid (HBX2.out.below hb3)
    have HOWN3 := Lib.hid (HOWN2.out.below hb3)
    clear hb3
    cases hall : allIn N o with
    | false =>
      have E : Hid (FB = false) := Lib.hid (by rw [HF2.out, fit_false_in hall]; rfl)
      clear hall
      go_wp2
      go_ret
      exact ⟨by rw [E.out]; rfl, HB3.out⟩
    | true =>
      obtain ⟨q, hoq, hql, hqb⟩ := allIn_toI hall
      subst hoq
      have E : Hid (FB = fitO N (befB l') (stepD c l') .new (toI q)) := Lib.hid (by rw [HF2.out]; rfl)
      have hon : on = N := by rw [← hol, ← hql]; simp [toI]
      subst hon
      have hrt := HMB.out (by first | rfl | trivial)
      obtain ⟨hcOk, -, -⟩ := right_cfg hu hrt
      have HALL := Lib.hid hall
      have HQL := Lib.hid hql
      have HQB := Lib.hid hqb
      have a0 : w3.cell? ⟨w.heap.size, 0, none⟩ = some (.int .i64 c.shards) := HBX3.out.cell 0
      have a1 : w3.cell? ⟨w.heap.size, 1, none⟩ = some (.int .i64 c.slots) := HBX3.out.cell 1
      have a2 : w3.cell? ⟨w.heap.size, 2, none⟩ = some (.int .i64 c.workers) := HBX3.out.cell 2
      have a3 : w3.cell? ⟨w.heap.size, 3, none⟩ = some (.int .i64 c.width) := HBX3.out.cell 3
      have a4 : w3.cell? ⟨w.heap.size, 4, none⟩ = some (.int .u64 c.unit) := HBX3.out.cell 4
      have al := HBX3.out.lt
      clear hall hql hqb hol
      go_wp2_with fail
      refine (CN _).mono ?_
      rintro e w4 hnew
      unfold NewPost at hnew
      rw [if_pos hrt] at hnew
      obtain ⟨mb, rfl, hmd, hb4⟩ := hnew
      have HO0 : Hid (OwnM w3 w4 mb c .new) := Lib.hid ⟨_, hmd, fun k hk => hk.1, hb4⟩
      clear hmd hb4 a0 a1 a2 a3 a4 al HBX HBX1 HBX2 HBX3 HOWN HOWN2 CP CM CW CN hrt
      have hz3 := HB3.out.size
      go_wp2_with fail
      go_loopw [34] (fun v34 wr => ∃ (i : Nat) (mi : MdS), i ≤ on ∧ v34 = .int .i64 i ∧ runS (stepD c l') .new (q.take i) = some mi ∧ OwnM w3 wr mb c mi ∧ mi.Good i ∧ (∀ a b, a < i → a < b → b < on → befB l' (nthN q b) (nthN q a) = false)) (fun v34 _ => on - (intOf v34).toNat)
      case atStart => exact ⟨0, .new, Nat.zero_le _, rfl, rfl, HO0.out, MdS.Good.new, fun a b ha => absurd ha (Nat.not_lt_zero _)⟩
      case round =>
        obtain ⟨i, mi, hi, rfl, hrun, hom, hgd, hpr⟩ := hrel
        have HRUN := Lib.hid hrun
        have HOM := Lib.hid hom
        have HGD := Lib.hid hgd
        have HPR := Lib.hid hpr
        have hbr := hom.bel
        have hB := HB3.out.trans (hbr.mono hz3)
        have HBR := Lib.hid hbr
        have HBW := Lib.hid hB
        clear hrun hom hgd hpr hbr
        by_cases hl : i < on
        · have i1 : (i : Int) < (on : Int) := by omega
          have hilt : i < q.length := by rw [HQL.out]; exact hl
          have hocap : on ≤ ocap := (HOD.out _ HBW.out).le
          have hosm : on ≤ 9223372036854775807 := (HOD.out _ HBW.out).small
          obtain ⟨ob, ooff, rfl, hobl, hoc⟩ := (HOD.out _ HBW.out).at_ i hl
          rw [nth_toI] at hoc
          have hkb := HQB.out i hl
          have HSN := Lib.hid (runS_snoc hilt HRUN.out)
          have hrd := HOWN3.out.below HBR.out
          obtain ⟨hdok, hdk⟩ := hrd.nth hkb
          obtain ⟨pb, po, rfl, hplt, hpc⟩ := HOWN3.out.cells hkb
          have HPC := Lib.hid hpc
          have HDOK := Lib.hid hdok
          have HSTEP := Lib.hid (stepD_eq c l' mi (nthN q i))
          clear hrd hpc hdok hdk hB
          generalize hkk : nthN q i = k at *
          have HKK := Lib.hid hkk
          clear hkk
          have iw : IntKind.i64.wrap ((i : Int) + 1) = (i : Int) + 1 := by rw [IntWalk.i64_left, IntWalk.wrap64_in _ (by omega)]
          go_upto_region 8 with fail
          go_cut [42, 43, 44] from 39 to 44 (fun s42 s43 s44 wx => ∃ X CAP, s42 = .slice X (on - (i + 1)) CAP ∧ s43 = .int .i64 ((on - (i + 1) : Nat) : Int) ∧ s44 = .int .i64 0 ∧ wx = wr ∧ (i + 1 < on → X = some ⟨ob, ooff + (i + 1), none⟩))
          case first =>
            by_cases hcap : ocap = i + 1
            · have hlast : on = i + 1 := by omega
              subst hcap
              subst hlast
              go_wp2
              go_meet
              exact ⟨some ⟨ob, ooff, none⟩, 0, by simp, by simp, rfl, rfl, fun h => by omega⟩
            · have hcl : (i : Int) + 1 < (ocap : Int) := by omega
              go_wp2
              go_meet
              exact ⟨_, _, rfl, rfl, rfl, rfl, fun _ => rfl⟩
          case rest =>
            obtain ⟨X, CAP, rfl, rfl, rfl, rfl, hX⟩ := hcut
            generalize hRL : on - (i + 1) = RL at *
            have HX := Lib.hid hX
            clear hX hoc iw
            generalize wc = w5 at *
            go_wp2_with fail
            go_loopw [44] (fun v44 wx => ∃ j : Nat, j ≤ RL ∧ v44 = .int .i64 j ∧ OwnM w3 wx mb c mi ∧ (∀ b, i < b → b < i + 1 + j → befB l' (nthN q b) k = false)) (fun v44 _ => RL - (intOf v44).toNat)
            case atStart => exact ⟨0, Nat.zero_le _, rfl, HOM.out, fun b h1 h2 => by omega⟩
            case round =>
              obtain ⟨j, hj, rfl, hom, hpj⟩ := hrel
              have HOMJ := Lib.hid hom
              have HPJ := Lib.hid hpj
              clear hom hpj
              have hbj := HOMJ.out.bel
              have HBJ := Lib.hid hbj
              have hBj := HB3.out.trans (hbj.mono hz3)
              have HBJW := Lib.hid hBj
              clear hbj hBj
              by_cases hjl : j < RL
              · have j1 : (j : Int) < (RL : Int) := by omega
                have hX2 := HX.out (by omega)
                subst hX2
                have hbi : i + 1 + j < on := by omega
                obtain ⟨ob', ooff', e', -, hoc⟩ := (HOD.out _ HBJW.out).at_ (i + 1 + j) hbi
                simp only [Option.some.injEq, Addr.mk.injEq, and_true] at e'
                obtain ⟨rfl, rfl⟩ := e'
                rw [nth_toI] at hoc
                have hoc1 := hoc
                have hoc2 := hoc
                rw [show ooff + (i + 1 + j) = ooff + (i + 1) + j by omega] at hoc1
                rw [show ooff + (i + 1 + j) = ooff + i + 1 + j by omega] at hoc2
                have hkb2 := HQB.out (i + 1 + j) hbi
                have CB := behind_any (some ⟨pb, po, none⟩) on pc l' (nthN q (i + 1 + j)) k hkb2 hkb wr (HOWN3.out.below HBJ.out)
                have HIJ : Hid (befB l' (nthN q (i + 1 + j)) k = true → FB = false) := Lib.hid fun hh => by rw [E.out]; exact fit_false_pair (i := i) (j := i + 1 + j) (by omega) (by rw [HQL.out]; exact hbi) (by rw [HKK.out]; exact hh)
                generalize hbb : befB l' (nthN q (i + 1 + j)) k = BB at *
                have HBB := Lib.hid hbb
                clear hbb
                generalize hk2 : nthN q (i + 1 + j) = k2 at *
                have HK2 := Lib.hid hk2
                clear hk2
                go_wp2_with fail
                refine CB.mono ?_
                rintro e w6 ⟨rfl, hb6⟩
                have HOM6 := Lib.hid (HOMJ.out.below hb6)
                clear hb6 CB hoc hoc1 hoc2
                cases BB with
                | true =>
                  have E2 := Lib.hid (HIJ.out rfl)
                  go_wp2
                  go_ret
                  exact ⟨by rw [E2.out]; rfl, HB3.out.trans (HOM6.out.bel.mono hz3)⟩
                | false =>
                  go_wp2
                  go_roundw
                  case rel => exact ⟨j + 1, by omega, by go_num, HOM6.out, fun b h1 h2 => by
                    by_cases hbj : b = i + 1 + j
                    · subst hbj; rw [HK2.out]; exact HBB.out
                    · exact HPJ.out b h1 (by omega)⟩
                  case measure => simp [intOf]; omega
              · obtain rfl : j = RL := by omega
                have HSX : Hid (∀ w', Below w3.heap.size w3 w' → w'.cell? ⟨pb, po + k * 12 + 2, none⟩ = some (.int .i64 (nthD l' k).op) ∧ w'.cell? ⟨pb, po + k * 12 + 3, none⟩ = some (.int .i64 (nthD l' k).fl) ∧ w'.cell? ⟨pb, po + k * 12 + 4, none⟩ = some (.int .i64 (nthD l' k).a) ∧ w'.cell? ⟨pb, po + k * 12 + 5, none⟩ = some (.int .i64 (nthD l' k).b) ∧ w'.cell? ⟨pb, po + k * 12 + 6, none⟩ = some (.int .i64 (nthD l' k).e) ∧ w'.cell? ⟨pb, po + k * 12 + 7, none⟩ = some (.slice (nthD l' k).ao (nthD l' k).len (nthD l' k).cap) ∧ w'.cell? ⟨pb, po + k * 12 + 8, none⟩ = some (.int .i64 (nthD l' k).n) ∧ w'.cell? ⟨pb, po + k * 12 + 9, none⟩ = some (.int .u64 (nthD l' k).v)) := Lib.hid fun w' hb => by
                  obtain ⟨-, -, x2, x3, x4, x5, x6, x7, x8, x9, -, -⟩ := RdD.at12 (ao := none) (n := 0) (cap := 0) HPC.out hb
                  exact ⟨x2, x3, x4, x5, x6, x7, x8, x9⟩
                have HDK3 := Lib.hid (HOWN3.out.nth hkb).2
                have HPAIR : Hid (∀ b, i < b → b < on → befB l' (nthN q b) k = false) := Lib.hid fun b h1 h2 => HPJ.out b h1 (by omega)
                clear HPC
                generalize nthD l' k = d at *
                have CDO := doO (HOMJ.out.below (Below.refl _ _).drew) (HGD.out.bat (by omega)) hcOk (callD d) (callD_ok HDOK.out)
                have hcd : callD d = ⟨d.op, d.fl, d.a, d.b⟩ := rfl
                rw [hcd] at CDO
                rw [hcd] at HSTEP
                have HGY : Hid ((mi.doo c ⟨d.op, d.fl, d.a, d.b⟩).1.Good (i + 1)) := Lib.hid (HGD.out.doo hcOk.unit (callD_ok HDOK.out))
                generalize (mi.doo c ⟨d.op, d.fl, d.a, d.b⟩).1 = mx at *
                generalize (mi.doo c ⟨d.op, d.fl, d.a, d.b⟩).2 = rx at *
                have hS0 := HSX.out wr.drew (HBJ.out.trans (Below.refl _ _).drew)
                go_wp2_with fail
                refine wp_region_held_drew (S := (fun w' => w'.cell? ⟨pb, po + k * 12 + 2, none⟩ = some (.int .i64 d.op) ∧ w'.cell? ⟨pb, po + k * 12 + 3, none⟩ = some (.int .i64 d.fl) ∧ w'.cell? ⟨pb, po + k * 12 + 4, none⟩ = some (.int .i64 d.a) ∧ w'.cell? ⟨pb, po + k * 12 + 5, none⟩ = some (.int .i64 d.b) ∧ w'.cell? ⟨pb, po + k * 12 + 6, none⟩ = some (.int .i64 d.e) ∧ w'.cell? ⟨pb, po + k * 12 + 7, none⟩ = some (.slice d.ao d.len d.cap) ∧ w'.cell? ⟨pb, po + k * 12 + 8, none⟩ = some (.int .i64 d.n) ∧ w'.cell? ⟨pb, po + k * 12 + 9, none⟩ = some (.int .u64 d.v))) (by kernel_rfl) ?_ (fun hHeld => ?_)
                · exact hS0
                refine wpAnyH_take (i := 0) (v := ?_) rfl (by kernel_rfl) (by kernel_rfl) (by kernel_rfl) (fun _ _ _ h => h) (Or.inl ⟨by rfl, ?_⟩) (by assumption) ?_
                rotate_left
                · intro w hSw
                  (try dsimp only at hSw)
                  first | (go_simp; done) | (go_simp; with_reducible rfl)
                try simp only [List.getElem_toArray, List.getElem_cons_succ, List.getElem_cons_zero, Act.put, List.setIfInBounds_toArray, List.set_cons_zero, List.set_cons_succ]
                refine wpAnyH_take (i := 1) (v := ?_) rfl (by kernel_rfl) (by kernel_rfl) (by kernel_rfl) (fun _ _ _ h => h) (Or.inl ⟨by rfl, ?_⟩) (by assumption) ?_
                rotate_left
                · intro w hSw
                  (try dsimp only at hSw)
                  first | (go_simp; done) | (go_simp; with_reducible rfl)
                try simp only [List.getElem_toArray, List.getElem_cons_succ, List.getElem_cons_zero, Act.put, List.setIfInBounds_toArray, List.set_cons_zero, List.set_cons_succ]
                refine wpAnyH_take (i := 2) (v := ?_) rfl (by kernel_rfl) (by kernel_rfl) (by kernel_rfl) (fun _ _ _ h => h) (Or.inl ⟨by rfl, ?_⟩) (by assumption) ?_
                rotate_left
                · intro w hSw
                  (try dsimp only at hSw)
                  first | (go_simp; done) | (go_simp; with_reducible rfl)
                try simp only [List.getElem_toArray, List.getElem_cons_succ, List.getElem_cons_zero, Act.put, List.setIfInBounds_toArray, List.set_cons_zero, List.set_cons_succ]
                refine wpAnyH_take (i := 3) (v := ?_) rfl (by kernel_rfl) (by kernel_rfl) (by kernel_rfl) (fun _ _ _ h => h) (Or.inl ⟨by rfl, ?_⟩) (by assumption) ?_
                rotate_left
                · intro w hSw
                  (try dsimp only at hSw)
                  first | (go_simp; done) | (go_simp; with_reducible rfl)
                try simp only [List.getElem_toArray, List.getElem_cons_succ, List.getElem_cons_zero, Act.put, List.setIfInBounds_toArray, List.set_cons_zero, List.set_cons_succ]
                refine wpAnyH_take (i := 4) (v := ?_) rfl (by kernel_rfl) (by kernel_rfl) (by kernel_rfl) (fun _ _ _ h => h) (Or.inl ⟨by rfl, ?_⟩) (by assumption) ?_
                rotate_left
                · intro w hSw
                  (try dsimp only at hSw)
                  first | (go_simp; done) | (go_simp; with_reducible rfl)
                try simp only [List.getElem_toArray, List.getElem_cons_succ, List.getElem_cons_zero, Act.put, List.setIfInBounds_toArray, List.set_cons_zero, List.set_cons_succ]
                refine wpAnyH_take (i := 5) (v := ?_) rfl (by kernel_rfl) (by kernel_rfl) (by kernel_rfl) (fun _ _ _ h => h) (Or.inl ⟨by rfl, ?_⟩) (by assumption) ?_
                rotate_left
                · intro w hSw
                  (try dsimp only at hSw)
                  first | (go_simp; done) | (go_simp; with_reducible rfl)
                try simp only [List.getElem_toArray, List.getElem_cons_succ, List.getElem_cons_zero, Act.put, List.setIfInBounds_toArray, List.set_cons_zero, List.set_cons_succ]
                refine wpAnyH_take (i := 7) (v := ?_) rfl (by kernel_rfl) (by kernel_rfl) (by kernel_rfl) (fun _ _ _ h => h) (Or.inl ⟨by rfl, ?_⟩) (by assumption) ?_
                rotate_left
                · intro w hSw
                  (try dsimp only at hSw)
                  first | (go_simp; done) | (go_simp; with_reducible rfl)
                try simp only [List.getElem_toArray, List.getElem_cons_succ, List.getElem_cons_zero, Act.put, List.setIfInBounds_toArray, List.set_cons_zero, List.set_cons_succ]
                refine wpAnyH_take (i := 8) (v := ?_) rfl (by kernel_rfl) (by kernel_rfl) (by kernel_rfl) (fun _ _ _ h => h) (Or.inl ⟨by rfl, ?_⟩) (by assumption) ?_
                rotate_left
                · intro w hSw
                  (try dsimp only at hSw)
                  first | (go_simp; done) | (go_simp; with_reducible rfl)
                try simp only [List.getElem_toArray, List.getElem_cons_succ, List.getElem_cons_zero, Act.put, List.setIfInBounds_toArray, List.set_cons_zero, List.set_cons_succ]
                refine wpAnyH_take (i := 9) (v := ?_) rfl (by kernel_rfl) (by kernel_rfl) (by kernel_rfl) (fun _ _ _ h => h) (Or.inl ⟨by rfl, ?_⟩) (by assumption) ?_
                rotate_left
                · intro w hSw
                  (try dsimp only at hSw)
                  first | (go_simp; done) | (go_simp; with_reducible rfl)
                try simp only [List.getElem_toArray, List.getElem_cons_succ, List.getElem_cons_zero, Act.put, List.setIfInBounds_toArray, List.set_cons_zero, List.set_cons_succ]
                refine wpAnyH_take (i := 10) (v := ?_) rfl (by kernel_rfl) (by kernel_rfl) (by kernel_rfl) (fun _ _ _ h => h) (Or.inl ⟨by rfl, ?_⟩) (by assumption) ?_
                rotate_left
                · intro w hSw
                  (try dsimp only at hSw)
                  first | (go_simp; done) | (go_simp; with_reducible rfl)
                try simp only [List.getElem_toArray, List.getElem_cons_succ, List.getElem_cons_zero, Act.put, List.setIfInBounds_toArray, List.set_cons_zero, List.set_cons_succ]
                refine wpAnyH_take (i := 11) (v := ?_) rfl (by kernel_rfl) (by kernel_rfl) (by kernel_rfl) (fun _ _ _ h => h) (Or.inl ⟨by rfl, ?_⟩) (by assumption) ?_
                rotate_left
                · intro w hSw
                  (try dsimp only at hSw)
                  first | (go_simp; done) | (go_simp; with_reducible rfl)
                try simp only [List.getElem_toArray, List.getElem_cons_succ, List.getElem_cons_zero, Act.put, List.setIfInBounds_toArray, List.set_cons_zero, List.set_cons_succ]
                refine wpAnyH_ready (rs := [6]) (by kernel_rfl) (by simp) ?_
                refine AllReadyH.cons rfl (fun K hK => ?_) AllReadyH.nil
                go_simp
                (go_at_call 38; refine CDO.mono ?_; rintro e w6 ⟨⟨ra, rc, rfl, hrd6⟩, hom6⟩; have hS6 := HSX.out w6 hom6.bel; have hDK6 := RdK.pks (HDK3.out.below hom6.bel); have HRD6 := Lib.hid hrd6; have HOM6 := Lib.hid hom6; clear hrd6 hom6)
                refine hK.out _ _ ?_ (fun hHeld => ?_)
                · first | with_reducible exact hS7 | with_reducible exact hS6
                clear hK K
                try simp only [List.getElem_toArray, List.getElem_cons_succ, List.getElem_cons_zero, Act.put, List.setIfInBounds_toArray, List.set_cons_zero, List.set_cons_succ]
                refine wpAnyH_ready (rs := [12]) (by kernel_rfl) (by simp) ?_
                refine AllReadyH.cons rfl (fun K hK => ?_) AllReadyH.nil
                go_simp
                (go_at_call 37; refine (linSame_any rx.e rx.n rx.v d.e d.n d.v ra d.ao rx.ps.length rc d.len d.cap rx.ps (pkL d.l) _ HRD6.out hDK6.1 rfl hDK6.2).mono ?_; rintro e w7 ⟨rfl, hb7⟩; have HOM7 := Lib.hid (HOM6.out.below hb7); have hS7 := HSX.out w7 HOM7.out.bel; clear hb7)
                refine hK.out _ _ ?_ (fun hHeld => ?_)
                · first | with_reducible exact hS7 | with_reducible exact hS6
                clear hK K
                try simp only [List.getElem_toArray, List.getElem_cons_succ, List.getElem_cons_zero, Act.put, List.setIfInBounds_toArray, List.set_cons_zero, List.set_cons_succ]
                refine wpAnyH_take (i := 13) (v := ?_) rfl (by kernel_rfl) (by kernel_rfl) (by kernel_rfl) (fun _ _ _ h => h) (Or.inl ⟨by rfl, ?_⟩) (by assumption) ?_
                rotate_left
                · intro w hSw
                  (try dsimp only at hSw)
                  first | (go_simp; done) | (go_simp; with_reducible rfl)
                try simp only [List.getElem_toArray, List.getElem_cons_succ, List.getElem_cons_zero, Act.put, List.setIfInBounds_toArray, List.set_cons_zero, List.set_cons_succ]
                refine wpAnyH_done (by kernel_rfl) ?_ _
                generalize hX : retEq rx.e rx.n rx.v d.e d.n d.v rx.ps (pkL d.l) = X at *
                have hXB : retB rx d = X := hX
                rw [hXB] at HSTEP
                clear hX hXB hHeld hS0 hS6 hS7 CDO
                cases X with
                | false =>
                  have E2 : Hid (FB = false) := Lib.hid (by rw [E.out]; exact fit_false_run hilt HRUN.out (by rw [HKK.out, HSTEP.out]; rfl))
                  go_wp2
                  go_ret
                  exact ⟨by rw [E2.out]; rfl, HB3.out.trans (HOM7.out.bel.mono hz3)⟩
                | true =>
                  go_wp2
                  go_roundw
                  case rel => exact ⟨i + 1, mx, by omega, by go_num, by rw [HSN.out, HSTEP.out]; rfl, HOM7.out, HGY.out, fun a b h1 h2 h3 => by
                    by_cases hai : a = i
                    · subst hai; rw [HKK.out]; exact HPAIR.out b h2 h3
                    · exact HPR.out a b (by omega) h2 h3⟩
                  case measure => simp [intOf]; omega
        · obtain rfl : i = on := by omega
          have E2 : Hid (FB = true) := Lib.hid (by
            rw [E.out]
            have hT : q.take i = q := List.take_of_length_le (by rw [HQL.out]; exact Nat.le_refl _)
            have hr := HRUN.out
            rw [hT] at hr
            exact fit_true HALL.out (fun a b h1 h2 => HPR.out a b (by rw [HQL.out] at h2; omega) h1 (by rw [HQL.out] at h2; exact h2)) hr)
          go_wp2
          go_ret
          exact ⟨by rw [E2.out]; rfl, HBW.out⟩
end Go.Proofs.YtdjooacjjnjfmaaGreat
end

-- A model of the reference that the call itself made, beside what the program's would be.
section
namespace Go.Proofs.YtdjooacjjnjfmaaGreat
set_option linter.unusedVariables false
set_option linter.unusedSimpArgs false
set_option maxRecDepth 20000
open Go.RowKit Go.Proofs.YtdjooacjjnjfmaaGreatMem Go.Proofs.YtdjooacjjnjfmaaGreatMapK

theorem MSim.good {m y : MdS} {k : Nat} (h : MSim m y) (g : m.Good k) : y.Good k := by
  have hp := h.s.perm
  refine ⟨⟨⟨by rw [← h.s.v]; exact g.ok.s.v, by rw [← h.s.most]; exact g.ok.s.most, fun e he => g.ok.s.ids e (hp.mem_iff.2 he), fun e he => g.ok.s.fs e (hp.mem_iff.2 he)⟩, by rw [← hp.length_eq]; exact g.ok.len, by rw [← h.served]; exact g.ok.served, h.s.tn⟩, fun e he => g.tag e (hp.mem_iff.2 he)⟩
structure CfgR (c : Cfg) : Prop where
  unit : 1 ≤ c.unit ∧ c.unit ≤ 4611686018427387904
  shards : c.shards ≠ 0
theorem CfgR.ok {c : Cfg} (h : CfgR c) : c.Ok := ⟨by have := h.unit; unfold W64; omega, h.shards⟩
/-- The reference's model at block x, all of it made since the world w, of which nothing has turned; it is like m. -/
def OwnR (w wx : World) (x : Nat) (c : Cfg) (m : MdS) : Prop := ∃ (y : MdS) (G : Nat → Prop), MSim m y ∧ RmAt wx x c y.s y.served G ∧ (∀ k, G k → w.heap.size ≤ k) ∧ Below w.heap.size w wx
section
variable {w wx wy : World} {x : Nat} {c : Cfg} {m : MdS}
theorem OwnR.bel (h : OwnR w wx x c m) : Below w.heap.size w wx := let ⟨_, _, _, _, _, h⟩ := h; h
theorem OwnR.below (h : OwnR w wx x c m) (hb : Below wx.heap.size wx wy) : OwnR w wy x c m := let ⟨y, G, h0, h1, h2, h3⟩ := h; ⟨y, G, h0, h1.below hb, h2, h3.trans (hb.mono h3.size)⟩
theorem doRO {k : Nat} (h : OwnR w wx x c m) (g : m.Good k) (hk : k ≤ 1000000) (hc : CfgR c) (d : CallS) (hd : d.Ok) :
    Calls Tryz.prog 23 #[.pointer (some ⟨x, 0, none⟩), .agg #[.int .i64 d.op, .int .i64 d.flow, .int .i64 d.a, .int .i64 d.b]] wx fun e w' => GotR (m.doo c d).2 e w' ∧ OwnR w w' x c (m.doo c d).1 := by
  obtain ⟨y, G, h0, h1, h2, h3⟩ := h
  refine (doR_any x c y G d wx h1 ((h0.good g).bat hk) hd hc.unit hc.shards).mono fun e w' hh => ?_
  obtain ⟨ao, cap, G', rfl, row, n3, md, hG, f⟩ := hh
  obtain ⟨s1, s2⟩ := h0.doo c d
  have hz := h3.size
  rw [← s2] at row ⊢
  refine ⟨⟨ao, cap, rfl, owns_rdS row (pks_one _)⟩, _, G', s1, md, fun k hk => ?_, h3.trans (f.below h2 hz)⟩
  rcases hG k hk with hk | hk
  · exact h2 k hk
  · omega
end
end Go.Proofs.YtdjooacjjnjfmaaGreat
end

-- Whether an order fits, told of the numbers as they are: plain.
section
namespace Go.Proofs.YtdjooacjjnjfmaaGreatLin
set_option linter.unusedVariables false
set_option linter.unusedSimpArgs false
open Go.Proofs.YtdjooacjjnjfmaaGreatMem
section
variable {S : Type} {n : Nat} {bef : Nat → Nat → Bool} {step : S → Nat → Option S}
theorem fitO_cases {m : S} (o : List Int) : fitO n bef step m o = false ∨ ∃ q, o = toI q ∧ allIn n (toI q) = true := by
  cases h : allIn n o with
  | false => exact .inl (fit_false_in h)
  | true => obtain ⟨q, hq, -⟩ := allIn_toI h; exact .inr ⟨q, hq, by rw [← hq]; exact h⟩
theorem nth_nat (q : List Nat) (i : Nat) : (nth (toI q) i).toNat = nthN q i := by rw [nth_toI]; rfl
theorem toI_length (q : List Nat) : (toI q).length = q.length := by simp [toI]
theorem fit_no_pair {m : S} {o : List Int} {i j : Nat} (hij : i < j) (hj : j < o.length) (h : bef (nth o j).toNat (nth o i).toNat = true) : fitO n bef step m o = false := by
  rcases fitO_cases (n := n) (bef := bef) (step := step) (m := m) o with h0 | ⟨q, rfl, h1⟩
  · exact h0
  · rw [nth_nat, nth_nat] at h
    exact fit_false_pair hij (by rw [toI_length] at hj; exact hj) h
theorem fit_no_run {m mi : S} {o : List Int} {i : Nat} (hi : i < o.length) (hr : runS step m ((o.take i).map Int.toNat) = some mi) (h : step mi (nth o i).toNat = none) : fitO n bef step m o = false := by
  rcases fitO_cases (n := n) (bef := bef) (step := step) (m := m) o with h0 | ⟨q, rfl, h1⟩
  · exact h0
  · rw [nth_nat] at h
    have e : (toI q).take i = toI (q.take i) := by unfold toI; rw [List.map_take]
    rw [e, toI_toNat] at hr
    exact fit_false_run (by rw [toI_length] at hi; exact hi) hr h
theorem fit_no_len {m : S} {o : List Int} (h : o.length ≠ n) : fitO n bef step m o = false := by
  refine fit_false_in ?_
  rw [← Bool.not_eq_true, allIn_iff]
  exact fun h2 => h h2.1
theorem fit_no_in {m : S} {o : List Int} {i : Nat} (hi : i < o.length) (h : ¬ (0 ≤ nth o i ∧ nth o i < n)) : fitO n bef step m o = false := by
  refine fit_false_in ?_
  rw [← Bool.not_eq_true, allIn_iff]
  intro h2
  rw [nth_eq hi] at h
  exact h (h2.2.1 _ (List.getElem_mem hi))
theorem fit_no_twice {m : S} {o : List Int} {i j : Nat} (hij : i < j) (hj : j < o.length) (h : nth o i = nth o j) : fitO n bef step m o = false := by
  refine fit_false_in ?_
  rw [← Bool.not_eq_true, allIn_iff]
  intro h2
  rw [nth_eq (by omega), nth_eq hj] at h
  exact absurd ((List.getElem_inj h2.2.2).1 h) (by omega)
theorem fit_yes {m mi : S} {o : List Int} (hl : o.length = n) (h1 : ∀ i, i < n → 0 ≤ nth o i ∧ nth o i < n) (h2 : ∀ i j, i < j → j < n → nth o i ≠ nth o j) (h3 : ∀ i j, i < j → j < n → bef (nth o j).toNat (nth o i).toNat = false) (hr : runS step m (o.map Int.toNat) = some mi) : fitO n bef step m o = true := by
  have ha : allIn n o = true := by
    rw [allIn_iff]
    refine ⟨hl, fun z hz => ?_, ?_⟩
    · obtain ⟨i, hi, rfl⟩ := List.mem_iff_getElem.1 hz
      have := h1 i (by omega)
      rw [nth_eq hi] at this
      exact this
    · rw [List.Nodup, List.pairwise_iff_getElem]
      intro i j hi hj hij
      have := h2 i j hij (by omega)
      rw [nth_eq hi, nth_eq hj] at this
      exact this
  obtain ⟨q, rfl, hq, -⟩ := allIn_toI ha
  refine fit_true ha (fun i j hij hj => ?_) (by rw [toI_toNat] at hr; exact hr)
  have := h3 i j hij (by omega)
  rw [nth_nat, nth_nat] at this
  exact this
theorem runs_next {m mi : S} {o : List Int} {i : Nat} (h : i < o.length) (hr : runS step m ((o.take i).map Int.toNat) = some mi) : runS step m ((o.take (i + 1)).map Int.toNat) = step mi (nth o i).toNat := by
  have e : (o.take (i + 1)).map Int.toNat = (o.take i).map Int.toNat ++ [(nth o i).toNat] := by
    rw [List.take_add_one, nth_eq h, List.map_append]; simp [h]
  rw [e, runS_append, hr]
  show (step mi (nth o i).toNat).bind (fun m' => some m') = _
  cases step mi (nth o i).toNat <;> rfl
end
end Go.Proofs.YtdjooacjjnjfmaaGreatLin
end

-- The reference: whether an order explains calls.
section
namespace Go.Proofs.YtdjooacjjnjfmaaGreat
set_option linter.unusedVariables false
set_option linter.unusedSimpArgs false
set_option maxRecDepth 20000
open Go.RowKit Go.Proofs.YtdjooacjjnjfmaaGreatMem Go.Proofs.YtdjooacjjnjfmaaGreatMapK Go.Proofs.YtdjooacjjnjfmaaGreatLin H

theorem stepD_eqR (c : Cfg) (l : List DoneS) (m : MdS) (k : Nat) : stepD c l m k = if retB (m.doo c (callD (nthD l k))).2 (nthD l k) = true then some (m.doo c (callD (nthD l k))).1 else none := rfl
theorem mayB_rightR {c : Cfg} {l : List DoneS} (h : mayB c l = true) : c.right = true := by unfold mayB at h; simp only [Bool.and_eq_true] at h; exact h.1
theorem right_cfgR {c : Cfg} (h : c.right = true) : CfgR c := by
  unfold Cfg.right inB at h
  simp only [Bool.and_eq_true, decide_eq_true_eq] at h
  refine ⟨?_, ?_⟩ <;> omega
set_option maxHeartbeats 8000000 in
theorem refFits_any (c : Cfg) (ao : Option Addr) (n cap : Nat) (l : List DoneS) (oo : Option Addr) (on ocap : Nat) (o : List Int) (w : World) (h : RdD w ao n cap l) (hp : ParOk n l) (ho : RdI w oo on ocap o) :
    Calls Tryz.prog 16 #[.agg #[.int .i64 c.shards, .int .i64 c.slots, .int .i64 c.workers, .int .i64 c.width, .int .u64 c.unit], .slice ao n cap, .slice oo on ocap] w fun e w' => e = .returned (.bool (fitsB c l o)) ∧ Below w.heap.size w w' := by
  have B := Blk.new w c.cells 24
  have hb := below1 w (.cells #[.int .i64 c.shards, .int .i64 c.slots, .int .i64 c.workers, .int .i64 c.width, .int .u64 c.unit] 24)
  have HB := Lib.hid hb
  have HRD := Lib.hid (fun w' (hb : Below w.heap.size w w') => h.below hb)
  have HOD := Lib.hid (fun w' (hb : Below w.heap.size w w') => RdI.below (B := 0) ho hb)
  have HBX : Hid (Blk (w.alloc (.cells #[.int .i64 c.shards, .int .i64 c.slots, .int .i64 c.workers, .int .i64 c.width, .int .u64 c.unit] 24)) w.heap.size c.cells 24) := Lib.hid B
  have CP := fun w' (hb : Below w.heap.size w w') => H.refParts_any ao n cap l w' (HRD.out w' hb) hp.1 hp.big
  have CM := fun w' (hb : Below w.heap.size w w') => refMay_any c ao n cap l w' (HRD.out w' hb)
  have CN := newModel_any c
  have HF : Hid (fitsB c l o = (mayB c l && fitO (partsD l).length (befB (partsD l)) (stepD c (partsD l)) .new o)) := Lib.hid rfl
  have HMB : Hid (mayB c l = true → c.right = true) := Lib.hid mayB_rightR
  have hpl : (partsD l).length ≤ 101000 := by
    have h1 := H.partsD_length (m := 100) l fun d hd => by have h1 := hp.2 d hd; have h2 := (h.ok d hd).2.len; omega
    have h2 := h.len
    have h3 := hp.1
    have h4 : l.length * 101 ≤ 1000 * 101 := Nat.mul_le_mul (by omega) (Nat.le_refl _)
    omega
  have HOL := Lib.hid ho.len
  have hosm := ho.small
  clear B hb h hp ho
  generalize fitsB c l o = FB at *
  generalize mayB c l = MB at *
  generalize hPD : partsD l = PD at *
  go_enter Tryz.func16, Tryz.ntmps16
  go_upto_region 1 with fail
  generalize (w.alloc (.cells #[.int .i64 c.shards, .int .i64 c.slots, .int .i64 c.workers, .int .i64 c.width, .int .u64 c.unit] 24)) = W at *
  have a0 : W.cell? ⟨w.heap.size, 0, none⟩ = some (.int .i64 c.shards) := HBX.out.cell 0
  have a1 : W.cell? ⟨w.heap.size, 1, none⟩ = some (.int .i64 c.slots) := HBX.out.cell 1
  have a2 : W.cell? ⟨w.heap.size, 2, none⟩ = some (.int .i64 c.workers) := HBX.out.cell 2
  have a3 : W.cell? ⟨w.heap.size, 3, none⟩ = some (.int .i64 c.width) := HBX.out.cell 3
  have a4 : W.cell? ⟨w.heap.size, 4, none⟩ = some (.int .u64 c.unit) := HBX.out.cell 4
  have al := HBX.out.lt
  go_wp2_with fail
  refine (CM _ HB.out).mono ?_
  rintro e w1 ⟨rfl, hb1⟩
  have HB1 := Lib.hid (HB.out.trans (hb1.mono HB.out.size))
  have HBX1 := Lib.hid (HBX.out.below hb1)
  clear hb1 a0 a1 a2 a3 a4 al
  cases MB with
  | false =>
    have E : Hid (FB = false) := Lib.hid (by rw [HF.out]; rfl)
    go_wp2
    go_ret
    exact ⟨by rw [E.out]; rfl, HB1.out⟩
  | true =>
    have hcR := right_cfgR (HMB.out rfl)
    go_wp2_with fail
    refine (CP _ HB1.out).mono ?_
    rintro e w2 ⟨v, l', rfl, hmap, hown, hb2⟩
    obtain ⟨pa, pc, rfl⟩ := hown.slice
    have HB2 := Lib.hid (HB1.out.trans (hb2.mono HB1.out.size))
    have HBX2 := Lib.hid (HBX1.out.below hb2)
    have HOWN := Lib.hid hown.rd
    obtain ⟨q1, q2, q3, -⟩ := parts_bare (c := c) hmap
    rw [← q1] at hpl
    have E : Hid (FB = fitO l'.length (befB l') (stepD c l') .new o) := Lib.hid (by rw [HF.out, q1, q2, q3]; rfl)
    clear q1 q2 q3 hmap hown hb2 hPD HF
    generalize hLN : l'.length = N at *
    clear hLN
    by_cases hlen : on = N
    · subst hlen
      have e1 : ((on : Int) != (on : Int)) = false := by simp
      have a0 : w2.cell? ⟨w.heap.size, 0, none⟩ = some (.int .i64 c.shards) := HBX2.out.cell 0
      have a1 : w2.cell? ⟨w.heap.size, 1, none⟩ = some (.int .i64 c.slots) := HBX2.out.cell 1
      have a2 : w2.cell? ⟨w.heap.size, 2, none⟩ = some (.int .i64 c.workers) := HBX2.out.cell 2
      have a3 : w2.cell? ⟨w.heap.size, 3, none⟩ = some (.int .i64 c.width) := HBX2.out.cell 3
      have a4 : w2.cell? ⟨w.heap.size, 4, none⟩ = some (.int .u64 c.unit) := HBX2.out.cell 4
      have al := HBX2.out.lt
      go_wp2_with fail
      refine (CN _).mono ?_
      rintro e w4 ⟨mb, rfl, hmd, hb4⟩
      have HO0 : Hid (OwnR w2 w4 mb c .new) := Lib.hid ⟨_, _, MSim.new, hmd, fun k hk => hk.1, hb4⟩
      clear hmd hb4 a0 a1 a2 a3 a4 al HBX HBX1 HBX2 CP CM CN
      have hz3 := HB2.out.size
      go_wp2_with fail
      go_loopw [9] (fun v9 wr => ∃ (i : Nat) (mi : MdS), i ≤ on ∧ v9 = .int .i64 i ∧ runS (stepD c l') .new ((o.take i).map Int.toNat) = some mi ∧ OwnR w2 wr mb c mi ∧ mi.Good i ∧ (∀ a, a < i → 0 ≤ nth o a ∧ nth o a < on) ∧ (∀ a b, a < b → b < i → nth o a ≠ nth o b) ∧ (∀ a b, a < b → b < i → befB l' (nth o b).toNat (nth o a).toNat = false)) (fun v9 _ => on - (intOf v9).toNat)
      case atStart => exact ⟨0, .new, Nat.zero_le _, rfl, rfl, HO0.out, MdS.Good.new, fun a ha => absurd ha (Nat.not_lt_zero _), fun a b _ h => absurd h (Nat.not_lt_zero _), fun a b _ h => absurd h (Nat.not_lt_zero _)⟩
      case round =>
        obtain ⟨i, mi, hi, rfl, hrun, hom, hgd, hin, hne, hpr⟩ := hrel
        have HRUN := Lib.hid hrun
        have HOM := Lib.hid hom
        have HGD := Lib.hid hgd
        have HIN := Lib.hid hin
        have HNE := Lib.hid hne
        have HPR := Lib.hid hpr
        have hbr := hom.bel
        have hB := HB2.out.trans (hbr.mono hz3)
        have HBR := Lib.hid hbr
        have HBW := Lib.hid hB
        clear hrun hom hgd hin hne hpr hbr
        by_cases hl : i < on
        · have i1 : (i : Int) < (on : Int) := by omega
          have hilt : i < o.length := by rw [HOL.out]; exact hl
          obtain ⟨ob, ooff, rfl, hobl, hoc⟩ := (HOD.out _ HBW.out).at_ i hl
          have HNIN := Lib.hid (fit_no_in (n := on) (bef := befB l') (step := stepD c l') (m := .new) hilt)
          have HNEXT := Lib.hid (runs_next hilt HRUN.out)
          have HNRUN := Lib.hid (fit_no_run (n := on) (bef := befB l') hilt HRUN.out)
          have HNTW := Lib.hid (fun a (ha : a < i) => fit_no_twice (n := on) (bef := befB l') (step := stepD c l') (m := .new) ha hilt)
          have HNPR := Lib.hid (fun a (ha : a < i) => fit_no_pair (n := on) (bef := befB l') (step := stepD c l') (m := .new) ha hilt)
          generalize hzz : nth o i = z at *
          have HZ := Lib.hid hzz
          clear hzz
          by_cases hz0 : z < 0
          · have E2 : Hid (FB = false) := Lib.hid (by rw [E.out]; exact HNIN.out (by omega))
            go_wp2
            go_ret
            exact ⟨by rw [E2.out]; rfl, HBW.out⟩
          · by_cases hzn : (on : Int) ≤ z
            · have E2 : Hid (FB = false) := Lib.hid (by rw [E.out]; exact HNIN.out (by omega))
              go_wp2
              go_ret
              exact ⟨by rw [E2.out]; rfl, HBW.out⟩
            · obtain ⟨k, rfl⟩ : ∃ k : Nat, z = k := ⟨z.toNat, by omega⟩
              have hk : k < on := by omega
              have hkt : ((k : Int)).toNat = k := rfl
              rw [hkt] at HNEXT HNRUN
              obtain ⟨pb, po, rfl, hplt, hpc⟩ := HOWN.out.cells hk
              have HPC := Lib.hid hpc
              clear hpc hzn
              generalize wr = w5 at *
              go_wp2_with fail
              go_loopw [10] (fun v10 wx => ∃ j : Nat, j ≤ i ∧ v10 = .int .i64 j ∧ OwnR w2 wx mb c mi ∧ (∀ a, a < j → nth o a ≠ (k : Int) ∧ befB l' k (nth o a).toNat = false)) (fun v10 _ => i - (intOf v10).toNat)
              case atStart => exact ⟨0, Nat.zero_le _, rfl, HOM.out, fun a h1 => absurd h1 (Nat.not_lt_zero _)⟩
              case round =>
                obtain ⟨j, hj, rfl, hom, hpj⟩ := hrel
                have HOMJ := Lib.hid hom
                have HPJ := Lib.hid hpj
                have hbj := hom.bel
                have HBJ := Lib.hid hbj
                have hBj := HB2.out.trans (hbj.mono hz3)
                have HBJW := Lib.hid hBj
                clear hom hpj hbj hBj
                obtain ⟨ob', ooff', e', hobl2, hoc2⟩ := (HOD.out _ HBJW.out).at_ i hl
                simp only [Option.some.injEq, Addr.mk.injEq, and_true] at e'
                obtain ⟨rfl, rfl⟩ := e'
                rw [HZ.out] at hoc2
                by_cases hjl : j < i
                · have j1 : (j : Int) < (i : Int) := by omega
                  have j2 : (j : Int) < (on : Int) := by omega
                  obtain ⟨ob', ooff', e', -, hoc3⟩ := (HOD.out _ HBJW.out).at_ j (by omega)
                  simp only [Option.some.injEq, Addr.mk.injEq, and_true] at e'
                  obtain ⟨rfl, rfl⟩ := e'
                  have hin := HIN.out j hjl
                  have HTW := Lib.hid (HNTW.out j hjl)
                  have HPP := Lib.hid (HNPR.out j hjl)
                  generalize hyy : nth o j = y at *
                  have HY := Lib.hid hyy
                  clear hyy
                  obtain ⟨ky, rfl⟩ : ∃ ky : Nat, y = ky := ⟨y.toNat, by omega⟩
                  have hky : ky < on := by omega
                  have hkyt : ((ky : Int)).toNat = ky := rfl
                  rw [hkyt, hkt] at HPP
                  by_cases heq : ky = k
                  · have e2 : ((ky : Int) == (k : Int)) = true := by simp [heq]
                    have E2 : Hid (FB = false) := Lib.hid (by rw [E.out]; exact HTW.out (by rw [heq]))
                    clear heq
                    have hS0 : wr.drew.cell? ⟨ob, ooff + j, none⟩ = some (.int .i64 (ky : Int)) ∧ wr.drew.cell? ⟨ob, ooff + i, none⟩ = some (.int .i64 (k : Int)) := ⟨hoc3, hoc2⟩
                    go_wp2_with fail
                    refine wp_region_held_drew (S := (fun w' => w'.cell? ⟨ob, ooff + j, none⟩ = some (.int .i64 (ky : Int)) ∧ w'.cell? ⟨ob, ooff + i, none⟩ = some (.int .i64 (k : Int)))) (by kernel_rfl) ?_ (fun hHeld => ?_)
                    · exact hS0
                    refine wpAnyH_take (i := 0) (v := ?_) rfl (by kernel_rfl) (by kernel_rfl) (by kernel_rfl) (fun _ _ _ h => h) (Or.inl ⟨by rfl, ?_⟩) (by assumption) ?_
                    rotate_left
                    · intro w hSw
                      (try dsimp only at hSw)
                      first | (go_simp; done) | (go_simp; with_reducible rfl)
                    try simp only [List.getElem_toArray, List.getElem_cons_succ, List.getElem_cons_zero, Act.put, List.setIfInBounds_toArray, List.set_cons_zero, List.set_cons_succ]
                    refine wpAnyH_take (i := 1) (v := ?_) rfl (by kernel_rfl) (by kernel_rfl) (by kernel_rfl) (fun _ _ _ h => h) (Or.inl ⟨by rfl, ?_⟩) (by assumption) ?_
                    rotate_left
                    · intro w hSw
                      (try dsimp only at hSw)
                      first | (go_simp; done) | (go_simp; with_reducible rfl)
                    try simp only [List.getElem_toArray, List.getElem_cons_succ, List.getElem_cons_zero, Act.put, List.setIfInBounds_toArray, List.set_cons_zero, List.set_cons_succ]
                    refine wpAnyH_take (i := 2) (v := ?_) rfl (by kernel_rfl) (by kernel_rfl) (by kernel_rfl) (fun _ _ _ h => h) (Or.inl ⟨by rfl, ?_⟩) (by assumption) ?_
                    rotate_left
                    · intro w hSw
                      (try dsimp only at hSw)
                      first | (go_simp; done) | (go_simp; with_reducible rfl)
                    try simp only [List.getElem_toArray, List.getElem_cons_succ, List.getElem_cons_zero, Act.put, List.setIfInBounds_toArray, List.set_cons_zero, List.set_cons_succ]
                    refine wpAnyH_take (i := 3) (v := ?_) rfl (by kernel_rfl) (by kernel_rfl) (by kernel_rfl) (fun _ _ _ h => h) (Or.inl ⟨by rfl, ?_⟩) (by assumption) ?_
                    rotate_left
                    · intro w hSw
                      (try dsimp only at hSw)
                      first | (go_simp; done) | (go_simp; with_reducible rfl)
                    try simp only [List.getElem_toArray, List.getElem_cons_succ, List.getElem_cons_zero, Act.put, List.setIfInBounds_toArray, List.set_cons_zero, List.set_cons_succ]
                    refine wpAnyH_take (i := 4) (v := ?_) rfl (by kernel_rfl) (by kernel_rfl) (by kernel_rfl) (fun _ _ _ h => h) (Or.inl ⟨by rfl, ?_⟩) (by assumption) ?_
                    rotate_left
                    · intro w hSw
                      (try dsimp only at hSw)
                      first | (go_simp; done) | (go_simp; with_reducible rfl)
                    try simp only [List.getElem_toArray, List.getElem_cons_succ, List.getElem_cons_zero, Act.put, List.setIfInBounds_toArray, List.set_cons_zero, List.set_cons_succ]
                    refine wpAnyH_take (i := 5) (v := ?_) rfl (by kernel_rfl) (by kernel_rfl) (by kernel_rfl) (fun _ _ _ h => h) (Or.inl ⟨by rfl, ?_⟩) (by assumption) ?_
                    rotate_left
                    · intro w hSw
                      (try dsimp only at hSw)
                      first | (go_simp; done) | (go_simp; with_reducible rfl)
                    try simp only [List.getElem_toArray, List.getElem_cons_succ, List.getElem_cons_zero, Act.put, List.setIfInBounds_toArray, List.set_cons_zero, List.set_cons_succ]
                    refine wpAnyH_take (i := 6) (v := ?_) rfl (by kernel_rfl) (by kernel_rfl) (by kernel_rfl) (fun _ _ _ h => h) (Or.inl ⟨by rfl, ?_⟩) (by assumption) ?_
                    rotate_left
                    · intro w hSw
                      (try dsimp only at hSw)
                      first | (go_simp; done) | (go_simp; with_reducible rfl)
                    try simp only [List.getElem_toArray, List.getElem_cons_succ, List.getElem_cons_zero, Act.put, List.setIfInBounds_toArray, List.set_cons_zero, List.set_cons_succ]
                    refine wpAnyH_take (i := 7) (v := ?_) rfl (by kernel_rfl) (by kernel_rfl) (by kernel_rfl) (fun _ _ _ h => h) (Or.inl ⟨by rfl, ?_⟩) (by assumption) ?_
                    rotate_left
                    · intro w hSw
                      (try dsimp only at hSw)
                      first | (go_simp; done) | (go_simp; with_reducible rfl)
                    try simp only [List.getElem_toArray, List.getElem_cons_succ, List.getElem_cons_zero, Act.put, List.setIfInBounds_toArray, List.set_cons_zero, List.set_cons_succ]
                    refine wpAnyH_take (i := 8) (v := ?_) rfl (by kernel_rfl) (by kernel_rfl) (by kernel_rfl) (fun _ _ _ h => h) (Or.inl ⟨by rfl, ?_⟩) (by assumption) ?_
                    rotate_left
                    · intro w hSw
                      (try dsimp only at hSw)
                      first | (go_simp; done) | (go_simp; with_reducible rfl)
                    try simp only [List.getElem_toArray, List.getElem_cons_succ, List.getElem_cons_zero, Act.put, List.setIfInBounds_toArray, List.set_cons_zero, List.set_cons_succ]
                    refine wpAnyH_take (i := 9) (v := ?_) rfl (by kernel_rfl) (by kernel_rfl) (by kernel_rfl) (fun _ _ _ h => h) (Or.inl ⟨by rfl, ?_⟩) (by assumption) ?_
                    rotate_left
                    · intro w hSw
                      (try dsimp only at hSw)
                      first | (go_simp; done) | (go_simp; with_reducible rfl)
                    try simp only [List.getElem_toArray, List.getElem_cons_succ, List.getElem_cons_zero, Act.put, List.setIfInBounds_toArray, List.set_cons_zero, List.set_cons_succ]
                    refine wpAnyH_take (i := 10) (v := undef) rfl (by kernel_rfl) (by kernel_rfl) (by kernel_rfl) (fun _ _ _ h => h) (Or.inr ⟨by rfl, rfl⟩) (by assumption) ?_
                    try simp only [List.getElem_toArray, List.getElem_cons_succ, List.getElem_cons_zero, Act.put, List.setIfInBounds_toArray, List.set_cons_zero, List.set_cons_succ]
                    refine wpAnyH_take (i := 11) (v := undef) rfl (by kernel_rfl) (by kernel_rfl) (by kernel_rfl) (fun _ _ _ h => h) (Or.inr ⟨by rfl, rfl⟩) (by assumption) ?_
                    try simp only [List.getElem_toArray, List.getElem_cons_succ, List.getElem_cons_zero, Act.put, List.setIfInBounds_toArray, List.set_cons_zero, List.set_cons_succ]
                    refine wpAnyH_take (i := 12) (v := undef) rfl (by kernel_rfl) (by kernel_rfl) (by kernel_rfl) (fun _ _ _ h => h) (Or.inr ⟨by rfl, rfl⟩) (by assumption) ?_
                    try simp only [List.getElem_toArray, List.getElem_cons_succ, List.getElem_cons_zero, Act.put, List.setIfInBounds_toArray, List.set_cons_zero, List.set_cons_succ]
                    refine wpAnyH_take (i := 13) (v := undef) rfl (by kernel_rfl) (by kernel_rfl) (by kernel_rfl) (fun _ _ _ h => h) (Or.inr ⟨by rfl, rfl⟩) (by assumption) ?_
                    try simp only [List.getElem_toArray, List.getElem_cons_succ, List.getElem_cons_zero, Act.put, List.setIfInBounds_toArray, List.set_cons_zero, List.set_cons_succ]
                    refine wpAnyH_take (i := 14) (v := undef) rfl (by kernel_rfl) (by kernel_rfl) (by kernel_rfl) (fun _ _ _ h => h) (Or.inr ⟨by rfl, rfl⟩) (by assumption) ?_
                    try simp only [List.getElem_toArray, List.getElem_cons_succ, List.getElem_cons_zero, Act.put, List.setIfInBounds_toArray, List.set_cons_zero, List.set_cons_succ]
                    refine wpAnyH_take (i := 15) (v := undef) rfl (by kernel_rfl) (by kernel_rfl) (by kernel_rfl) (fun _ _ _ h => h) (Or.inr ⟨by rfl, rfl⟩) (by assumption) ?_
                    try simp only [List.getElem_toArray, List.getElem_cons_succ, List.getElem_cons_zero, Act.put, List.setIfInBounds_toArray, List.set_cons_zero, List.set_cons_succ]
                    refine wpAnyH_take (i := 16) (v := undef) rfl (by kernel_rfl) (by kernel_rfl) (by kernel_rfl) (fun _ _ _ h => h) (Or.inr ⟨by rfl, rfl⟩) (by assumption) ?_
                    try simp only [List.getElem_toArray, List.getElem_cons_succ, List.getElem_cons_zero, Act.put, List.setIfInBounds_toArray, List.set_cons_zero, List.set_cons_succ]
                    refine wpAnyH_take (i := 17) (v := undef) rfl (by kernel_rfl) (by kernel_rfl) (by kernel_rfl) (fun _ _ _ h => h) (Or.inr ⟨by rfl, rfl⟩) (by assumption) ?_
                    try simp only [List.getElem_toArray, List.getElem_cons_succ, List.getElem_cons_zero, Act.put, List.setIfInBounds_toArray, List.set_cons_zero, List.set_cons_succ]
                    refine wpAnyH_take (i := 18) (v := undef) rfl (by kernel_rfl) (by kernel_rfl) (by kernel_rfl) (fun _ _ _ h => h) (Or.inr ⟨by rfl, rfl⟩) (by assumption) ?_
                    try simp only [List.getElem_toArray, List.getElem_cons_succ, List.getElem_cons_zero, Act.put, List.setIfInBounds_toArray, List.set_cons_zero, List.set_cons_succ]
                    refine wpAnyH_take (i := 19) (v := undef) rfl (by kernel_rfl) (by kernel_rfl) (by kernel_rfl) (fun _ _ _ h => h) (Or.inr ⟨by rfl, rfl⟩) (by assumption) ?_
                    try simp only [List.getElem_toArray, List.getElem_cons_succ, List.getElem_cons_zero, Act.put, List.setIfInBounds_toArray, List.set_cons_zero, List.set_cons_succ]
                    refine wpAnyH_take (i := 20) (v := ?_) rfl (by kernel_rfl) (by kernel_rfl) (by kernel_rfl) (fun _ _ _ h => h) (Or.inl ⟨by rfl, ?_⟩) (by assumption) ?_
                    rotate_left
                    · intro w hSw
                      (try dsimp only at hSw)
                      first | (go_simp; done) | (go_simp; with_reducible rfl)
                    try simp only [List.getElem_toArray, List.getElem_cons_succ, List.getElem_cons_zero, Act.put, List.setIfInBounds_toArray, List.set_cons_zero, List.set_cons_succ]
                    refine wpAnyH_done (by kernel_rfl) ?_ _
                    go_wp2
                    go_ret
                    exact ⟨by rw [E2.out]; rfl, HBJW.out.drew⟩
                  · have e2 : ((ky : Int) == (k : Int)) = false := by simp; omega
                    have HEQ := Lib.hid heq
                    have CB := fun w' (hb : Below wr.heap.size wr w') => refFirst_any (some ⟨pb, po, none⟩) on pc l' k ky hk hky w' ((HOWN.out.below HBJ.out).below hb)
                    have hS0 : wr.drew.cell? ⟨ob, ooff + j, none⟩ = some (.int .i64 (ky : Int)) ∧ wr.drew.cell? ⟨ob, ooff + i, none⟩ = some (.int .i64 (k : Int)) := ⟨hoc3, hoc2⟩
                    generalize hbb : befB l' k ky = BB at *
                    have HBB := Lib.hid hbb
                    clear hbb heq hin
                    go_wp2_with fail
                    refine wp_region_held_drew (S := (fun w' => w'.cell? ⟨ob, ooff + j, none⟩ = some (.int .i64 (ky : Int)) ∧ w'.cell? ⟨ob, ooff + i, none⟩ = some (.int .i64 (k : Int)))) (by kernel_rfl) ?_ (fun hHeld => ?_)
                    · exact hS0
                    refine wpAnyH_take (i := 0) (v := ?_) rfl (by kernel_rfl) (by kernel_rfl) (by kernel_rfl) (fun _ _ _ h => h) (Or.inl ⟨by rfl, ?_⟩) (by assumption) ?_
                    rotate_left
                    · intro w hSw
                      (try dsimp only at hSw)
                      first | (go_simp; done) | (go_simp; with_reducible rfl)
                    try simp only [List.getElem_toArray, List.getElem_cons_succ, List.getElem_cons_zero, Act.put, List.setIfInBounds_toArray, List.set_cons_zero, List.set_cons_succ]
                    refine wpAnyH_take (i := 1) (v := ?_) rfl (by kernel_rfl) (by kernel_rfl) (by kernel_rfl) (fun _ _ _ h => h) (Or.inl ⟨by rfl, ?_⟩) (by assumption) ?_
                    rotate_left
                    · intro w hSw
                      (try dsimp only at hSw)
                      first | (go_simp; done) | (go_simp; with_reducible rfl)
                    try simp only [List.getElem_toArray, List.getElem_cons_succ, List.getElem_cons_zero, Act.put, List.setIfInBounds_toArray, List.set_cons_zero, List.set_cons_succ]
                    refine wpAnyH_take (i := 2) (v := ?_) rfl (by kernel_rfl) (by kernel_rfl) (by kernel_rfl) (fun _ _ _ h => h) (Or.inl ⟨by rfl, ?_⟩) (by assumption) ?_
                    rotate_left
                    · intro w hSw
                      (try dsimp only at hSw)
                      first | (go_simp; done) | (go_simp; with_reducible rfl)
                    try simp only [List.getElem_toArray, List.getElem_cons_succ, List.getElem_cons_zero, Act.put, List.setIfInBounds_toArray, List.set_cons_zero, List.set_cons_succ]
                    refine wpAnyH_take (i := 3) (v := ?_) rfl (by kernel_rfl) (by kernel_rfl) (by kernel_rfl) (fun _ _ _ h => h) (Or.inl ⟨by rfl, ?_⟩) (by assumption) ?_
                    rotate_left
                    · intro w hSw
                      (try dsimp only at hSw)
                      first | (go_simp; done) | (go_simp; with_reducible rfl)
                    try simp only [List.getElem_toArray, List.getElem_cons_succ, List.getElem_cons_zero, Act.put, List.setIfInBounds_toArray, List.set_cons_zero, List.set_cons_succ]
                    refine wpAnyH_take (i := 4) (v := ?_) rfl (by kernel_rfl) (by kernel_rfl) (by kernel_rfl) (fun _ _ _ h => h) (Or.inl ⟨by rfl, ?_⟩) (by assumption) ?_
                    rotate_left
                    · intro w hSw
                      (try dsimp only at hSw)
                      first | (go_simp; done) | (go_simp; with_reducible rfl)
                    try simp only [List.getElem_toArray, List.getElem_cons_succ, List.getElem_cons_zero, Act.put, List.setIfInBounds_toArray, List.set_cons_zero, List.set_cons_succ]
                    refine wpAnyH_take (i := 5) (v := ?_) rfl (by kernel_rfl) (by kernel_rfl) (by kernel_rfl) (fun _ _ _ h => h) (Or.inl ⟨by rfl, ?_⟩) (by assumption) ?_
                    rotate_left
                    · intro w hSw
                      (try dsimp only at hSw)
                      first | (go_simp; done) | (go_simp; with_reducible rfl)
                    try simp only [List.getElem_toArray, List.getElem_cons_succ, List.getElem_cons_zero, Act.put, List.setIfInBounds_toArray, List.set_cons_zero, List.set_cons_succ]
                    refine wpAnyH_take (i := 6) (v := ?_) rfl (by kernel_rfl) (by kernel_rfl) (by kernel_rfl) (fun _ _ _ h => h) (Or.inl ⟨by rfl, ?_⟩) (by assumption) ?_
                    rotate_left
                    · intro w hSw
                      (try dsimp only at hSw)
                      first | (go_simp; done) | (go_simp; with_reducible rfl)
                    try simp only [List.getElem_toArray, List.getElem_cons_succ, List.getElem_cons_zero, Act.put, List.setIfInBounds_toArray, List.set_cons_zero, List.set_cons_succ]
                    refine wpAnyH_take (i := 7) (v := ?_) rfl (by kernel_rfl) (by kernel_rfl) (by kernel_rfl) (fun _ _ _ h => h) (Or.inl ⟨by rfl, ?_⟩) (by assumption) ?_
                    rotate_left
                    · intro w hSw
                      (try dsimp only at hSw)
                      first | (go_simp; done) | (go_simp; with_reducible rfl)
                    try simp only [List.getElem_toArray, List.getElem_cons_succ, List.getElem_cons_zero, Act.put, List.setIfInBounds_toArray, List.set_cons_zero, List.set_cons_succ]
                    refine wpAnyH_take (i := 8) (v := ?_) rfl (by kernel_rfl) (by kernel_rfl) (by kernel_rfl) (fun _ _ _ h => h) (Or.inl ⟨by rfl, ?_⟩) (by assumption) ?_
                    rotate_left
                    · intro w hSw
                      (try dsimp only at hSw)
                      first | (go_simp; done) | (go_simp; with_reducible rfl)
                    try simp only [List.getElem_toArray, List.getElem_cons_succ, List.getElem_cons_zero, Act.put, List.setIfInBounds_toArray, List.set_cons_zero, List.set_cons_succ]
                    refine wpAnyH_take (i := 9) (v := ?_) rfl (by kernel_rfl) (by kernel_rfl) (by kernel_rfl) (fun _ _ _ h => h) (Or.inl ⟨by rfl, ?_⟩) (by assumption) ?_
                    rotate_left
                    · intro w hSw
                      (try dsimp only at hSw)
                      first | (go_simp; done) | (go_simp; with_reducible rfl)
                    try simp only [List.getElem_toArray, List.getElem_cons_succ, List.getElem_cons_zero, Act.put, List.setIfInBounds_toArray, List.set_cons_zero, List.set_cons_succ]
                    refine wpAnyH_take (i := 10) (v := ?_) rfl (by kernel_rfl) (by kernel_rfl) (by kernel_rfl) (fun _ _ _ h => h) (Or.inl ⟨by rfl, ?_⟩) (by assumption) ?_
                    rotate_left
                    · intro w hSw
                      (try dsimp only at hSw)
                      first | (go_simp; done) | (go_simp; with_reducible rfl)
                    try simp only [List.getElem_toArray, List.getElem_cons_succ, List.getElem_cons_zero, Act.put, List.setIfInBounds_toArray, List.set_cons_zero, List.set_cons_succ]
                    refine wpAnyH_take (i := 11) (v := ?_) rfl (by kernel_rfl) (by kernel_rfl) (by kernel_rfl) (fun _ _ _ h => h) (Or.inl ⟨by rfl, ?_⟩) (by assumption) ?_
                    rotate_left
                    · intro w hSw
                      (try dsimp only at hSw)
                      first | (go_simp; done) | (go_simp; with_reducible rfl)
                    try simp only [List.getElem_toArray, List.getElem_cons_succ, List.getElem_cons_zero, Act.put, List.setIfInBounds_toArray, List.set_cons_zero, List.set_cons_succ]
                    refine wpAnyH_take (i := 12) (v := ?_) rfl (by kernel_rfl) (by kernel_rfl) (by kernel_rfl) (fun _ _ _ h => h) (Or.inl ⟨by rfl, ?_⟩) (by assumption) ?_
                    rotate_left
                    · intro w hSw
                      (try dsimp only at hSw)
                      first | (go_simp; done) | (go_simp; with_reducible rfl)
                    try simp only [List.getElem_toArray, List.getElem_cons_succ, List.getElem_cons_zero, Act.put, List.setIfInBounds_toArray, List.set_cons_zero, List.set_cons_succ]
                    refine wpAnyH_take (i := 13) (v := ?_) rfl (by kernel_rfl) (by kernel_rfl) (by kernel_rfl) (fun _ _ _ h => h) (Or.inl ⟨by rfl, ?_⟩) (by assumption) ?_
                    rotate_left
                    · intro w hSw
                      (try dsimp only at hSw)
                      first | (go_simp; done) | (go_simp; with_reducible rfl)
                    try simp only [List.getElem_toArray, List.getElem_cons_succ, List.getElem_cons_zero, Act.put, List.setIfInBounds_toArray, List.set_cons_zero, List.set_cons_succ]
                    refine wpAnyH_take (i := 14) (v := ?_) rfl (by kernel_rfl) (by kernel_rfl) (by kernel_rfl) (fun _ _ _ h => h) (Or.inl ⟨by rfl, ?_⟩) (by assumption) ?_
                    rotate_left
                    · intro w hSw
                      (try dsimp only at hSw)
                      first | (go_simp; done) | (go_simp; with_reducible rfl)
                    try simp only [List.getElem_toArray, List.getElem_cons_succ, List.getElem_cons_zero, Act.put, List.setIfInBounds_toArray, List.set_cons_zero, List.set_cons_succ]
                    refine wpAnyH_take (i := 15) (v := ?_) rfl (by kernel_rfl) (by kernel_rfl) (by kernel_rfl) (fun _ _ _ h => h) (Or.inl ⟨by rfl, ?_⟩) (by assumption) ?_
                    rotate_left
                    · intro w hSw
                      (try dsimp only at hSw)
                      first | (go_simp; done) | (go_simp; with_reducible rfl)
                    try simp only [List.getElem_toArray, List.getElem_cons_succ, List.getElem_cons_zero, Act.put, List.setIfInBounds_toArray, List.set_cons_zero, List.set_cons_succ]
                    refine wpAnyH_take (i := 16) (v := ?_) rfl (by kernel_rfl) (by kernel_rfl) (by kernel_rfl) (fun _ _ _ h => h) (Or.inl ⟨by rfl, ?_⟩) (by assumption) ?_
                    rotate_left
                    · intro w hSw
                      (try dsimp only at hSw)
                      first | (go_simp; done) | (go_simp; with_reducible rfl)
                    try simp only [List.getElem_toArray, List.getElem_cons_succ, List.getElem_cons_zero, Act.put, List.setIfInBounds_toArray, List.set_cons_zero, List.set_cons_succ]
                    refine wpAnyH_take (i := 17) (v := ?_) rfl (by kernel_rfl) (by kernel_rfl) (by kernel_rfl) (fun _ _ _ h => h) (Or.inl ⟨by rfl, ?_⟩) (by assumption) ?_
                    rotate_left
                    · intro w hSw
                      (try dsimp only at hSw)
                      first | (go_simp; done) | (go_simp; with_reducible rfl)
                    try simp only [List.getElem_toArray, List.getElem_cons_succ, List.getElem_cons_zero, Act.put, List.setIfInBounds_toArray, List.set_cons_zero, List.set_cons_succ]
                    refine wpAnyH_take (i := 18) (v := ?_) rfl (by kernel_rfl) (by kernel_rfl) (by kernel_rfl) (fun _ _ _ h => h) (Or.inl ⟨by rfl, ?_⟩) (by assumption) ?_
                    rotate_left
                    · intro w hSw
                      (try dsimp only at hSw)
                      first | (go_simp; done) | (go_simp; with_reducible rfl)
                    try simp only [List.getElem_toArray, List.getElem_cons_succ, List.getElem_cons_zero, Act.put, List.setIfInBounds_toArray, List.set_cons_zero, List.set_cons_succ]
                    refine wpAnyH_ready (rs := [19]) (by kernel_rfl) (by simp) ?_
                    refine AllReadyH.cons rfl (fun K hK => ?_) AllReadyH.nil
                    go_simp
                    (go_at_call 40; refine (CB _ (Below.refl _ _).drew).mono ?_; rintro e w' ⟨rfl, hb'⟩; have hS6 : w'.cell? ⟨ob, ooff + j, none⟩ = some (.int .i64 (ky : Int)) ∧ w'.cell? ⟨ob, ooff + i, none⟩ = some (.int .i64 (k : Int)) := ⟨(hb'.cell (p := ⟨ob, ooff + j, none⟩) hobl2).trans hoc3, (hb'.cell (p := ⟨ob, ooff + i, none⟩) hobl2).trans hoc2⟩)
                    refine hK.out _ _ ?_ (fun hHeld => ?_)
                    · with_reducible exact hS6
                    clear hK K
                    try simp only [List.getElem_toArray, List.getElem_cons_succ, List.getElem_cons_zero, Act.put, List.setIfInBounds_toArray, List.set_cons_zero, List.set_cons_succ]
                    refine wpAnyH_take (i := 20) (v := ?_) rfl (by kernel_rfl) (by kernel_rfl) (by kernel_rfl) (fun _ _ _ h => h) (Or.inl ⟨by rfl, ?_⟩) (by assumption) ?_
                    rotate_left
                    · intro w hSw
                      (try dsimp only at hSw)
                      first | (go_simp; done) | (go_simp; with_reducible rfl)
                    try simp only [List.getElem_toArray, List.getElem_cons_succ, List.getElem_cons_zero, Act.put, List.setIfInBounds_toArray, List.set_cons_zero, List.set_cons_succ]
                    refine wpAnyH_done (by kernel_rfl) ?_ _
                    have hSB := (Below.refl _ wr).drew.trans hb'
                    have HOM6 := Lib.hid (HOMJ.out.below hSB)
                    cases BB with
                    | true =>
                      have E2 : Hid (FB = false) := Lib.hid (by rw [E.out]; exact HPP.out rfl)
                      go_wp2
                      go_ret
                      exact ⟨by rw [E2.out]; rfl, HB2.out.trans (HOM6.out.bel.mono hz3)⟩
                    | false =>
                      clear hHeld hSB CB
                      go_wp2
                      go_roundw
                      case rel => exact ⟨j + 1, by omega, by go_num, HOM6.out, fun a h1 => by
                        by_cases haj : a = j
                        · subst haj; rw [HY.out]; exact ⟨fun e => HEQ.out (by omega), HBB.out⟩
                        · exact HPJ.out a (by omega)⟩
                      case measure => simp [intOf]; omega
                · have hji : i = j := by omega
                  subst hji
                  have j1 : (i : Int) ≤ (i : Int) := by omega
                  have HSX : Hid (∀ w', Below w2.heap.size w2 w' → Below w.heap.size w w' → w'.cell? ⟨ob, ooff + i, none⟩ = some (.int .i64 (k : Int)) ∧ w'.cell? ⟨pb, po + k * 12 + 2, none⟩ = some (.int .i64 (nthD l' k).op) ∧ w'.cell? ⟨pb, po + k * 12 + 3, none⟩ = some (.int .i64 (nthD l' k).fl) ∧ w'.cell? ⟨pb, po + k * 12 + 4, none⟩ = some (.int .i64 (nthD l' k).a) ∧ w'.cell? ⟨pb, po + k * 12 + 5, none⟩ = some (.int .i64 (nthD l' k).b) ∧ w'.cell? ⟨pb, po + k * 12 + 6, none⟩ = some (.int .i64 (nthD l' k).e) ∧ w'.cell? ⟨pb, po + k * 12 + 7, none⟩ = some (.slice (nthD l' k).ao (nthD l' k).len (nthD l' k).cap) ∧ w'.cell? ⟨pb, po + k * 12 + 8, none⟩ = some (.int .i64 (nthD l' k).n) ∧ w'.cell? ⟨pb, po + k * 12 + 9, none⟩ = some (.int .u64 (nthD l' k).v)) := Lib.hid fun w' hb hb0 => by
                    obtain ⟨-, -, x2, x3, x4, x5, x6, x7, x8, x9, -, -⟩ := RdD.at12 (ao := none) (n := 0) (cap := 0) HPC.out hb
                    obtain ⟨ob', ooff', e', -, hoc4⟩ := (HOD.out _ hb0).at_ i hl
                    simp only [Option.some.injEq, Addr.mk.injEq, and_true] at e'
                    obtain ⟨rfl, rfl⟩ := e'
                    rw [HZ.out] at hoc4
                    exact ⟨hoc4, x2, x3, x4, x5, x6, x7, x8, x9⟩
                  have HDK3 := Lib.hid (HOWN.out.nth hk)
                  have HSTEP := Lib.hid (stepD_eqR c l' mi k)
                  clear HPC
                  generalize nthD l' k = d at *
                  have CDO := doRO (HOMJ.out.below (Below.refl _ _).drew) HGD.out (by omega) hcR (callD d) (callD_ok HDK3.out.1)
                  have hcd : callD d = ⟨d.op, d.fl, d.a, d.b⟩ := rfl
                  rw [hcd] at CDO
                  rw [hcd] at HSTEP
                  have HGY : Hid ((mi.doo c ⟨d.op, d.fl, d.a, d.b⟩).1.Good (i + 1)) := Lib.hid (HGD.out.doo hcR.ok.unit (callD_ok HDK3.out.1))
                  generalize (mi.doo c ⟨d.op, d.fl, d.a, d.b⟩).1 = mx at *
                  generalize (mi.doo c ⟨d.op, d.fl, d.a, d.b⟩).2 = rx at *
                  have hS0 := HSX.out wr.drew (HBJ.out.trans (Below.refl _ _).drew) (HBJW.out.drew)
                  go_wp2_with fail
                  refine wp_region_held_drew (S := (fun w' => w'.cell? ⟨ob, ooff + i, none⟩ = some (.int .i64 (k : Int)) ∧ w'.cell? ⟨pb, po + k * 12 + 2, none⟩ = some (.int .i64 d.op) ∧ w'.cell? ⟨pb, po + k * 12 + 3, none⟩ = some (.int .i64 d.fl) ∧ w'.cell? ⟨pb, po + k * 12 + 4, none⟩ = some (.int .i64 d.a) ∧ w'.cell? ⟨pb, po + k * 12 + 5, none⟩ = some (.int .i64 d.b) ∧ w'.cell? ⟨pb, po + k * 12 + 6, none⟩ = some (.int .i64 d.e) ∧ w'.cell? ⟨pb, po + k * 12 + 7, none⟩ = some (.slice d.ao d.len d.cap) ∧ w'.cell? ⟨pb, po + k * 12 + 8, none⟩ = some (.int .i64 d.n) ∧ w'.cell? ⟨pb, po + k * 12 + 9, none⟩ = some (.int .u64 d.v))) (by kernel_rfl) ?_ (fun hHeld => ?_)
                  · exact hS0
                  refine wpAnyH_take (i := 0) (v := ?_) rfl (by kernel_rfl) (by kernel_rfl) (by kernel_rfl) (fun _ _ _ h => h) (Or.inl ⟨by rfl, ?_⟩) (by assumption) ?_
                  rotate_left
                  · intro w hSw
                    (try dsimp only at hSw)
                    first | (go_simp; done) | (go_simp; with_reducible rfl)
                  try simp only [List.getElem_toArray, List.getElem_cons_succ, List.getElem_cons_zero, Act.put, List.setIfInBounds_toArray, List.set_cons_zero, List.set_cons_succ]
                  refine wpAnyH_take (i := 1) (v := ?_) rfl (by kernel_rfl) (by kernel_rfl) (by kernel_rfl) (fun _ _ _ h => h) (Or.inl ⟨by rfl, ?_⟩) (by assumption) ?_
                  rotate_left
                  · intro w hSw
                    (try dsimp only at hSw)
                    first | (go_simp; done) | (go_simp; with_reducible rfl)
                  try simp only [List.getElem_toArray, List.getElem_cons_succ, List.getElem_cons_zero, Act.put, List.setIfInBounds_toArray, List.set_cons_zero, List.set_cons_succ]
                  refine wpAnyH_take (i := 2) (v := ?_) rfl (by kernel_rfl) (by kernel_rfl) (by kernel_rfl) (fun _ _ _ h => h) (Or.inl ⟨by rfl, ?_⟩) (by assumption) ?_
                  rotate_left
                  · intro w hSw
                    (try dsimp only at hSw)
                    first | (go_simp; done) | (go_simp; with_reducible rfl)
                  try simp only [List.getElem_toArray, List.getElem_cons_succ, List.getElem_cons_zero, Act.put, List.setIfInBounds_toArray, List.set_cons_zero, List.set_cons_succ]
                  refine wpAnyH_take (i := 3) (v := ?_) rfl (by kernel_rfl) (by kernel_rfl) (by kernel_rfl) (fun _ _ _ h => h) (Or.inl ⟨by rfl, ?_⟩) (by assumption) ?_
                  rotate_left
                  · intro w hSw
                    (try dsimp only at hSw)
                    first | (go_simp; done) | (go_simp; with_reducible rfl)
                  try simp only [List.getElem_toArray, List.getElem_cons_succ, List.getElem_cons_zero, Act.put, List.setIfInBounds_toArray, List.set_cons_zero, List.set_cons_succ]
                  refine wpAnyH_take (i := 4) (v := ?_) rfl (by kernel_rfl) (by kernel_rfl) (by kernel_rfl) (fun _ _ _ h => h) (Or.inl ⟨by rfl, ?_⟩) (by assumption) ?_
                  rotate_left
                  · intro w hSw
                    (try dsimp only at hSw)
                    first | (go_simp; done) | (go_simp; with_reducible rfl)
                  try simp only [List.getElem_toArray, List.getElem_cons_succ, List.getElem_cons_zero, Act.put, List.setIfInBounds_toArray, List.set_cons_zero, List.set_cons_succ]
                  refine wpAnyH_take (i := 5) (v := ?_) rfl (by kernel_rfl) (by kernel_rfl) (by kernel_rfl) (fun _ _ _ h => h) (Or.inl ⟨by rfl, ?_⟩) (by assumption) ?_
                  rotate_left
                  · intro w hSw
                    (try dsimp only at hSw)
                    first | (go_simp; done) | (go_simp; with_reducible rfl)
                  try simp only [List.getElem_toArray, List.getElem_cons_succ, List.getElem_cons_zero, Act.put, List.setIfInBounds_toArray, List.set_cons_zero, List.set_cons_succ]
                  refine wpAnyH_take (i := 6) (v := ?_) rfl (by kernel_rfl) (by kernel_rfl) (by kernel_rfl) (fun _ _ _ h => h) (Or.inl ⟨by rfl, ?_⟩) (by assumption) ?_
                  rotate_left
                  · intro w hSw
                    (try dsimp only at hSw)
                    first | (go_simp; done) | (go_simp; with_reducible rfl)
                  try simp only [List.getElem_toArray, List.getElem_cons_succ, List.getElem_cons_zero, Act.put, List.setIfInBounds_toArray, List.set_cons_zero, List.set_cons_succ]
                  refine wpAnyH_take (i := 7) (v := ?_) rfl (by kernel_rfl) (by kernel_rfl) (by kernel_rfl) (fun _ _ _ h => h) (Or.inl ⟨by rfl, ?_⟩) (by assumption) ?_
                  rotate_left
                  · intro w hSw
                    (try dsimp only at hSw)
                    first | (go_simp; done) | (go_simp; with_reducible rfl)
                  try simp only [List.getElem_toArray, List.getElem_cons_succ, List.getElem_cons_zero, Act.put, List.setIfInBounds_toArray, List.set_cons_zero, List.set_cons_succ]
                  refine wpAnyH_take (i := 8) (v := ?_) rfl (by kernel_rfl) (by kernel_rfl) (by kernel_rfl) (fun _ _ _ h => h) (Or.inl ⟨by rfl, ?_⟩) (by assumption) ?_
                  rotate_left
                  · intro w hSw
                    (try dsimp only at hSw)
                    first | (go_simp; done) | (go_simp; with_reducible rfl)
                  try simp only [List.getElem_toArray, List.getElem_cons_succ, List.getElem_cons_zero, Act.put, List.setIfInBounds_toArray, List.set_cons_zero, List.set_cons_succ]
                  refine wpAnyH_take (i := 10) (v := ?_) rfl (by kernel_rfl) (by kernel_rfl) (by kernel_rfl) (fun _ _ _ h => h) (Or.inl ⟨by rfl, ?_⟩) (by assumption) ?_
                  rotate_left
                  · intro w hSw
                    (try dsimp only at hSw)
                    first | (go_simp; done) | (go_simp; with_reducible rfl)
                  try simp only [List.getElem_toArray, List.getElem_cons_succ, List.getElem_cons_zero, Act.put, List.setIfInBounds_toArray, List.set_cons_zero, List.set_cons_succ]
                  refine wpAnyH_take (i := 11) (v := ?_) rfl (by kernel_rfl) (by kernel_rfl) (by kernel_rfl) (fun _ _ _ h => h) (Or.inl ⟨by rfl, ?_⟩) (by assumption) ?_
                  rotate_left
                  · intro w hSw
                    (try dsimp only at hSw)
                    first | (go_simp; done) | (go_simp; with_reducible rfl)
                  try simp only [List.getElem_toArray, List.getElem_cons_succ, List.getElem_cons_zero, Act.put, List.setIfInBounds_toArray, List.set_cons_zero, List.set_cons_succ]
                  refine wpAnyH_take (i := 12) (v := ?_) rfl (by kernel_rfl) (by kernel_rfl) (by kernel_rfl) (fun _ _ _ h => h) (Or.inl ⟨by rfl, ?_⟩) (by assumption) ?_
                  rotate_left
                  · intro w hSw
                    (try dsimp only at hSw)
                    first | (go_simp; done) | (go_simp; with_reducible rfl)
                  try simp only [List.getElem_toArray, List.getElem_cons_succ, List.getElem_cons_zero, Act.put, List.setIfInBounds_toArray, List.set_cons_zero, List.set_cons_succ]
                  refine wpAnyH_take (i := 13) (v := ?_) rfl (by kernel_rfl) (by kernel_rfl) (by kernel_rfl) (fun _ _ _ h => h) (Or.inl ⟨by rfl, ?_⟩) (by assumption) ?_
                  rotate_left
                  · intro w hSw
                    (try dsimp only at hSw)
                    first | (go_simp; done) | (go_simp; with_reducible rfl)
                  try simp only [List.getElem_toArray, List.getElem_cons_succ, List.getElem_cons_zero, Act.put, List.setIfInBounds_toArray, List.set_cons_zero, List.set_cons_succ]
                  refine wpAnyH_take (i := 14) (v := ?_) rfl (by kernel_rfl) (by kernel_rfl) (by kernel_rfl) (fun _ _ _ h => h) (Or.inl ⟨by rfl, ?_⟩) (by assumption) ?_
                  rotate_left
                  · intro w hSw
                    (try dsimp only at hSw)
                    first | (go_simp; done) | (go_simp; with_reducible rfl)
                  try simp only [List.getElem_toArray, List.getElem_cons_succ, List.getElem_cons_zero, Act.put, List.setIfInBounds_toArray, List.set_cons_zero, List.set_cons_succ]
                  refine wpAnyH_take (i := 15) (v := ?_) rfl (by kernel_rfl) (by kernel_rfl) (by kernel_rfl) (fun _ _ _ h => h) (Or.inl ⟨by rfl, ?_⟩) (by assumption) ?_
                  rotate_left
                  · intro w hSw
                    (try dsimp only at hSw)
                    first | (go_simp; done) | (go_simp; with_reducible rfl)
                  try simp only [List.getElem_toArray, List.getElem_cons_succ, List.getElem_cons_zero, Act.put, List.setIfInBounds_toArray, List.set_cons_zero, List.set_cons_succ]
                  refine wpAnyH_take (i := 16) (v := ?_) rfl (by kernel_rfl) (by kernel_rfl) (by kernel_rfl) (fun _ _ _ h => h) (Or.inl ⟨by rfl, ?_⟩) (by assumption) ?_
                  rotate_left
                  · intro w hSw
                    (try dsimp only at hSw)
                    first | (go_simp; done) | (go_simp; with_reducible rfl)
                  try simp only [List.getElem_toArray, List.getElem_cons_succ, List.getElem_cons_zero, Act.put, List.setIfInBounds_toArray, List.set_cons_zero, List.set_cons_succ]
                  refine wpAnyH_take (i := 17) (v := ?_) rfl (by kernel_rfl) (by kernel_rfl) (by kernel_rfl) (fun _ _ _ h => h) (Or.inl ⟨by rfl, ?_⟩) (by assumption) ?_
                  rotate_left
                  · intro w hSw
                    (try dsimp only at hSw)
                    first | (go_simp; done) | (go_simp; with_reducible rfl)
                  try simp only [List.getElem_toArray, List.getElem_cons_succ, List.getElem_cons_zero, Act.put, List.setIfInBounds_toArray, List.set_cons_zero, List.set_cons_succ]
                  refine wpAnyH_ready (rs := [9]) (by kernel_rfl) (by simp) ?_
                  refine AllReadyH.cons rfl (fun K hK => ?_) AllReadyH.nil
                  go_simp
                  (go_at_call 23; refine CDO.mono ?_; rintro e w6 ⟨⟨ra, rc, rfl, hrd6⟩, hom6⟩; have hS6 := HSX.out w6 hom6.bel (HB2.out.trans (hom6.bel.mono hz3)); have hDK6 := RdK.pks (HDK3.out.2.below hom6.bel); have HRD6 := Lib.hid hrd6; have HOM6 := Lib.hid hom6; clear hrd6 hom6)
                  refine hK.out _ _ ?_ (fun hHeld => ?_)
                  · first | with_reducible exact hS7 | with_reducible exact hS6
                  clear hK K
                  try simp only [List.getElem_toArray, List.getElem_cons_succ, List.getElem_cons_zero, Act.put, List.setIfInBounds_toArray, List.set_cons_zero, List.set_cons_succ]
                  refine wpAnyH_ready (rs := [18]) (by kernel_rfl) (by simp) ?_
                  refine AllReadyH.cons rfl (fun K hK => ?_) AllReadyH.nil
                  go_simp
                  (go_at_call 41; refine (helpRetG_any rx.e rx.n rx.v d.e d.n d.v ra d.ao rx.ps.length rc d.len d.cap rx.ps (pkL d.l) _ HRD6.out hDK6.1 rfl hDK6.2).mono ?_; rintro e w7 ⟨rfl, hb7⟩; have HOM7 := Lib.hid (HOM6.out.below hb7); have hS7 := HSX.out w7 HOM7.out.bel (HB2.out.trans (HOM7.out.bel.mono hz3)); clear hb7)
                  refine hK.out _ _ ?_ (fun hHeld => ?_)
                  · first | with_reducible exact hS7 | with_reducible exact hS6
                  clear hK K
                  try simp only [List.getElem_toArray, List.getElem_cons_succ, List.getElem_cons_zero, Act.put, List.setIfInBounds_toArray, List.set_cons_zero, List.set_cons_succ]
                  refine wpAnyH_take (i := 19) (v := ?_) rfl (by kernel_rfl) (by kernel_rfl) (by kernel_rfl) (fun _ _ _ h => h) (Or.inl ⟨by rfl, ?_⟩) (by assumption) ?_
                  rotate_left
                  · intro w hSw
                    (try dsimp only at hSw)
                    first | (go_simp; done) | (go_simp; with_reducible rfl)
                  try simp only [List.getElem_toArray, List.getElem_cons_succ, List.getElem_cons_zero, Act.put, List.setIfInBounds_toArray, List.set_cons_zero, List.set_cons_succ]
                  refine wpAnyH_done (by kernel_rfl) ?_ _
                  generalize hX : retEq rx.e rx.n rx.v d.e d.n d.v rx.ps (pkL d.l) = X at *
                  have hXB : retB rx d = X := hX
                  rw [hXB] at HSTEP
                  clear hX hXB hHeld hS0 hS6 hS7 CDO
                  cases X with
                  | false =>
                    have E2 : Hid (FB = false) := Lib.hid (by rw [E.out]; exact HNRUN.out (by rw [HSTEP.out]; rfl))
                    go_wp2
                    go_ret
                    exact ⟨by rw [E2.out]; rfl, HB2.out.trans (HOM7.out.bel.mono hz3)⟩
                  | true =>
                    go_wp2
                    go_roundw
                    case rel => exact ⟨i + 1, mx, by omega, by go_num, by rw [HNEXT.out, HSTEP.out]; rfl, HOM7.out, HGY.out, fun a ha => by
                      by_cases haj : a = i
                      · subst haj; rw [HZ.out]; omega
                      · exact HIN.out a (by omega), fun a b h1 h2 => by
                      by_cases hbj : b = i
                      · subst hbj; rw [HZ.out]; exact (HPJ.out a h1).1
                      · exact HNE.out a b h1 (by omega), fun a b h1 h2 => by
                      by_cases hbj : b = i
                      · subst hbj; rw [HZ.out]; exact (HPJ.out a h1).2
                      · exact HPR.out a b h1 (by omega)⟩
                    case measure => simp [intOf]; omega
        · obtain rfl : i = on := by omega
          have i1 : (i : Int) ≤ (i : Int) := by omega
          have E2 : Hid (FB = true) := Lib.hid (by
            rw [E.out]
            have hT : o.take i = o := List.take_of_length_le (by rw [HOL.out]; exact Nat.le_refl _)
            have hr := HRUN.out
            rw [hT] at hr
            exact fit_yes HOL.out HIN.out HNE.out HPR.out hr)
          go_wp2
          go_ret
          exact ⟨by rw [E2.out]; rfl, HBW.out⟩
    · have e1 : ((on : Int) != (N : Int)) = true := by simp; omega
      have E2 : Hid (FB = false) := Lib.hid (by rw [E.out]; exact fit_no_len (by rw [HOL.out]; exact hlen))
      clear hlen
      go_wp2
      go_ret
      exact ⟨by rw [E2.out]; rfl, HB2.out⟩
end Go.Proofs.YtdjooacjjnjfmaaGreat
end
