/- Several texts in one: RefS RefS2 MadeP MadeQ MadeN. -/
import Derived.Test.YtdjooacjjnjfmaaGreatGw
import Derived.Test.YtdjooacjjnjfmaaGreatGx
import Derived.Test.YtdjooacjjnjfmaaGreatGy
import Derived.Test.YtdjooacjjnjfmaaGreatGs
import Derived.Test.YtdjooacjjnjfmaaGreatGo
-- The reference's search, with so many steps at most.
section
namespace Go.Proofs.YtdjooacjjnjfmaaGreat
set_option linter.unusedVariables false
set_option linter.unusedSimpArgs false
set_option maxRecDepth 20000
open Go.RowKit Go.Proofs.YtdjooacjjnjfmaaGreatMem Go.Proofs.YtdjooacjjnjfmaaGreatMapK Go.Proofs.YtdjooacjjnjfmaaGreatLin H

theorem contains_toI (ord : List Nat) (k : Nat) : (toI ord).contains (k : Int) = decide (k ∈ ord) := by
  by_cases h : k ∈ ord
  · rw [decide_eq_true h, List.contains_iff_mem]
    exact List.mem_map.2 ⟨k, h, rfl⟩
  · rw [decide_eq_false h, ← Bool.not_eq_true, List.contains_iff_mem]
    intro hm
    obtain ⟨j, hj, e⟩ := List.mem_map.1 hm
    have : j = k := by omega
    exact h (this ▸ hj)
theorem RdI.frB {w w' : World} {ao : Option Addr} {n cap lb : Nat} {zs : List Int} (h : RdI w ao n cap zs) (hf : Fr (fun i => i = lb) w w') (hne : ∀ a, ao = some a → a.block ≠ lb) : RdI w' ao n cap zs :=
  ⟨h.len, h.le, h.nil, h.small, h.fits, fun k hk => let ⟨b, off, e, hlt, hc⟩ := h.at_ k hk; ⟨b, off, e, Nat.lt_of_lt_of_le hlt hf.size, (hf.cell hlt fun hb => hne _ e hb).trans hc⟩⟩
/-- What the reference's search leaves. -/
def RsPost (n : Nat) (bef : Nat → Nat → Bool) (c : Cfg) (l : List DoneS) (lb : Nat) (q : Int) (ord : List Nat) (w : World) (o : Option (List Nat)) (e : Ending) (w' : World) : Prop :=
  ∃ q' : Int, 0 ≤ q' ∧ q' ≤ q ∧ Blk w' lb [.int .i64 q'] 3 ∧ Fr (fun i => i = lb) w w' ∧
    ((∃ rest oa oc, o = some rest ∧ e = .returned (.tuple #[.slice oa n oc, .bool true]) ∧ RdI w' oa n oc (toI (ord ++ rest))) ∨ (e = .returned (.tuple #[.slice none 0 0, .bool false]) ∧ (1 ≤ q' → o = none)))
theorem rdI_toI {w : World} {base : Nat} {e : TypeId} {oa : Option Addr} {n oc : Nat} {ord : List Nat} (h : w.ownsRow base e 1 (.slice oa n oc) n (ints (toI ord))) (hb : ∀ k ∈ ord, k < 1000) : RdI w oa n oc (toI ord) :=
  owns_rdI h fun z hz => by
    obtain ⟨k, hk, rfl⟩ := List.mem_map.1 hz
    have := hb k hk
    unfold I64
    omega
theorem RdI.news {w : World} {ao : Option Addr} {n cap : Nat} {zs : List Int} (h : RdI w ao n cap zs) : ∀ j u, (ints zs)[j]? = some u → ∃ b off, ao = some ⟨b, off, none⟩ ∧ w.cell? ⟨b, off + j, none⟩ = some u := by
  intro j u hu
  have hj : j < zs.length := by rw [← ints_length]; exact (List.getElem?_eq_some_iff.1 hu).1
  obtain ⟨b, off, e, hlt, hc⟩ := h.at_ j (by rw [← h.len]; exact hj)
  refine ⟨b, off, e, hc.trans ?_⟩
  rw [← hu, nth_eq hj]; simp [ints, hj]
theorem ints_one (zs : List Int) : ∀ u ∈ ints zs, u.oneCell' = true := by
  intro u hu
  simp only [ints, List.mem_map] at hu
  obtain ⟨z, _, rfl⟩ := hu
  rfl
set_option maxHeartbeats 8000000 in
theorem refFrom_any (c : Cfg) (hc : CfgR c) (l : List DoneS) (w0 : World) (ao : Option Addr) (n cap lb : Nat) (hn : n ≤ 12) (h : RdD w0 ao n cap l) (hlb : w0.heap.size ≤ lb) :
    ∀ (r : Nat) (ord : List Nat) (m y : MdS) (x : Nat) (G : Nat → Prop) (w : World) (q : Int) (oa : Option Addr) (oc : Nat), ord.length + r = n → ord.Nodup → (∀ k ∈ ord, k < n) → m.Good ord.length → MSim m y →
      Below w0.heap.size w0 w → RdI w oa ord.length oc (toI ord) → (∀ a, oa = some a → a.block ≠ lb) → Blk w lb [.int .i64 q] 3 → 0 ≤ q → q ≤ 1000000 → RmAt w x c y.s y.served G → ¬ G lb →
      Calls Tryz.prog 43 #[.slice ao n cap, .pointer (some ⟨x, 0, none⟩), .slice oa ord.length oc, .slice (some ⟨lb, 0, none⟩) 1 1] w (RsPost n (befB l) c l lb q ord w (fnd n (befB l) (stepD c l) r ord m)) := by
  intro r
  induction r with
  | zero =>
    intro ord m y x G w q oa oc hr ho1 ho2 hg hs hb hoa hne hq hq0 hq1 hmd hG
    have hrn : ord.length = n := by omega
    have e1 : ((ord.length : Int) == (n : Int)) = true := by simp [hrn]
    have HQ := Lib.hid hq
    have HOA := Lib.hid hoa
    have HRN := Lib.hid hrn
    clear hq hoa hrn hmd hb h
    generalize hN : ord.length = N at *
    have HN := Lib.hid hN
    clear hN
    go_enter Tryz.func43, Tryz.ntmps43
    go_wp2
    go_ret2
    refine ⟨q, hq0, Int.le_refl _, HQ.out, Fr.refl _ _, .inl ⟨[], oa, oc, rfl, ?_, ?_⟩⟩
    · rw [← HRN.out]; rfl
    · rw [List.append_nil, ← HRN.out]; exact HOA.out
  | succ r ih =>
  intro ord m y x G w q oa oc hr ho1 ho2 hg hs hb hoa hne hq hq0 hq1 hmd hG
  have e1 : ((ord.length : Int) == (n : Int)) = false := by simp; omega
  have HR := Lib.hid hr
  have HO1 := Lib.hid ho1
  have HO2 := Lib.hid ho2
  have HG := Lib.hid hg
  have HS := Lib.hid hs
  have HB := Lib.hid hb
  have HOA := Lib.hid hoa
  have HNE := Lib.hid hne
  have HMD := Lib.hid hmd
  have HGL := Lib.hid hG
  have IH := Lib.hid ih
  have HRD := Lib.hid (fun w' (hb : Below w0.heap.size w0 w') => h.below hb)
  have H0 := Lib.hid h
  have hlbw := hq.lt
  have hz0 := hb.size
  clear ih hr ho1 ho2 hg hs hb hoa hne hmd hG h
  generalize hN : ord.length = N at *
  have HN := Lib.hid hN
  clear hN
  go_enter Tryz.func43, Tryz.ntmps43
  go_wp2_with fail
  go_loopw [10] (fun v10 wr => ∃ (i : Nat) (qi : Int), i ≤ n ∧ v10 = .int .i64 i ∧ 0 ≤ qi ∧ qi ≤ q ∧ Blk wr lb [.int .i64 qi] 3 ∧ Fr (fun k => k = lb) w wr ∧ (1 ≤ qi → ∀ j, j < i → tri n (befB l) (stepD c l) r ord m j = none)) (fun v10 _ => n - (intOf v10).toNat)
  case atStart => exact ⟨0, q, Nat.zero_le _, rfl, hq0, Int.le_refl _, hq, Fr.refl _ _, fun _ j hj => absurd hj (Nat.not_lt_zero _)⟩
  case round =>
    obtain ⟨i, qi, hi, rfl, hqi0, hqi, hqb, hfr, htri⟩ := hrel
    have HQB := Lib.hid hqb
    have HFR := Lib.hid hfr
    have HT := Lib.hid htri
    have hszr := hfr.size
    have HBR := Lib.hid (HB.out.trans (hfr.below (B := w0.heap.size) (fun k e => by rw [e]; exact hlb) hz0))
    have HOR := Lib.hid (RdI.frB HOA.out hfr HNE.out)
    have HMR := Lib.hid (HMD.out.fr hfr fun k hk e => HGL.out (e ▸ hk))
    clear hqb hfr htri
    by_cases hl : i < n
    · have i1 : (i : Int) < (n : Int) := by omega
      have CT := fun (z : Int) w' (hb : Below wr.heap.size wr w') => taken_any oa N oc (toI ord) z w' (RdI.below (B := 0) HOR.out hb)
      have CT1 := CT i wr (Below.refl _ _)
      rw [contains_toI] at CT1
      generalize wr = w5 at *
      go_wp2_with fail
      refine CT1.mono ?_
      rintro e w6 ⟨rfl, rfl⟩
      clear CT1
      have HMEM : Hid (decide (i ∈ ord) = true → rdy n (befB l) ord i = false) := Lib.hid fun h => rdy_false1 (of_decide_eq_true h)
      have HMEM2 : Hid (decide (i ∈ ord) = false → i ∉ ord) := Lib.hid fun h => of_decide_eq_false h
      generalize decide (i ∈ ord) = TK at *
      go_wp2_with fail
      go_loopw [11, 12] (fun v11 v12 wx => ∃ (j : Nat) (B : Bool), j ≤ n ∧ v12 = .int .i64 j ∧ v11 = .bool B ∧ Below w5.heap.size w5 wx ∧ ((B = true ∧ i ∉ ord ∧ ∀ a, a < j → a ∉ ord → a ≠ i → befB l a i = false) ∨ (B = false ∧ rdy n (befB l) ord i = false))) (fun _ v12 _ => n - (intOf v12).toNat)
      case atStart =>
        refine ⟨0, !TK, Nat.zero_le _, rfl, rfl, Below.refl _ _, ?_⟩
        cases TK with
        | true => exact .inr ⟨rfl, HMEM.out rfl⟩
        | false => exact .inl ⟨rfl, HMEM2.out rfl, fun a ha => absurd ha (Nat.not_lt_zero _)⟩
      case round =>
        obtain ⟨j, B, hj, rfl, rfl, hbj, hB⟩ := hrel
        have HBJ := Lib.hid hbj
        have HBB := Lib.hid hB
        clear hbj hB
        cases B with
        | false =>
          have hrf : rdy n (befB l) ord i = false := by
            rcases HBB.out with ⟨h1, _⟩ | ⟨_, h1⟩
            · cases h1
            · exact h1
          have HTK := Lib.hid (tri_rdy (step := stepD c l) (r := r) (m := m) hrf)
          clear hrf
          have HFIN : Hid (∃ (i' : Nat) (qi' : Int), i' ≤ n ∧ Value.int .i64 ((i : Int) + 1) = .int .i64 i' ∧ 0 ≤ qi' ∧ qi' ≤ q ∧ Blk wr lb [.int .i64 qi'] 3 ∧ Fr (fun k => k = lb) w wr ∧ (1 ≤ qi' → ∀ j, j < i' → tri n (befB l) (stepD c l) r ord m j = none)) := Lib.hid ⟨i + 1, qi, by omega, by go_num, hqi0, hqi, HQB.out.below HBJ.out, HFR.out.then_below HBJ.out, fun hq1 j hj => by
            by_cases hji : j = i
            · subst hji; exact HTK.out
            · exact HT.out hq1 j (by omega)⟩
          by_cases hjl : j < n
          · have j1 : (j : Int) < (n : Int) := by omega
            go_wp2
            go_roundw
            case rel => exact HFIN.out
            case measure => simp [intOf]; omega
          · have j1 : ¬ (j : Int) < (n : Int) := by omega
            go_wp2
            go_roundw
            case rel => exact HFIN.out
            case measure => simp [intOf]; omega
        | true =>
          have hbt : i ∉ ord ∧ ∀ a, a < j → a ∉ ord → a ≠ i → befB l a i = false := by
            rcases HBB.out with ⟨_, h1⟩ | ⟨h1, _⟩
            · exact h1
            · cases h1
          have HBT := Lib.hid hbt
          clear hbt HBB
          by_cases hjl : j < n
          · have j1 : (j : Int) < (n : Int) := by omega
            by_cases hji : j = i
            · have e2 : ((j : Int) == (i : Int)) = true := by simp [hji]
              have HJI := Lib.hid hji
              clear hji
              go_wp2
              go_roundw
              case rel => exact ⟨j + 1, true, by omega, by go_num, rfl, HBJ.out, .inl ⟨rfl, HBT.out.1, fun a h1 h2 h3 => by
                by_cases haj : a = j
                · subst haj; exact absurd HJI.out h3
                · exact HBT.out.2 a (by omega) h2 h3⟩⟩
              case measure => simp [intOf]; omega
            · have e2 : ((j : Int) == (i : Int)) = false := by simp; omega
              have HJI := Lib.hid hji
              clear hji
              have CT2 := CT j wr HBJ.out
              rw [contains_toI] at CT2
              by_cases hjo : j ∈ ord
              · rw [decide_eq_true hjo] at CT2
                have HJO := Lib.hid hjo
                clear hjo
                go_wp2_with fail
                refine CT2.mono ?_
                rintro e w7 ⟨rfl, rfl⟩
                clear CT2
                go_wp2
                go_roundw
                case rel => exact ⟨j + 1, true, by omega, by go_num, rfl, HBJ.out, .inl ⟨rfl, HBT.out.1, fun a h1 h2 h3 => by
                  by_cases haj : a = j
                  · subst haj; exact absurd HJO.out h2
                  · exact HBT.out.2 a (by omega) h2 h3⟩⟩
                case measure => simp [intOf]; omega
              · rw [decide_eq_false hjo] at CT2
                have HJO := Lib.hid hjo
                clear hjo
                have CF := refFirst_any ao n cap l j i hjl hl wr (HRD.out wr (HBR.out.trans (HBJ.out.mono HBR.out.size)))
                have HRF : Hid (befB l j i = true → rdy n (befB l) ord i = false) := Lib.hid fun hh => rdy_false2 hjl HJO.out HJI.out hh
                generalize hbb : befB l j i = BB at *
                have HBB2 := Lib.hid hbb
                clear hbb
                go_wp2_with fail
                refine CT2.mono ?_
                rintro e w7 ⟨rfl, rfl⟩
                clear CT2
                go_wp2_with fail
                refine CF.mono ?_
                rintro e w8 ⟨rfl, hb8⟩
                have HB8 := Lib.hid (HBJ.out.trans (hb8.mono HBJ.out.size))
                clear CF hb8
                cases BB with
                | true =>
                  go_wp2
                  go_roundw
                  case rel => exact ⟨j + 1, false, by omega, by go_num, rfl, HB8.out, .inr ⟨by first | rfl | trivial, HRF.out (by first | rfl | trivial)⟩⟩
                  case measure => simp [intOf]; omega
                | false =>
                  go_wp2
                  go_roundw
                  case rel => exact ⟨j + 1, true, by omega, by go_num, rfl, HB8.out, .inl ⟨rfl, HBT.out.1, fun a h1 h2 h3 => by
                    by_cases haj : a = j
                    · subst haj; exact HBB2.out
                    · exact HBT.out.2 a (by omega) h2 h3⟩⟩
                  case measure => simp [intOf]; omega
          · obtain rfl : j = n := by omega
            have j1 : ¬ (j : Int) < (j : Int) := by omega
            have HRDY : Hid (rdy j (befB l) ord i = true) := Lib.hid (rdy_iff.2 ⟨HBT.out.1, HBT.out.2⟩)
            have hqx : wr.cell? ⟨lb, 0, none⟩ = some (.int .i64 qi) := (HQB.out.below HBJ.out).cell 0
            have hql := (HQB.out.below HBJ.out).lt
            clear HBT CT
            by_cases hq1 : qi < 1
            · have HFIN : Hid (∃ (i' : Nat) (qi' : Int), i' ≤ j ∧ Value.int .i64 ((i : Int) + 1) = .int .i64 i' ∧ 0 ≤ qi' ∧ qi' ≤ q ∧ Blk wr lb [.int .i64 qi'] 3 ∧ Fr (fun k => k = lb) w wr ∧ (1 ≤ qi' → ∀ j', j' < i' → tri j (befB l) (stepD c l) r ord m j' = none)) := Lib.hid ⟨i + 1, qi, by omega, by go_num, hqi0, hqi, HQB.out.below HBJ.out, HFR.out.then_below HBJ.out, fun h1 => by omega⟩
              go_wp2
              go_roundw
              case rel => exact HFIN.out
              case measure => simp [intOf]; omega
            · have hqn : ¬ qi < 1 := hq1
              have hfz := (HQB.out.below HBJ.out).frozen 0
              have eq1 : Value.int .i64 (IntKind.i64.wrap (qi - 1)) = .int .i64 (qi - 1) := by rw [IntWalk.i64_left, IntWalk.wrap64_in _ (by omega)]
              have HQS : Hid (Blk (wr.setCell ⟨lb, 0, none⟩ (.int .i64 (qi - 1))) lb [.int .i64 (qi - 1)] 3) := Lib.hid ((HQB.out.below HBJ.out).set 0 _)
              have HFS : Hid (Fr (fun k => k = lb) wr (wr.setCell ⟨lb, 0, none⟩ (.int .i64 (qi - 1)))) := Lib.hid (Fr.setCell (S := fun k => k = lb) (Fr.refl _ _) (a := ⟨lb, 0, none⟩) (.inl rfl) _)
              go_upto_region 13 with fail
              generalize wr.setCell ⟨lb, 0, none⟩ (.int .i64 (qi - 1)) = w9 at *
              have HM9 := (HMR.out.below HBJ.out).fr HFS.out fun k hk e => HGL.out (e ▸ hk)
              have HOR9 := Lib.hid (RdI.frB (RdI.below (B := 0) HOR.out HBJ.out) HFS.out HNE.out)
              have HFR9 := Lib.hid ((HFR.out.then_below HBJ.out).trans HFS.out fun k _ h => h)
              have hz5 := HBJ.out.size
              have hz9 := HFS.out.size
              have hq9 := HFR9.out.size
              have HB9 := Lib.hid (HB.out.trans (HFR9.out.below (B := w0.heap.size) (fun k e => by rw [e]; exact hlb) hz0))
              clear hqx hql hfz eq1
              go_wp2_with fail
              refine (copyRM_any x c y.s y.served G w9 HM9 (by have := (HS.out.good HG.out).ok.len; have := HR.out; omega)).mono ?_
              rintro e w10 ⟨xb, rfl, hcp, hb10⟩
              have hz10 := hb10.size
              have HB10 := Lib.hid (HB9.out.trans (hb10.mono (by omega)))
              have HB910 := Lib.hid hb10
              have HCP := Lib.hid (hcp.below (Below.refl w10.heap.size w10).drew)
              clear hcp hb10 HM9
              obtain ⟨pb, po, rfl, hplt, hpc⟩ := H0.out.cells hl
              have HSX : Hid (∀ w', Below w0.heap.size w0 w' → w'.cell? ⟨pb, po + i * 12 + 2, none⟩ = some (.int .i64 (nthD l i).op) ∧ w'.cell? ⟨pb, po + i * 12 + 3, none⟩ = some (.int .i64 (nthD l i).fl) ∧ w'.cell? ⟨pb, po + i * 12 + 4, none⟩ = some (.int .i64 (nthD l i).a) ∧ w'.cell? ⟨pb, po + i * 12 + 5, none⟩ = some (.int .i64 (nthD l i).b) ∧ w'.cell? ⟨pb, po + i * 12 + 6, none⟩ = some (.int .i64 (nthD l i).e) ∧ w'.cell? ⟨pb, po + i * 12 + 7, none⟩ = some (.slice (nthD l i).ao (nthD l i).len (nthD l i).cap) ∧ w'.cell? ⟨pb, po + i * 12 + 8, none⟩ = some (.int .i64 (nthD l i).n) ∧ w'.cell? ⟨pb, po + i * 12 + 9, none⟩ = some (.int .u64 (nthD l i).v)) := Lib.hid fun w' hb => by
                obtain ⟨-, -, x2, x3, x4, x5, x6, x7, x8, x9, -, -⟩ := RdD.at12 (ao := none) (n := 0) (cap := 0) hpc hb
                exact ⟨x2, x3, x4, x5, x6, x7, x8, x9⟩
              have HDK := Lib.hid (H0.out.nth hl)
              have HSTEP := Lib.hid (stepD_eqR c l m i)
              have HTF := Lib.hid (fun xx => tri_fnd (n := j) (bef := befB l) (step := stepD c l) (r := r) (ord := ord) (m := m) (x := xx) (k := i) HRDY.out)
              clear hpc
              generalize nthD l i = d at *
              have CDO := doR_any xb c y (fun k => w9.heap.size ≤ k ∧ k < w10.heap.size) (callD d) w10.drew HCP.out ((HS.out.good HG.out).bat (by have := HR.out; omega)) (callD_ok HDK.out.1) hc.unit hc.shards
              have hcd : callD d = ⟨d.op, d.fl, d.a, d.b⟩ := rfl
              obtain ⟨sm1, sm2⟩ := HS.out.doo c (callD d)
              rw [← sm2] at CDO
              rw [hcd] at CDO HSTEP sm1
              have HGY : Hid ((m.doo c ⟨d.op, d.fl, d.a, d.b⟩).1.Good (N + 1)) := Lib.hid (HG.out.doo hc.ok.unit (callD_ok HDK.out.1))
              have HSM := Lib.hid sm1
              clear sm1 sm2
              generalize (m.doo c ⟨d.op, d.fl, d.a, d.b⟩).1 = mx at *
              generalize (m.doo c ⟨d.op, d.fl, d.a, d.b⟩).2 = rx at *
              generalize (y.dooR c ⟨d.op, d.fl, d.a, d.b⟩).1 = yx at *
              have hS0 := HSX.out w10.drew (HB10.out.drew)
              go_wp2_with fail
              refine wp_region_held_drew (S := (fun w' => w'.cell? ⟨pb, po + i * 12 + 2, none⟩ = some (.int .i64 d.op) ∧ w'.cell? ⟨pb, po + i * 12 + 3, none⟩ = some (.int .i64 d.fl) ∧ w'.cell? ⟨pb, po + i * 12 + 4, none⟩ = some (.int .i64 d.a) ∧ w'.cell? ⟨pb, po + i * 12 + 5, none⟩ = some (.int .i64 d.b) ∧ w'.cell? ⟨pb, po + i * 12 + 6, none⟩ = some (.int .i64 d.e) ∧ w'.cell? ⟨pb, po + i * 12 + 7, none⟩ = some (.slice d.ao d.len d.cap) ∧ w'.cell? ⟨pb, po + i * 12 + 8, none⟩ = some (.int .i64 d.n) ∧ w'.cell? ⟨pb, po + i * 12 + 9, none⟩ = some (.int .u64 d.v))) (by kernel_rfl) ?_ (fun hHeld => ?_)
              · exact hS0
              refine wpAnyH_take (i := 0) (v := ?_) rfl (by kernel_rfl) (by kernel_rfl) (by kernel_rfl) (fun _ _ _ h => h) (Or.inl ⟨by rfl, ?_⟩) (by assumption) ?_
              rotate_left
              · intro w hSw
                (try dsimp only at hSw)
                first | (go_simp; done) | (go_simp; with_reducible rfl)
              try simp only [List.getElem_toArray, List.getElem_cons_succ, List.getElem_cons_zero, Act.put, List.setIfInBounds_toArray, List.set_cons_zero, List.set_cons_succ]
              refine wpAnyH_take (i := 1) (v := ?_) rfl (by kernel_rfl) (by kernel_rfl) (by kernel_rfl) (fun _ _ _ h => h) (Or.inl ⟨by rfl, ?_⟩) (by assumption) ?_
              rotate_left
              · intro w hSw
                (try dsimp only at hSw)
                first | (go_simp; done) | (go_simp; with_reducible rfl)
              try simp only [List.getElem_toArray, List.getElem_cons_succ, List.getElem_cons_zero, Act.put, List.setIfInBounds_toArray, List.set_cons_zero, List.set_cons_succ]
              refine wpAnyH_take (i := 2) (v := ?_) rfl (by kernel_rfl) (by kernel_rfl) (by kernel_rfl) (fun _ _ _ h => h) (Or.inl ⟨by rfl, ?_⟩) (by assumption) ?_
              rotate_left
              · intro w hSw
                (try dsimp only at hSw)
                first | (go_simp; done) | (go_simp; with_reducible rfl)
              try simp only [List.getElem_toArray, List.getElem_cons_succ, List.getElem_cons_zero, Act.put, List.setIfInBounds_toArray, List.set_cons_zero, List.set_cons_succ]
              refine wpAnyH_take (i := 3) (v := ?_) rfl (by kernel_rfl) (by kernel_rfl) (by kernel_rfl) (fun _ _ _ h => h) (Or.inl ⟨by rfl, ?_⟩) (by assumption) ?_
              rotate_left
              · intro w hSw
                (try dsimp only at hSw)
                first | (go_simp; done) | (go_simp; with_reducible rfl)
              try simp only [List.getElem_toArray, List.getElem_cons_succ, List.getElem_cons_zero, Act.put, List.setIfInBounds_toArray, List.set_cons_zero, List.set_cons_succ]
              refine wpAnyH_take (i := 4) (v := ?_) rfl (by kernel_rfl) (by kernel_rfl) (by kernel_rfl) (fun _ _ _ h => h) (Or.inl ⟨by rfl, ?_⟩) (by assumption) ?_
              rotate_left
              · intro w hSw
                (try dsimp only at hSw)
                first | (go_simp; done) | (go_simp; with_reducible rfl)
              try simp only [List.getElem_toArray, List.getElem_cons_succ, List.getElem_cons_zero, Act.put, List.setIfInBounds_toArray, List.set_cons_zero, List.set_cons_succ]
              refine wpAnyH_take (i := 5) (v := ?_) rfl (by kernel_rfl) (by kernel_rfl) (by kernel_rfl) (fun _ _ _ h => h) (Or.inl ⟨by rfl, ?_⟩) (by assumption) ?_
              rotate_left
              · intro w hSw
                (try dsimp only at hSw)
                first | (go_simp; done) | (go_simp; with_reducible rfl)
              try simp only [List.getElem_toArray, List.getElem_cons_succ, List.getElem_cons_zero, Act.put, List.setIfInBounds_toArray, List.set_cons_zero, List.set_cons_succ]
              refine wpAnyH_take (i := 7) (v := ?_) rfl (by kernel_rfl) (by kernel_rfl) (by kernel_rfl) (fun _ _ _ h => h) (Or.inl ⟨by rfl, ?_⟩) (by assumption) ?_
              rotate_left
              · intro w hSw
                (try dsimp only at hSw)
                first | (go_simp; done) | (go_simp; with_reducible rfl)
              try simp only [List.getElem_toArray, List.getElem_cons_succ, List.getElem_cons_zero, Act.put, List.setIfInBounds_toArray, List.set_cons_zero, List.set_cons_succ]
              refine wpAnyH_take (i := 8) (v := ?_) rfl (by kernel_rfl) (by kernel_rfl) (by kernel_rfl) (fun _ _ _ h => h) (Or.inl ⟨by rfl, ?_⟩) (by assumption) ?_
              rotate_left
              · intro w hSw
                (try dsimp only at hSw)
                first | (go_simp; done) | (go_simp; with_reducible rfl)
              try simp only [List.getElem_toArray, List.getElem_cons_succ, List.getElem_cons_zero, Act.put, List.setIfInBounds_toArray, List.set_cons_zero, List.set_cons_succ]
              refine wpAnyH_take (i := 9) (v := ?_) rfl (by kernel_rfl) (by kernel_rfl) (by kernel_rfl) (fun _ _ _ h => h) (Or.inl ⟨by rfl, ?_⟩) (by assumption) ?_
              rotate_left
              · intro w hSw
                (try dsimp only at hSw)
                first | (go_simp; done) | (go_simp; with_reducible rfl)
              try simp only [List.getElem_toArray, List.getElem_cons_succ, List.getElem_cons_zero, Act.put, List.setIfInBounds_toArray, List.set_cons_zero, List.set_cons_succ]
              refine wpAnyH_take (i := 10) (v := ?_) rfl (by kernel_rfl) (by kernel_rfl) (by kernel_rfl) (fun _ _ _ h => h) (Or.inl ⟨by rfl, ?_⟩) (by assumption) ?_
              rotate_left
              · intro w hSw
                (try dsimp only at hSw)
                first | (go_simp; done) | (go_simp; with_reducible rfl)
              try simp only [List.getElem_toArray, List.getElem_cons_succ, List.getElem_cons_zero, Act.put, List.setIfInBounds_toArray, List.set_cons_zero, List.set_cons_succ]
              refine wpAnyH_take (i := 11) (v := ?_) rfl (by kernel_rfl) (by kernel_rfl) (by kernel_rfl) (fun _ _ _ h => h) (Or.inl ⟨by rfl, ?_⟩) (by assumption) ?_
              rotate_left
              · intro w hSw
                (try dsimp only at hSw)
                first | (go_simp; done) | (go_simp; with_reducible rfl)
              try simp only [List.getElem_toArray, List.getElem_cons_succ, List.getElem_cons_zero, Act.put, List.setIfInBounds_toArray, List.set_cons_zero, List.set_cons_succ]
              refine wpAnyH_ready (rs := [6]) (by kernel_rfl) (by simp) ?_
              refine AllReadyH.cons rfl (fun K hK => ?_) AllReadyH.nil
              go_simp
              (go_at_call 23; refine CDO.mono ?_; rintro e w11 ⟨ra, rc, G', rfl, row, n3, md, hG', f⟩; have hz11 := f.size; have HB11 := Lib.hid (HB10.out.drew.trans (f.below (B := w0.heap.size) (fun k hk => by omega) (show w0.heap.size ≤ w10.heap.size by omega))); have HB911 := Lib.hid (HB910.out.drew.trans (f.below (B := w9.heap.size) (fun k hk => hk.1) (show w9.heap.size ≤ w10.heap.size by omega))); have hS6 := HSX.out w11 HB11.out; have hDK6 := RdK.pks (HDK.out.2.below HB11.out); have HRD6 := Lib.hid (owns_rdS row (pks_one _)); have HMD6 := Lib.hid md; have HHG := Lib.hid hG'; clear row n3 md hG' f)
              refine hK.out _ _ ?_ (fun hHeld => ?_)
              · first | with_reducible exact hS7 | with_reducible exact hS6
              clear hK K
              try simp only [List.getElem_toArray, List.getElem_cons_succ, List.getElem_cons_zero, Act.put, List.setIfInBounds_toArray, List.set_cons_zero, List.set_cons_succ]
              refine wpAnyH_ready (rs := [12]) (by kernel_rfl) (by simp) ?_
              refine AllReadyH.cons rfl (fun K hK => ?_) AllReadyH.nil
              go_simp
              (go_at_call 41; refine (helpRetG_any rx.e rx.n rx.v d.e d.n d.v ra d.ao rx.ps.length rc d.len d.cap rx.ps (pkL d.l) _ HRD6.out hDK6.1 rfl hDK6.2).mono ?_; rintro e w12 ⟨rfl, hb12⟩; have hz12 := hb12.size; have HB12 := Lib.hid (HB11.out.trans (hb12.mono HB11.out.size)); have HB912 := Lib.hid (HB911.out.trans (hb12.mono HB911.out.size)); have HMD7 := Lib.hid (HMD6.out.below hb12); have hS7 := HSX.out w12 HB12.out; clear hb12)
              refine hK.out _ _ ?_ (fun hHeld => ?_)
              · first | with_reducible exact hS7 | with_reducible exact hS6
              clear hK K
              try simp only [List.getElem_toArray, List.getElem_cons_succ, List.getElem_cons_zero, Act.put, List.setIfInBounds_toArray, List.set_cons_zero, List.set_cons_succ]
              refine wpAnyH_take (i := 13) (v := ?_) rfl (by kernel_rfl) (by kernel_rfl) (by kernel_rfl) (fun _ _ _ h => h) (Or.inl ⟨by rfl, ?_⟩) (by assumption) ?_
              rotate_left
              · intro w hSw
                (try dsimp only at hSw)
                first | (go_simp; done) | (go_simp; with_reducible rfl)
              try simp only [List.getElem_toArray, List.getElem_cons_succ, List.getElem_cons_zero, Act.put, List.setIfInBounds_toArray, List.set_cons_zero, List.set_cons_succ]
              refine wpAnyH_done (by kernel_rfl) ?_ _
              generalize hX : retEq rx.e rx.n rx.v d.e d.n d.v rx.ps (pkL d.l) = X at *
              have hXB : retB rx d = X := hX
              rw [hXB] at HSTEP
              have HQ12 := Lib.hid (HQS.out.below HB912.out)
              have HFR12 := Lib.hid (HFR9.out.then_below HB912.out)
              clear hX hXB hHeld hS0 hS6 hS7 CDO HRD6 hDK6 HMD6
              cases X with
              | false =>
                have HTK := Lib.hid (tri_step (n := j) (bef := befB l) (r := r) (ord := ord) (show stepD c l m i = none by rw [HSTEP.out]; rfl))
                go_wp2
                go_roundw
                case rel => exact ⟨i + 1, qi - 1, by omega, by go_num, by omega, by omega, HQ12.out, HFR12.out, fun h1 j' hj' => by
                  by_cases hji : j' = i
                  · subst hji; exact HTK.out
                  · exact HT.out (by omega) j' (by omega)⟩
                case measure => simp [intOf]; omega
              | true =>
                have HTK := Lib.hid (HTF.out mx (by rw [HSTEP.out]; rfl))
                obtain ⟨ho1, ho2⟩ := ords_snoc HO1.out HO2.out hl HRDY.out
                have hol : (ord ++ [i]).length = N + 1 := by rw [List.length_append, HN.out]; rfl
                have HOR12 := Lib.hid (RdI.below (B := 0) HOR9.out HB912.out)
                have hNs : N ≤ 12 := by have := HR.out; omega
                have hlb12 : lb < w12.heap.size := by have := HQ12.out.lt; exact this
                have CI : ∀ w' (oa' : Option Addr) (oc' : Nat), Below w12.heap.size w12 w' → RdI w' oa' (N + 1) oc' (toI (ord ++ [i])) → (∀ a, oa' = some a → a.block ≠ lb) → Calls Tryz.prog 43 #[.slice (some ⟨pb, po, none⟩) j cap, .pointer (some ⟨xb, 0, none⟩), .slice oa' (N + 1) oc', .slice (some ⟨lb, 0, none⟩) 1 1] w' (RsPost j (befB l) c l lb (qi - 1) (ord ++ [i]) w' (fnd j (befB l) (stepD c l) r (ord ++ [i]) mx)) := fun w' oa' oc' hb' ho' hne' => by
                  have := IH.out (ord ++ [i]) mx yx xb _ w' (qi - 1) oa' oc' (by rw [hol]; have := HR.out; omega) ho1 ho2 (by rw [hol]; exact HGY.out) HSM.out (HB12.out.trans (hb'.mono HB12.out.size)) (by rw [hol]; exact ho') hne' (HQ12.out.below hb') (by omega) (by omega) (HMD7.out.below hb') (fun hg => by rcases HHG.out lb hg with h9 | h9 <;> first | omega | (have h8 : w10.heap.size ≤ lb := h9.1; omega))
                  rw [hol] at this
                  exact this
                have HCI := Lib.hid CI
                have hap : ints (toI (ord ++ [i])) = ints (toI ord) ++ [.int .i64 (i : Int)] := by unfold toI; rw [List.map_append, ints_append]; rfl
                have HAP := Lib.hid hap
                have hlenI : (ints (toI ord)).length = N * 1 := by rw [ints_length, toI_length, HN.out]; omega
                have HLI := Lib.hid hlenI
                have HNEWS := Lib.hid (RdI.news HOR12.out)
                have HNIL := Lib.hid HOR12.out.nil
                have HLT2 := Lib.hid ho2
                clear ho1 hol CI hap hlenI HSTEP HTF HGY HSM HMD7 HHG HDK HSX ho2
                go_wp2_with (first
                  | (at_builtin; refine ap_src w12 EIh rfl _ _ rfl w12.heap.size _ 0 [] rfl (owns_nil _ _ _ _) (Nat.le_refl _) oa N oc (ints (toI ord)) rfl HNIL.out HLI.out HNEWS.out (ints_one _) (by omega) ?_; intro v13 w13 hown13 hg13 hb13 hfr13; have HO13 := Lib.hid hown13; have HB13 := Lib.hid ((Below.refl w12.heap.size w12).grown hg13 (Nat.le_refl _) (fun k hk => by cases hk)); clear hown13 hg13 hb13 hfr13)
                  | (at_builtin; refine ap_new w13 #[.int .i64 (i : Int)] EIh rfl _ _ rfl w12.heap.size _ (0 + N) _ rfl HO13.out HB13.out.size 1 rfl rfl (by simp [Value.oneCell']) (by omega) ?_; intro v14 w14 hown14 hg14 hb14 hfr14; obtain ⟨a14, c14, rfl⟩ := owns_slice hown14; have HB14 := Lib.hid (HB13.out.trans hb14); have HO14 := Lib.hid hown14; clear hown14 hg14 hb14 hfr14)
                  | fail)
                have hrow14 : w14.ownsRow w12.heap.size 3 1 (.slice a14 (N + 1) c14) (N + 1) (ints (toI (ord ++ [i]))) := by
                  have := HO14.out
                  rw [HAP.out]
                  simpa [Nat.zero_add] using this
                have hlt14 := hrow14.lt
                refine (HCI.out w14 a14 c14 HB14.out (rdI_toI hrow14 fun k hk => by have := HLT2.out k hk; omega) (fun a e hb => by have := (hlt14 a.block (by rw [e]; rfl)).1; omega)).mono ?_
                rintro e w15 ⟨q', hq'0, hq'1, hqb', hfr', hres⟩
                have HQ15 := Lib.hid hqb'
                have HFR15 := Lib.hid ((HFR12.out.then_below HB14.out).trans hfr' fun k _ h => h)
                clear hqb' hfr' hrow14 hlt14 HO13 HO14 HNEWS HNIL HLI HAP HCI
                rcases hres with ⟨rest, oa', oc', hO, rfl, hrd⟩ | ⟨rfl, hnone⟩
                · have E : Hid (fnd j (befB l) (stepD c l) (r + 1) ord m = some (i :: rest)) := Lib.hid (by
                    rw [fnd_succ]
                    exact range_find_some hl (by rw [HTK.out, hO]; rfl) (HT.out (by omega)))
                  have HRD15 := Lib.hid hrd
                  clear hrd hO
                  go_wp2
                  go_ret2
                  refine ⟨q', hq'0, by omega, HQ15.out, HFR15.out, .inl ⟨i :: rest, oa', oc', E.out, rfl, ?_⟩⟩
                  have e2 : ord ++ i :: rest = ord ++ [i] ++ rest := by simp
                  rw [e2]
                  exact HRD15.out
                · have HNO := Lib.hid hnone
                  clear hnone
                  go_wp2
                  go_roundw
                  case rel => exact ⟨i + 1, q', by omega, by go_num, hq'0, by omega, HQ15.out, HFR15.out, fun h1 j' hj' => by
                    by_cases hji : j' = i
                    · subst hji; rw [HTK.out, HNO.out h1]; rfl
                    · exact HT.out (by omega) j' (by omega)⟩
                  case measure => simp [intOf]; omega
    · obtain rfl : i = n := by omega
      have i1 : (i : Int) ≤ (i : Int) := by omega
      go_wp2
      go_ret2
      exact ⟨qi, hqi0, hqi, HQB.out, HFR.out, .inr ⟨rfl, fun h1 => by rw [fnd_succ]; exact range_find_none.2 (HT.out h1)⟩⟩
end Go.Proofs.YtdjooacjjnjfmaaGreat
end

-- The reference's Search.
section
namespace Go.Proofs.YtdjooacjjnjfmaaGreat
set_option linter.unusedVariables false
set_option linter.unusedSimpArgs false
set_option maxRecDepth 20000
open Go.RowKit Go.Proofs.YtdjooacjjnjfmaaGreatMem Go.Proofs.YtdjooacjjnjfmaaGreatMapK Go.Proofs.YtdjooacjjnjfmaaGreatLin H

/-- What the reference's Search tells: the first order, or that there is none, or that it gave up. -/
def SeaPost (o : Option (List Nat)) (w : World) (e : Ending) (w' : World) : Prop :=
  ((∃ rest oa oc, o = some rest ∧ e = .returned (.tuple #[.slice oa rest.length oc, .bool true, .bool false]) ∧ RdI w' oa rest.length oc (toI rest)) ∨ ∃ gave : Bool, e = .returned (.tuple #[.slice none 0 0, .bool false, .bool gave]) ∧ (gave = false → o = none)) ∧ Below w.heap.size w w'
set_option maxHeartbeats 4000000 in
theorem refSearch_any (c : Cfg) (ao : Option Addr) (n cap : Nat) (l : List DoneS) (q : Int) (w : World) (h : RdD w ao n cap l) (hp : ParOk n l) (hq0 : 0 ≤ q) (hq1 : q ≤ 1000000) :
    Calls Tryz.prog 18 #[.agg #[.int .i64 c.shards, .int .i64 c.slots, .int .i64 c.workers, .int .i64 c.width, .int .u64 c.unit], .slice ao n cap, .int .i64 q] w (SeaPost (foundB c l) w) := by
  have B := Blk.new w c.cells 24
  have hb := below1 w (.cells #[.int .i64 c.shards, .int .i64 c.slots, .int .i64 c.workers, .int .i64 c.width, .int .u64 c.unit] 24)
  have HB := Lib.hid hb
  have HRD := Lib.hid (fun w' (hb : Below w.heap.size w w') => h.below hb)
  have HBX : Hid (Blk (w.alloc (.cells #[.int .i64 c.shards, .int .i64 c.slots, .int .i64 c.workers, .int .i64 c.width, .int .u64 c.unit] 24)) w.heap.size c.cells 24) := Lib.hid B
  have CP := fun w' (hb : Below w.heap.size w w') => H.refParts_any ao n cap l w' (HRD.out w' hb) hp.1 hp.big
  have CM := fun w' (hb : Below w.heap.size w w') => refMay_any c ao n cap l w' (HRD.out w' hb)
  have CN := newModel_any c
  have HF : Hid (foundB c l = if mayB c l = true ∧ (partsD l).length ≤ 12 then fnd (partsD l).length (befB (partsD l)) (stepD c (partsD l)) (partsD l).length [] .new else none) := Lib.hid rfl
  have HMB : Hid (mayB c l = true → c.right = true) := Lib.hid mayB_rightR
  clear B hb h hp
  generalize foundB c l = FB at *
  generalize mayB c l = MB at *
  generalize hPD : partsD l = PD at *
  go_enter Tryz.func18, Tryz.ntmps18
  go_upto_region 1 with fail
  generalize (w.alloc (.cells #[.int .i64 c.shards, .int .i64 c.slots, .int .i64 c.workers, .int .i64 c.width, .int .u64 c.unit] 24)) = W at *
  have a0 : W.cell? ⟨w.heap.size, 0, none⟩ = some (.int .i64 c.shards) := HBX.out.cell 0
  have a1 : W.cell? ⟨w.heap.size, 1, none⟩ = some (.int .i64 c.slots) := HBX.out.cell 1
  have a2 : W.cell? ⟨w.heap.size, 2, none⟩ = some (.int .i64 c.workers) := HBX.out.cell 2
  have a3 : W.cell? ⟨w.heap.size, 3, none⟩ = some (.int .i64 c.width) := HBX.out.cell 3
  have a4 : W.cell? ⟨w.heap.size, 4, none⟩ = some (.int .u64 c.unit) := HBX.out.cell 4
  have al := HBX.out.lt
  go_wp2_with fail
  refine (CM _ HB.out).mono ?_
  rintro e w1 ⟨rfl, hb1⟩
  have HB1 := Lib.hid (HB.out.trans (hb1.mono HB.out.size))
  have HBX1 := Lib.hid (HBX.out.below hb1)
  clear hb1 a0 a1 a2 a3 a4 al
  cases MB with
  | false =>
    have E : Hid (FB = none) := Lib.hid (by rw [HF.out, if_neg (by simp)])
    go_wp2
    go_ret3
    exact ⟨.inr ⟨false, rfl, fun _ => E.out⟩, HB1.out⟩
  | true =>
    have hcR := right_cfgR (HMB.out (by first | rfl | trivial))
    go_wp2_with fail
    refine (CP _ HB1.out).mono ?_
    rintro e w2 ⟨v, l', rfl, hmap, hown, hb2⟩
    obtain ⟨pa, pc, rfl⟩ := hown.slice
    have HB2 := Lib.hid (HB1.out.trans (hb2.mono HB1.out.size))
    have HBX2 := Lib.hid (HBX1.out.below hb2)
    have HOWN := Lib.hid hown.rd
    obtain ⟨q1, q2, q3, -⟩ := parts_bare (c := c) hmap
    have HQ1 := Lib.hid q1
    have E0 : Hid (l'.length ≤ 12 → FB = fnd l'.length (befB l') (stepD c l') l'.length [] .new) := Lib.hid fun h12 => by rw [HF.out, if_pos ⟨by first | rfl | trivial, by rw [← q1]; exact h12⟩, q1, q2, q3]
    have E1 : Hid (¬ l'.length ≤ 12 → FB = none) := Lib.hid fun h12 => by rw [HF.out, if_neg (by rw [← q1]; exact fun h => h12 h.2)]
    clear q1 q2 q3 hmap hown hb2 hPD HF HQ1
    generalize hLN : l'.length = N at *
    clear hLN
    by_cases h12 : N ≤ 12
    · have n12 : ¬ (12 : Int) < (N : Int) := by omega
      have E := Lib.hid (E0.out h12)
      have hbl := below1 w2 (.cells #[.int .i64 q] 3)
      have HQB := Lib.hid (Blk.new w2 [.int .i64 q] 3)
      have HB3 := Lib.hid (HB2.out.trans (hbl.mono HB2.out.size))
      have HB23 := Lib.hid hbl
      have HBX3 := Lib.hid (HBX2.out.below hbl)
      clear hbl E0 E1
      go_upto_region 7 with fail
      generalize hW3 : w2.alloc (.cells #[.int .i64 q] 3) = w3 at *
      have hz3 : w3.heap.size = w2.heap.size + 1 := by rw [← hW3]; simp
      have a0 : w3.cell? ⟨w.heap.size, 0, none⟩ = some (.int .i64 c.shards) := HBX3.out.cell 0
      have a1 : w3.cell? ⟨w.heap.size, 1, none⟩ = some (.int .i64 c.slots) := HBX3.out.cell 1
      have a2 : w3.cell? ⟨w.heap.size, 2, none⟩ = some (.int .i64 c.workers) := HBX3.out.cell 2
      have a3 : w3.cell? ⟨w.heap.size, 3, none⟩ = some (.int .i64 c.width) := HBX3.out.cell 3
      have a4 : w3.cell? ⟨w.heap.size, 4, none⟩ = some (.int .u64 c.unit) := HBX3.out.cell 4
      have al := HBX3.out.lt
      have HZ3 := Lib.hid hz3
      clear hW3 hz3
      go_wp2_with fail
      refine (CN _).mono ?_
      rintro e w4 ⟨mb, rfl, hmd, hb4⟩
      have HB4 := Lib.hid (HB3.out.trans (hb4.mono HB3.out.size))
      have HB24 := Lib.hid (HB23.out.trans (hb4.mono HB23.out.size))
      have HMD := Lib.hid hmd
      have HQ4 : Hid (Blk w4 w2.heap.size [.int .i64 q] 3) := Lib.hid (HQB.out.below hb4)
      clear hmd hb4 a0 a1 a2 a3 a4 al HBX HBX1 HBX2 HBX3 CP CM CN
      have CF := refFrom_any c hcR l' w2 pa N pc w2.heap.size h12 HOWN.out (Nat.le_refl _) N [] .new .new mb _ w4 q none 0 (by simp) List.nodup_nil (fun k hk => by cases hk) MdS.Good.new MSim.new HB24.out (RdI.below (B := 0) (rdI_toI (base := 0) (e := 3) (ord := []) (owns_nil w2 _ _ _) (fun k hk => by cases hk)) HB24.out) (fun a h => by cases h) HQ4.out hq0 hq1 HMD.out (fun h => by have := h.1; have := HZ3.out; omega)
      rw [← E.out] at CF
      have CF2 : Calls Tryz.prog 43 #[.slice pa N pc, .pointer (some ⟨mb, 0, none⟩), .slice none 0 0, .slice (some ⟨w2.heap.size, 0, none⟩) 1 1] w4 (RsPost N (befB l') c l' w2.heap.size q [] w4 FB) := CF
      have hz2 := HB2.out.size
      have hz4 := HB4.out.size
      clear CF HMD HOWN E
      go_wp2_with fail
      refine CF2.mono ?_
      rintro e w5 ⟨q', hq'0, hq'1, hqb, hfr, hres⟩
      have HB5 := Lib.hid (HB4.out.trans (hfr.below (B := w.heap.size) (fun k e => by rw [e]; omega) hz4))
      have x0 : w5.cell? ⟨w2.heap.size, 0, none⟩ = some (.int .i64 q') := hqb.cell 0
      have x0d : w5.drew.cell? ⟨w2.heap.size, 0, none⟩ = some (.int .i64 q') := x0
      have xl := hqb.lt
      clear CF2 hfr hqb
      rcases hres with ⟨rest, oa', oc', hO, rfl, hrd⟩ | ⟨rfl, hno⟩
      · have HRD5 := Lib.hid hrd
        have HO := Lib.hid hO
        have hrl : rest.length = N := by have := hrd.len; rw [toI_length] at this; simpa using this
        clear hrd hO
        go_wp2_with fail
        go_region
        go_wp2
        go_ret3
        refine ⟨.inl ⟨rest, oa', oc', HO.out, by rw [hrl]; rfl, ?_⟩, HB5.out.drew⟩
        rw [hrl]
        exact RdI.below (B := 0) HRD5.out ((Below.refl _ _).drew)
      · have HNO := Lib.hid hno
        clear hno
        by_cases hq' : q' < 1
        · go_wp2_with fail
          go_region
          all_goals
            go_wp2
            go_ret3
            first | exact ⟨.inr ⟨true, rfl, fun h => by cases h⟩, HB5.out.drew⟩ | exact ⟨.inr ⟨decide (q' < 1), rfl, fun h => absurd hq' (of_decide_eq_false h)⟩, HB5.out.drew⟩
        · have hq2 : ¬ q' < 1 := hq'
          go_wp2_with fail
          go_region
          all_goals
            go_wp2
            go_ret3
            first | exact ⟨.inr ⟨false, rfl, fun _ => HNO.out (by omega)⟩, HB5.out.drew⟩ | exact ⟨.inr ⟨decide (q' < 1), rfl, fun _ => HNO.out (by omega)⟩, HB5.out.drew⟩
    · have n12 : (12 : Int) < (N : Int) := by omega
      have E := Lib.hid (E1.out h12)
      go_wp2
      go_ret3
      exact ⟨.inr ⟨false, rfl, fun _ => E.out⟩, HB2.out⟩
end Go.Proofs.YtdjooacjjnjfmaaGreat
end

-- law15's Made as plain data: a history that has an order.
section
namespace Go.Proofs.YtdjooacjjnjfmaaGreat
set_option linter.unusedVariables false
set_option linter.unusedSimpArgs false
set_option maxRecDepth 20000
open Go.RowKit Go.Proofs.YtdjooacjjnjfmaaGreatMem Go.Proofs.YtdjooacjjnjfmaaGreatMapK Go.Proofs.YtdjooacjjnjfmaaGreatLin H

def pkS (p : Pk) : PkS := ⟨p.flow, p.len, p.mark⟩
theorem pkL_pkS (ps : List Pk) : pkL (ps.map pkS) = ps := by
  unfold pkL
  rw [List.map_map]
  exact List.map_id'' (fun _ => rfl) ps
/-- What a call told, with its span. -/
def doneM (who place fr t : Int) (d : CallS) (r : RetS) : DoneS := ⟨who, place, d.op, d.flow, d.a, d.b, r.e, none, 0, 0, r.n, r.v, fr, t, r.ps.map pkS⟩
theorem callD_doneM (who place fr t : Int) (d : CallS) (r : RetS) : callD (doneM who place fr t d r) = d := rfl
theorem retB_self (who place fr t : Int) (d : CallS) (r : RetS) : retB r (doneM who place fr t d r) = true := by
  unfold retB retEq
  rw [show (doneM who place fr t d r).l = r.ps.map pkS from rfl, pkL_pkS]
  exact decide_eq_true ⟨rfl, rfl, rfl, rfl⟩

/-! ### Calls of a list, one behind the other -/
def runL (c : Cfg) (m : MdS) : List DoneS → Option MdS
  | [] => some m
  | x :: l => if retB (m.doo c (callD x)).2 x then runL c (m.doo c (callD x)).1 l else none
theorem runL_append (c : Cfg) : ∀ (a b : List DoneS) (m : MdS), runL c m (a ++ b) = (runL c m a).bind fun m' => runL c m' b
  | [], b, m => rfl
  | x :: a, b, m => by
    show (if _ then runL c _ (a ++ b) else none) = _
    rw [runL_append c a b]
    show _ = (if _ then runL c _ a else none).bind _
    split <;> rfl
theorem runS_runL (c : Cfg) (L : List DoneS) : ∀ (n s : Nat) (m : MdS), s + n = L.length → runS (stepD c L) m (List.range' s n) = runL c m (L.drop s)
  | 0, s, m, h => by rw [List.drop_of_length_le (by omega)]; rfl
  | n + 1, s, m, h => by
    have hs : s < L.length := by omega
    rw [List.range'_succ, List.drop_eq_getElem_cons hs]
    show (stepD c L m s).bind _ = (if _ then _ else none)
    unfold stepD
    rw [nthD_eq hs]
    split
    · simp only [Option.bind_some]
      exact runS_runL c L n (s + 1) _ (by omega)
    · rfl
/-- A batch is its Dequeues. -/
theorem runL_bat (c : Cfg) (x : DoneS) : ∀ (k : Nat) (m : MdS) (ps : List Pk), (m.bat k ps).2.e = x.e →
    ∃ qs, (m.bat k ps).2.ps = ps ++ qs ∧ runL c m (packD x (qs.map pkS) ++ emptyD x) = some (m.bat k ps).1 ∧ (m.bat k ps).2.n = 0 ∧ (m.bat k ps).2.v = 0
  | 0, m, ps, he => by
    refine ⟨[], by simp [MdS.bat], ?_, rfl, rfl⟩
    have : x.e = 0 := he.symm
    simp only [emptyD, this, packD, List.map_nil, List.nil_append]
    rfl
  | k + 1, m, ps, he => by
    unfold MdS.bat at he ⊢
    by_cases h : m.s.has = true
    · rw [if_pos h] at he ⊢
      obtain ⟨qs, h1, h2, h3, h4⟩ := runL_bat c x k m.one (ps ++ [m.s.head]) he
      refine ⟨m.s.head :: qs, by rw [h1]; simp, ?_, h3, h4⟩
      show (if retB (m.doo c ⟨4, 0, 0, 0⟩).2 (oneD x 0 0 0 none 0 0 [pkS m.s.head]) then runL c (m.doo c ⟨4, 0, 0, 0⟩).1 (packD x (qs.map pkS) ++ emptyD x) else none) = _
      have e1 : m.doo c ⟨4, 0, 0, 0⟩ = (m.one, m.oneRet) := rfl
      rw [e1, if_pos]
      · exact h2
      · show retB m.oneRet _ = true
        unfold MdS.oneRet
        rw [if_pos h]
        show decide ((0 : Int) = 0 ∧ (0 : Int) = 0 ∧ (0 : Int) = 0 ∧ [m.s.head] = pkL [pkS m.s.head]) = true
        exact decide_eq_true ⟨rfl, rfl, rfl, rfl⟩
    · rw [if_neg h] at he ⊢
      have he : x.e = 10 := he.symm
      refine ⟨[], by simp, ?_, rfl, rfl⟩
      simp only [emptyD, he, packD, List.map_nil, List.nil_append, if_true]
      show (if retB (m.doo c ⟨4, 0, 0, 0⟩).2 (oneD x 10 0 0 none 0 0 []) then runL c (m.doo c ⟨4, 0, 0, 0⟩).1 [] else none) = _
      have e1 : m.doo c ⟨4, 0, 0, 0⟩ = (m.one, m.oneRet) := rfl
      rw [e1, if_pos]
      · rfl
      · show retB m.oneRet _ = true
        unfold MdS.oneRet
        rw [if_neg h]
        show decide ((10 : Int) = 10 ∧ (0 : Int) = 0 ∧ (0 : Int) = 0 ∧ [] = pkL []) = true
        exact decide_eq_true ⟨rfl, rfl, rfl, rfl⟩
theorem runL_part (c : Cfg) (m : MdS) (d : CallS) (who place fr t : Int) : runL c m (partD (doneM who place fr t d (m.doo c d).2)) = some (m.doo c d).1 := by
  unfold partD
  split
  · rename_i hb
    simp only [isBat, Bool.and_eq_true, Bool.or_eq_true, decide_eq_true_eq] at hb
    obtain ⟨h5, -, he⟩ := hb
    have h5 : d.op = 5 := h5
    have e1 : m.doo c d = if inB d.a 1 16 then m.bat d.a.toNat [] else (m, .code 1) := by unfold MdS.doo; rw [if_neg (by omega), if_neg (by omega), if_neg (by omega), if_neg (by omega), if_pos h5]
    by_cases hi : inB d.a 1 16 = true
    · rw [if_pos hi] at e1
      rw [e1]
      obtain ⟨qs, h1, h2, -, -⟩ := runL_bat c (doneM who place fr t d (m.bat d.a.toNat []).2) d.a.toNat m [] rfl
      rw [List.nil_append] at h1
      rw [show (doneM who place fr t d (m.bat d.a.toNat []).2).l = qs.map pkS by rw [← h1]; rfl]
      exact h2
    · rw [if_neg hi] at e1
      have : (m.doo c d).2.e = 1 := by rw [e1]; rfl
      have h1 : (doneM who place fr t d (m.doo c d).2).e = 1 := this
      rw [h1] at he
      omega
  · show (if retB (m.doo c d).2 _ then _ else none) = _
    rw [if_pos]
    · rfl
    · exact retB_self who place fr t d _

/-! ### The numbers -/
def nthZ (l : List Int) (k : Nat) : Int := l.getD k 0
def wM (ws : List Int) (i : Nat) : Nat := if i < ws.length then (modZ (nth ws i) 3).toNat else i % 3
def rM (rs : List Int) (i : Nat) : Int := if i < rs.length then modZ (nth rs i) 70 else 0
theorem wM_lt (ws : List Int) (i : Nat) : wM ws i < 3 := by
  unfold wM
  split
  · have := modZ_bd (nth ws i) (n := 3) (by omega); omega
  · omega
theorem rM_bd (rs : List Int) (i : Nat) : 0 ≤ rM rs i ∧ rM rs i < 70 := by
  unfold rM
  split
  · have := modZ_bd (nth rs i) (n := 70) (by omega); omega
  · omega
def cM0 (cs : List CallS) (i : Nat) : CallS := if 2 ≤ i then callP (nthC cs i) else nthC cs i
def cM (cs : List CallS) (i : Nat) : CallS := if (cM0 cs i).op = 5 then { cM0 cs i with a := modZ (cM0 cs i).a 3 } else cM0 cs i
theorem cM_ok {cs : List CallS} {i : Nat} (h : (nthC cs i).Ok) : (cM cs i).Ok := by
  have h0 : (cM0 cs i).Ok := by unfold cM0; split; exact callP_ok h; exact h
  unfold cM
  split
  · have := modZ_bd (cM0 cs i).a (n := 3) (by omega)
    exact ⟨h0.op, h0.flow, small_i64 (by simp only; omega), h0.b⟩
  · exact h0
/-- The least k at i or behind it, ahead of n, of worker w. -/
def nextM (ws : List Int) (w : Nat) : Nat → Nat → Option Nat
  | 0, _ => none
  | f + 1, k => if wM ws k = w then some k else nextM ws w f (k + 1)
def toM0 (rs : List Int) (i : Nat) : Int := 10 * (i : Int) + (rM rs i).tdiv 3
def toM (ws rs : List Int) (n i : Nat) : Int := match nextM ws (wM ws i) (n - (i + 1)) (i + 1) with
  | some k => min (toM0 rs i) (10 * (k : Int) - 1)
  | none => toM0 rs i
theorem nextM_some {ws : List Int} {w : Nat} : ∀ {f k j : Nat}, nextM ws w f k = some j → k ≤ j ∧ j < k + f ∧ wM ws j = w ∧ ∀ i, k ≤ i → i < j → wM ws i ≠ w
  | 0, k, j, h => by cases h
  | f + 1, k, j, h => by
    unfold nextM at h
    split at h
    · rename_i hw
      cases h
      exact ⟨Nat.le_refl _, by omega, hw, fun i h1 h2 => by omega⟩
    · rename_i hw
      obtain ⟨h1, h2, h3, h4⟩ := nextM_some h
      refine ⟨by omega, by omega, h3, fun i h5 h6 => ?_⟩
      by_cases e : i = k
      · subst e; exact hw
      · exact h4 i (by omega) h6
theorem nextM_none {ws : List Int} {w : Nat} : ∀ {f k : Nat}, nextM ws w f k = none → ∀ i, k ≤ i → i < k + f → wM ws i ≠ w
  | 0, k, h, i, h1, h2 => by omega
  | f + 1, k, h, i, h1, h2 => by
    unfold nextM at h
    split at h
    · cases h
    · rename_i hw
      by_cases e : i = k
      · subst e; exact hw
      · exact nextM_none h i (by omega) (by omega)
theorem toM0_bd (rs : List Int) (i : Nat) : 10 * (i : Int) ≤ toM0 rs i ∧ toM0 rs i ≤ 10 * (i : Int) + 23 := by
  have := rM_bd rs i
  unfold toM0
  rw [Int.tdiv_eq_ediv_of_nonneg this.1]
  omega
theorem toM_bd (ws rs : List Int) (n i : Nat) : 10 * (i : Int) ≤ toM ws rs n i ∧ toM ws rs n i ≤ 10 * (i : Int) + 23 := by
  have h0 := toM0_bd rs i
  unfold toM
  split
  · rename_i k hk
    obtain ⟨h1, -, -, -⟩ := nextM_some hk
    omega
  · exact h0
theorem toM_next {ws rs : List Int} {n i j : Nat} (hij : i < j) (hj : j < n) (hw : wM ws j = wM ws i) : toM ws rs n i < 10 * (j : Int) := by
  unfold toM
  split
  · rename_i k hk
    obtain ⟨h1, -, -, h4⟩ := nextM_some hk
    have : k ≤ j := by
      apply Nat.le_of_not_lt
      intro hlt
      exact h4 j (by omega) hlt hw
    omega
  · rename_i hk
    exact absurd hw (nextM_none hk j (by omega) (by omega))

def updI (f : Nat → Int) (q : Nat) (v : Int) : Nat → Int := fun i => if i = q then v else f i
structure MkS where
  a : Nat → Int
  n : Nat → Int
  m : MdS
  out : List DoneS
def mk0 : MkS := ⟨fun _ => 0, fun _ => 0, .new, []⟩
def frM (rs : List Int) (s : MkS) (w i : Nat) : Int := max (s.a w) (10 * (i : Int) - (rM rs i).tmod 9 * 4)
def mkRound (c : Cfg) (cs : List CallS) (ws rs : List Int) (n : Nat) (s : MkS) (i : Nat) : MkS :=
  ⟨updI s.a (wM ws i) (toM ws rs n i + 1), updI s.n (wM ws i) (s.n (wM ws i) + 1), (s.m.doo c (cM cs i)).1,
    s.out ++ [doneM (wM ws i) (s.n (wM ws i)) (frM rs s (wM ws i) i) (toM ws rs n i) (cM cs i) (s.m.doo c (cM cs i)).2]⟩
def mkAll (c : Cfg) (cs : List CallS) (ws rs : List Int) (n : Nat) : Nat → MkS
  | 0 => mk0
  | k + 1 => mkRound c cs ws rs n (mkAll c cs ws rs n k) k
theorem frM_bd (rs : List Int) {s : MkS} {w i : Nat} (h0 : 0 ≤ s.a w) (h1 : s.a w ≤ 10 * (i : Int)) : 0 ≤ frM rs s w i ∧ frM rs s w i ≤ 10 * (i : Int) ∧ s.a w ≤ frM rs s w i := by
  have hr := rM_bd rs i
  have : 0 ≤ (rM rs i).tmod 9 ∧ (rM rs i).tmod 9 < 9 := by
    rw [Int.tmod_eq_emod_of_nonneg hr.1]
    omega
  unfold frM
  omega
/-- What a made history is like. -/
def MadeOk (l : List DoneS) : Prop := (∀ x ∈ l, (0 ≤ x.who ∧ x.who < 3) ∧ 0 ≤ x.place ∧ 0 ≤ x.fr ∧ x.fr ≤ x.to) ∧ l.Pairwise fun x y => x.fr ≤ y.to ∧ (x.who = y.who → x.place < y.place ∧ x.to < y.fr)
structure MkOk (c : Cfg) (cs : List CallS) (ws rs : List Int) (n k : Nat) (s : MkS) : Prop where
  a0 : ∀ w, 0 ≤ s.a w ∧ s.a w ≤ 10 * (k : Int) + 24
  a1 : ∀ w i, k ≤ i → i < n → wM ws i = w → s.a w ≤ 10 * (i : Int)
  n0 : ∀ w, 0 ≤ s.n w ∧ s.n w ≤ k
  len : s.out.length = k
  ok : MadeOk s.out
  last : ∀ x ∈ s.out, x.to < s.a x.who.toNat ∧ x.place < s.n x.who.toNat ∧ x.fr ≤ 10 * (k : Int)
  run : runL c .new (partsD s.out) = some s.m
  good : (∀ d ∈ cs, d.Ok) → (1 ≤ c.unit ∧ c.unit ≤ 4611686018427387904) → n ≤ cs.length → s.m.Good k
theorem mkOk (c : Cfg) (cs : List CallS) (ws rs : List Int) (n : Nat) : ∀ k, k ≤ n → MkOk c cs ws rs n k (mkAll c cs ws rs n k)
  | 0, _ => ⟨fun w => by simp [mkAll, mk0], fun w i _ _ _ => by simp [mkAll, mk0]; omega, fun w => by simp [mkAll, mk0], rfl, ⟨by simp [mkAll, mk0], by simp [mkAll, mk0]⟩, by simp [mkAll, mk0], rfl, fun _ _ _ => MdS.Good.new⟩
  | k + 1, hk => by
    have ih := mkOk c cs ws rs n k (by omega)
    show MkOk c cs ws rs n (k + 1) (mkRound c cs ws rs n (mkAll c cs ws rs n k) k)
    generalize mkAll c cs ws rs n k = s at *
    have h1 := toM_bd ws rs n k
    have hw := wM_lt ws k
    have ha := ih.a0 (wM ws k)
    have ha1 := ih.a1 (wM ws k) k (Nat.le_refl _) (by omega) rfl
    obtain ⟨f0, f1, f2⟩ := frM_bd rs ha.1 ha1
    have hn0 := ih.n0 (wM ws k)
    refine ⟨fun w => ?_, fun w i hi hin hwi => ?_, fun w => ?_, ?_, ⟨?_, ?_⟩, ?_, ?_, ?_⟩
    · have := ih.a0 w
      show 0 ≤ updI s.a _ _ w ∧ updI s.a _ _ w ≤ _
      unfold updI
      split <;> omega
    · have := ih.a1 w i (by omega) hin hwi
      show updI s.a _ _ w ≤ _
      unfold updI
      split
      · rename_i e
        have := toM_next (rs := rs) (show k < i by omega) hin (by rw [hwi, e])
        omega
      · omega
    · have := ih.n0 w
      show 0 ≤ updI s.n _ _ w ∧ updI s.n _ _ w ≤ _
      unfold updI
      split <;> omega
    · show (s.out ++ [_]).length = _
      rw [List.length_append, ih.len]; rfl
    · intro x hx
      rcases List.mem_append.1 hx with hx | hx
      · exact ih.ok.1 x hx
      · simp only [List.mem_singleton] at hx
        subst hx
        show ((0 : Int) ≤ (wM ws k : Int) ∧ (wM ws k : Int) < 3) ∧ 0 ≤ s.n (wM ws k) ∧ 0 ≤ frM rs s (wM ws k) k ∧ frM rs s (wM ws k) k ≤ toM ws rs n k
        omega
    · rw [show (mkRound c cs ws rs n s k).out = s.out ++ [_] from rfl, List.pairwise_append]
      refine ⟨ih.ok.2, by simp, fun x hx y hy => ?_⟩
      simp only [List.mem_singleton] at hy
      subst hy
      obtain ⟨l1, l2, l3⟩ := ih.last x hx
      have hx3 := (ih.ok.1 x hx).1
      show x.fr ≤ toM ws rs n k ∧ (x.who = (wM ws k : Int) → x.place < s.n (wM ws k) ∧ x.to < frM rs s (wM ws k) k)
      refine ⟨by omega, fun e => ?_⟩
      rw [e, Int.toNat_natCast] at l1 l2
      omega
    · intro x hx
      show x.to < updI s.a _ _ x.who.toNat ∧ x.place < updI s.n _ _ x.who.toNat ∧ x.fr ≤ _
      unfold updI
      rcases List.mem_append.1 hx with hx | hx
      · obtain ⟨l1, l2, l3⟩ := ih.last x hx
        split
        · rename_i e
          rw [e] at l1 l2
          exact ⟨by omega, by omega, by omega⟩
        · exact ⟨l1, l2, by omega⟩
      · simp only [List.mem_singleton] at hx
        subst hx
        rw [if_pos (by show ((wM ws k : Int)).toNat = wM ws k; omega), if_pos (by show ((wM ws k : Int)).toNat = wM ws k; omega)]
        show toM ws rs n k < toM ws rs n k + 1 ∧ s.n (wM ws k) < s.n (wM ws k) + 1 ∧ frM rs s (wM ws k) k ≤ _
        omega
    · show runL c .new (partsD (s.out ++ [_])) = _
      rw [show ∀ a b : List DoneS, partsD (a ++ b) = partsD a ++ partsD b from fun a b => by unfold partsD; rw [List.flatMap_append], runL_append, ih.run, Option.bind_some]
      rw [show ∀ x : DoneS, partsD [x] = partD x from fun x => by unfold partsD; simp]
      exact runL_part c s.m _ _ _ _ _
    · intro hcs hu hl
      refine (ih.good hcs hu hl).doo (by unfold W64; omega) (cM_ok (hcs _ ?_))
      exact List.mem_of_getElem? (nthC_eq (by omega))
end Go.Proofs.YtdjooacjjnjfmaaGreat
end

-- A made history has an order: its own. Histories of which nothing fits.
section
namespace Go.Proofs.YtdjooacjjnjfmaaGreat
set_option linter.unusedVariables false
set_option linter.unusedSimpArgs false
set_option maxRecDepth 20000
open Go.RowKit Go.Proofs.YtdjooacjjnjfmaaGreatMem Go.Proofs.YtdjooacjjnjfmaaGreatMapK Go.Proofs.YtdjooacjjnjfmaaGreatLin H

/-! ### Where packets lie plays no part -/
theorem partsD_bare (l : List DoneS) : partsD (l.map DoneS.bare) = partsD l := by
  unfold partsD
  rw [List.flatMap_map]
  rfl
theorem mayB_bare (c : Cfg) (l : List DoneS) : mayB c (l.map DoneS.bare) = mayB c l := by
  have h1 : (l.map DoneS.bare).all rightD = l.all rightD := by rw [List.all_map]; rfl
  have h2 : pairsB (l.map DoneS.bare) = pairsB l := by
    unfold pairsB
    rw [List.length_map]
    congr 1
    funext i
    congr 1
    funext k
    rw [← nthD_bare, ← nthD_bare]
    rfl
  have h3 : (l.map DoneS.bare).all endedB = l.all endedB := by rw [List.all_map]; rfl
  unfold mayB rightH
  rw [h1, h2, h3]
theorem fitsB_bare (c : Cfg) (l : List DoneS) (o : List Int) : fitsB c (l.map DoneS.bare) o = fitsB c l o := by unfold fitsB; rw [mayB_bare, partsD_bare]
theorem foundB_bare (c : Cfg) (l : List DoneS) : foundB c (l.map DoneS.bare) = foundB c l := by unfold foundB; rw [mayB_bare, partsD_bare]
theorem fitsB_congr {c : Cfg} {l l' : List DoneS} (h : l.map DoneS.bare = l'.map DoneS.bare) (o : List Int) : fitsB c l o = fitsB c l' o := by rw [← fitsB_bare, h, fitsB_bare]
theorem foundB_congr {c : Cfg} {l l' : List DoneS} (h : l.map DoneS.bare = l'.map DoneS.bare) : foundB c l = foundB c l' := by rw [← foundB_bare, h, foundB_bare]
theorem partsD_congr {l l' : List DoneS} (h : l.map DoneS.bare = l'.map DoneS.bare) : partsD l = partsD l' := by rw [← partsD_bare, h, partsD_bare]

/-! ### What may be -/
theorem pw_nth {R : DoneS → DoneS → Prop} {l : List DoneS} (h : l.Pairwise R) {i j : Nat} (hij : i < j) (hj : j < l.length) : R (nthD l i) (nthD l j) := by
  rw [nthD_eq (by omega), nthD_eq hj]
  exact List.pairwise_iff_getElem.1 h i j (by omega) hj hij
theorem made_right {l : List DoneS} (h : MadeOk l) : rightH l = true := by
  unfold rightH
  rw [Bool.and_eq_true]
  constructor
  · rw [List.all_eq_true]
    intro x hx
    have := h.1 x hx
    unfold rightD
    exact decide_eq_true (by omega)
  · refine pairs_true fun i hi k hk => ?_
    have hp := pw_nth h.2 hk hi
    have hx : (nthD l k).fr ≤ (nthD l k).to ∧ 0 ≤ (nthD l k).fr := by
      have := h.1 (nthD l k) (by rw [nthD_eq (show k < l.length by omega)]; exact List.getElem_mem _)
      omega
    generalize nthD l i = y at *
    generalize nthD l k = x at *
    unfold apartB
    by_cases hw : y.who = x.who
    · obtain ⟨h1, h2⟩ := hp.2 hw.symm
      rw [if_neg (by omega), if_neg (by omega), if_pos h1]
      have hx0 : x.fr ≤ x.to ∧ 0 ≤ x.fr := hx
      show (H.endedB x && decide (x.to < y.fr)) = true
      rw [show H.endedB x = true from decide_eq_true (by omega), decide_eq_true h2]
      rfl
    · rw [if_pos hw]
theorem made_ended {l : List DoneS} (h : MadeOk l) : l.all endedB = true := by
  rw [List.all_eq_true]
  intro x hx
  have := h.1 x hx
  unfold endedB
  exact decide_eq_true (by omega)
theorem made_may {c : Cfg} {l : List DoneS} (hc : c.right = true) (h : MadeOk l) : mayB c l = true := by unfold mayB; rw [hc, made_right h, made_ended h]; rfl

/-! ### No later part stands ahead of an earlier one -/
theorem part_span {d y : DoneS} (h : y ∈ partD d) : y.who = d.who ∧ y.place = d.place ∧ y.fr = d.fr ∧ y.to = d.to := by
  unfold partD packD emptyD at h
  split at h
  · rcases List.mem_append.1 h with h | h
    · obtain ⟨p, -, rfl⟩ := List.mem_map.1 h
      exact ⟨rfl, rfl, rfl, rfl⟩
    · split at h
      · simp only [List.mem_singleton] at h
        subst h
        exact ⟨rfl, rfl, rfl, rfl⟩
      · cases h
  · simp only [List.mem_singleton] at h
    subst h
    exact ⟨rfl, rfl, rfl, rfl⟩
theorem parts_pw {R : DoneS → DoneS → Prop} (hR : ∀ a b x y, x ∈ partD a → y ∈ partD b → R a b → R x y) (h0 : ∀ a x y, x ∈ partD a → y ∈ partD a → R a a → R x y) :
    ∀ {l : List DoneS}, l.Pairwise R → (∀ a ∈ l, R a a) → (partsD l).Pairwise R
  | [], _, _ => List.Pairwise.nil
  | a :: l, h, hr => by
    rw [List.pairwise_cons] at h
    show (partD a ++ partsD l).Pairwise R
    rw [List.pairwise_append]
    refine ⟨?_, parts_pw hR h0 h.2 (fun b hb => hr b (List.mem_cons_of_mem _ hb)), fun x hx y hy => ?_⟩
    · have ha := hr a List.mem_cons_self
      have key : ∀ q : List DoneS, (∀ x ∈ q, x ∈ partD a) → q.Pairwise R := by
        intro q
        induction q with
        | nil => intro _; exact List.Pairwise.nil
        | cons x q ih =>
          intro hq
          rw [List.pairwise_cons]
          exact ⟨fun y hy => h0 a x y (hq x List.mem_cons_self) (hq y (List.mem_cons_of_mem _ hy)) ha, ih fun y hy => hq y (List.mem_cons_of_mem _ hy)⟩
      exact key _ fun x hx => hx
    · unfold partsD at hy
      obtain ⟨b, hb, hy⟩ := List.mem_flatMap.1 hy
      exact hR a b x y hx hy (h.1 b hb)
theorem made_bef {l : List DoneS} (h : MadeOk l) {a b : Nat} (hab : a < b) (hb : b < (partsD l).length) : befB (partsD l) b a = false := by
  have hp : (partsD l).Pairwise fun x y => x.fr ≤ y.to := by
    refine parts_pw (R := fun x y => x.fr ≤ y.to) (fun p q x y hx hy hr => ?_) (fun p x y hx hy hr => ?_) (h.2.imp fun hh => hh.1) (fun x hx => (h.1 x hx).2.2.2)
    · have h1 := part_span hx
      have h2 := part_span hy
      omega
    · have h1 := part_span hx
      have h2 := part_span hy
      omega
  have := pw_nth hp hab hb
  show ((H.endedB _ && decide ((nthD (partsD l) b).to < (nthD (partsD l) a).fr)) || (_ && decide (b < a))) = false
  rw [show decide ((nthD (partsD l) b).to < (nthD (partsD l) a).fr) = false from decide_eq_false (by omega), show decide (b < a) = false from decide_eq_false (by omega)]
  simp
theorem pairO_range {bef : Nat → Nat → Bool} : ∀ (n s : Nat), (∀ a b, s ≤ a → a < b → b < s + n → bef b a = false) → pairO bef (toI (List.range' s n)) = true
  | 0, s, _ => rfl
  | n + 1, s, h => by
    rw [List.range'_succ]
    show (((toI (List.range' (s + 1) n)).all fun z => !bef z.toNat ((s : Int)).toNat) && pairO bef (toI (List.range' (s + 1) n))) = true
    rw [Bool.and_eq_true]
    refine ⟨?_, pairO_range n (s + 1) fun a b h1 h2 h3 => h a b (by omega) h2 (by omega)⟩
    rw [List.all_eq_true]
    intro z hz
    unfold toI at hz
    obtain ⟨i, hi, rfl⟩ := List.mem_map.1 hz
    rw [List.mem_range'_1] at hi
    rw [Int.toNat_natCast, Int.toNat_natCast, h s i (Nat.le_refl _) (by omega) (by omega)]
    rfl
theorem allIn_range (n : Nat) : allIn n (toI (List.range n)) = true := by
  rw [allIn_iff]
  refine ⟨by simp [toI], fun z hz => ?_, ?_⟩
  · unfold toI at hz
    obtain ⟨i, hi, rfl⟩ := List.mem_map.1 hz
    have := List.mem_range.1 hi
    omega
  · unfold toI
    rw [List.Nodup, List.pairwise_map]
    exact List.Pairwise.imp (fun h => by omega) List.nodup_range
theorem made_fits {c : Cfg} {l : List DoneS} {m : MdS} (hc : c.right = true) (h : MadeOk l) (hr : runL c .new (partsD l) = some m) : fitsB c l (toI (List.range (partsD l).length)) = true := by
  unfold fitsB fitO
  rw [made_may hc h, allIn_range, toI_toNat, Bool.true_and, Bool.true_and, Bool.and_eq_true]
  refine ⟨?_, ?_⟩
  · rw [List.range_eq_range']
    exact pairO_range _ 0 fun a b _ h2 h3 => made_bef h h2 (by omega)
  · rw [List.range_eq_range', runS_runL c (partsD l) (partsD l).length 0 .new (by omega), List.drop_zero, hr]
    rfl
/-! ### Found and fits -/
theorem fits_may {c : Cfg} {l : List DoneS} {o : List Int} (h : fitsB c l o = true) : mayB c l = true := by unfold fitsB at h; rw [Bool.and_eq_true] at h; exact h.1
theorem fits_found {c : Cfg} {l : List DoneS} {o : List Int} (h : fitsB c l o = true) (h12 : (partsD l).length ≤ 12) : ∃ q, foundB c l = some q ∧ ∃ p, o = toI p ∧ leL q p := by
  have hm := fits_may h
  unfold fitsB at h
  rw [Bool.and_eq_true] at h
  obtain ⟨q, h1, h2⟩ := fitO_fnd h.2
  exact ⟨q, by unfold foundB; rw [if_pos ⟨hm, h12⟩]; exact h1, h2⟩
theorem found_fits {c : Cfg} {l : List DoneS} {q : List Nat} (h : foundB c l = some q) : fitsB c l (toI q) = true ∧ q.length = (partsD l).length ∧ (partsD l).length ≤ 12 := by
  unfold foundB at h
  split at h
  · rename_i hm
    refine ⟨?_, fnd_length h, hm.2⟩
    unfold fitsB
    rw [hm.1, fnd_fitO h]
    rfl
  · cases h
theorem found_may {c : Cfg} {l : List DoneS} (h : mayB c l = false) : foundB c l = none := by unfold foundB; rw [if_neg (by rw [h]; simp)]
theorem fits_not {c : Cfg} {l : List DoneS} (h : mayB c l = false) (o : List Int) : fitsB c l o = false := by unfold fitsB; rw [h]; rfl
theorem fits_length {c : Cfg} {l : List DoneS} {o : List Int} (h : fitsB c l o = true) : o.length = (partsD l).length := by
  unfold fitsB fitO at h
  simp only [Bool.and_eq_true] at h
  exact (allIn_iff.1 h.2.1).1
/-- What an answer holds. -/
theorem bat_ps : ∀ (k : Nat) (m : MdS) (ps : List Pk), (m.bat k ps).2.ps.length ≤ ps.length + k
  | 0, m, ps => Nat.le_refl _
  | k + 1, m, ps => by
    unfold MdS.bat
    split
    · have := bat_ps k m.one (ps ++ [m.s.head])
      rw [List.length_append] at this
      simp only [List.length_cons, List.length_nil] at this
      omega
    · show ps.length ≤ _
      omega
theorem doo_ps (c : Cfg) (m : MdS) (d : CallS) : (m.doo c d).2.ps.length ≤ 16 := by
  unfold MdS.doo
  split
  · exact Nat.zero_le _
  split
  · exact Nat.zero_le _
  split
  · exact Nat.zero_le _
  split
  · show m.oneRet.ps.length ≤ 16
    unfold MdS.oneRet
    split
    · show 1 ≤ 16
      omega
    · exact Nat.zero_le _
  split
  · split
    · rename_i hi
      have hi2 : d.a ≤ 16 ∧ 1 ≤ d.a := by unfold inB at hi; simp at hi; omega
      have := bat_ps d.a.toNat m []
      simp only [List.length_nil] at this
      omega
    · exact Nat.zero_le _
  split
  · exact Nat.zero_le _
  · exact Nat.zero_le _
end Go.Proofs.YtdjooacjjnjfmaaGreat
end

-- What is made, for claims that do without the walk of Made (MadeW has the same two words).
section
namespace Go.Proofs.YtdjooacjjnjfmaaGreat
open Go.RowKit Go.Proofs.YtdjooacjjnjfmaaGreatMem Go.Proofs.YtdjooacjjnjfmaaGreatMapK Go.Proofs.YtdjooacjjnjfmaaGreatLin H
def madeN (cs : List CallS) (most : Nat) : Nat := min (cs.length + 2) most
def madeS (c : Cfg) (cs : List CallS) (ws rs : List Int) (most : Nat) : MkS := mkAll c (readyL 2 ++ cs) ws rs (madeN cs most) (madeN cs most)
end Go.Proofs.YtdjooacjjnjfmaaGreat
end
