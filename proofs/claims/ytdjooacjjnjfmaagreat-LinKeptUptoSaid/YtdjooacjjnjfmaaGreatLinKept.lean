/- LinKept: what is handed in is not changed. -/
import Derived.Test.YtdjooacjjnjfmaaGreatKc
import Derived.Test.YtdjooacjjnjfmaaGreatHb
namespace Go.Proofs.YtdjooacjjnjfmaaGreat
set_option linter.unusedVariables false
set_option linter.unusedSimpArgs false
set_option maxRecDepth 20000
open Go.RowKit Go.Proofs.YtdjooacjjnjfmaaGreatMem Go.Proofs.YtdjooacjjnjfmaaGreatFlat Go.Proofs.YtdjooacjjnjfmaaGreatMapK Go.Proofs.YtdjooacjjnjfmaaGreatLin H

abbrev fK15 : PkS := ⟨0, 0, 7⟩
/-- A call whose packets lie in a copy with spare room. -/
def keptL (d : DoneS) (g : Nat) : DoneS := { d with ao := some ⟨g, 0, none⟩, cap := d.len + 3 }
structure HK15 (w : World) (L H : List DoneS) (i : Nat) : Prop where
  len : H.length = L.length
  own : ∀ j, j < L.length → j < i → ∃ g, nthD H j = keptL (nthD L j) g ∧ OwnedK w g (nthD L j).len (nthD L j).l fK15
  rest : ∀ j, j < L.length → i ≤ j → nthD H j = nthD L j
theorem HK15.below {w w' : World} {L H : List DoneS} {i : Nat} (h : HK15 w L H i) (hb : Below w.heap.size w w') : HK15 w' L H i :=
  ⟨h.len, fun j hj hi => let ⟨g, h1, h2⟩ := h.own j hj hi; ⟨g, h1, h2.below hb⟩, h.rest⟩
theorem nthD_setJ {l : List DoneS} {q j : Nat} {y : DoneS} (hq : q < l.length) : nthD (l.set q y) j = if j = q then y else nthD l j := by
  simp only [nthD, List.getD_eq_getElem?_getD, List.getElem?_set]
  by_cases e : q = j
  · subst e; simp [hq]
  · have e' : ¬ j = q := fun h => e h.symm
    rw [if_neg e']; simp [e]
theorem HK15.bare {w : World} {L H : List DoneS} (h : HK15 w L H L.length) : H.map DoneS.bare = L.map DoneS.bare := by
  refine List.ext_getElem (by simp [h.len]) fun j h1 h2 => ?_
  simp only [List.length_map] at h1 h2
  obtain ⟨g, e, _⟩ := h.own j h2 h2
  simp only [List.getElem_map]
  rw [← nthD_eq h1, ← nthD_eq h2, e]; rfl
theorem HK15.good {w : World} {L H : List DoneS} (h : HK15 w L H L.length) (hL : ∀ d ∈ L, d.Ok ∧ ∀ p ∈ d.l, p.Ok) : GoodD w H := by
  intro d hd
  obtain ⟨j, hj, rfl⟩ := List.mem_iff_getElem.1 hd
  have hjl : j < L.length := by rw [← h.len]; exact hj
  obtain ⟨g, e, ho⟩ := h.own j hjl hjl
  rw [← nthD_eq hj, e]
  have hm := hL (nthD L j) (by rw [nthD_eq hjl]; exact List.getElem_mem _)
  exact ⟨hm.1, ho.rd hm.2⟩
theorem ownDs_farG {w : World} {base : Nat} {v : Value} {l : List DoneS} {hb i : Nat} (h : OwnDs w base v l) (hv : ∀ k, v.ownBlock = some k → k ≠ hb) (hp : ∀ d ∈ l, ∀ k, (Value.slice d.ao d.len d.cap).ownBlock = some k → k ≠ hb) (u : Value) : OwnDs (w.setCell ⟨hb, i, none⟩ u) base v l :=
  ⟨owns_far h.1 hv u, fun d hd => ⟨owns_far (h.2 d hd).1 (hp d hd) u, (h.2 d hd).2⟩⟩
/-- Two lists that read alike. -/
theorem bare_nth {a b : List DoneS} (h : a.map DoneS.bare = b.map DoneS.bare) (j : Nat) : (nthD a j).l = (nthD b j).l := by
  have h1 := nthD_bare a j
  have h2 := nthD_bare b j
  rw [h] at h1
  have h3 : (nthD a j).bare.l = (nthD b j).bare.l := by rw [h1.trans h2.symm]
  exact h3
/-- What the call holds while the packets are copied. -/
structure KI (w W2 : World) (S1 N M q : Nat) (ha ga oa : Option Addr) (hcap gcap oc : Nat) (L G H : List DoneS) (o1 : List Int) (i : Nat) (wr : World) : Prop where
  hk : HK15 wr L H i
  row : wr.ownsRow W2.heap.size 42 12 (.slice ha N hcap) N (doneC H)
  g : OwnDs wr S1 (.slice ga N gcap) G
  p : wr.ownsRow W2.heap.size 3 1 (.slice oa M oc) M (ints o1)
  own : OwnedI wr q M o1 99
  bel : Below W2.heap.size W2 wr
set_option maxHeartbeats 4000000 in
theorem linKept_in (c : Cfg) (hu : W64 c.unit) (ao a1 a2 a3 : Option Addr) (n0 n1 n2 n3 c0 c1 c2 c3 : Nat) (cs : List CallS) (ws rs os : List Int) (w : World) (h : RdC w ao n0 c0 cs) (hw : RdI w a1 n1 c1 ws) (hr : RdI w a2 n2 c2 rs) (ho : RdI w a3 n3 c3 os) (hn : n0 ≤ 1048576) :
    Calls Tryz.prog 9 #[.agg #[.int .i64 c.shards, .int .i64 c.slots, .int .i64 c.workers, .int .i64 c.width, .int .u64 c.unit], .slice ao n0 c0, .slice a1 n1 c1, .slice a2 n2 c2, .slice a3 n3 c3] w fun e w' => e = .returned (.bool true) ∧ Below w.heap.size w w' := by
  have HC := Lib.hid h
  have HW := Lib.hid hw
  have HR := Lib.hid hr
  have HO := Lib.hid ho
  clear h hw hr ho
  have I := CfgIn.start w c
  have C0 := config_any c hu
  have hcR := confP_r15 c hu
  have hR := confP_right c hu
  have hu' := (confP_ok c hu).unit
  go_enter Tryz.func9, Tryz.ntmps9
  go_upto_region 1 with fail
  generalize (w.alloc (.cells #[.int .i64 c.shards, .int .i64 c.slots, .int .i64 c.workers, .int .i64 c.width, .int .u64 c.unit] 24)) = W at *
  obtain ⟨x0, x1, x2, x3, x4, xl⟩ := I.cells
  have HI := Lib.hid I
  clear I
  go_wp2_with fail
  refine (C0 _).mono ?_
  rintro e W1 ⟨rfl, hb1⟩
  replace HI : Hid (CfgIn w W1 c) := Lib.hid (HI.out.below hb1)
  clear hb1 x0 x1 x2 x3 x4 xl C0
  obtain ⟨x0, x1, x2, x3, x4, xl⟩ := HI.out.cells
  obtain ⟨f0, f1, f2, f3, f4⟩ := HI.out.frozen
  replace HI := Lib.hid (HI.out.set (confP c))
  obtain ⟨c', hcc⟩ : ∃ c', confP c = c' := ⟨_, rfl⟩
  rw [hcc] at HI hcR hR hu'
  rw [hcc]
  have HCR := Lib.hid hcR
  have HRT := Lib.hid hR
  have HU := Lib.hid hu'
  clear hcc hcR hR hu'
  go_upto_region 2 with fail
  generalize (((((W1.setCell ⟨w.heap.size, 0, none⟩ (.int .i64 c'.shards)).setCell ⟨w.heap.size, 1, none⟩ (.int .i64 c'.slots)).setCell ⟨w.heap.size, 2, none⟩ (.int .i64 c'.workers)).setCell ⟨w.heap.size, 3, none⟩ (.int .i64 c'.width)).setCell ⟨w.heap.size, 4, none⟩ (.int .u64 c'.unit)) = W2 at *
  clear x0 x1 x2 x3 x4 xl f0 f1 f2 f3 f4
  obtain ⟨x0, x1, x2, x3, x4, xl⟩ := HI.out.cells
  have MD := Lib.hid (fun (W : World) (hb : Below w.heap.size w W) => made15_any c' HCR.out ao a1 a2 n0 n1 n2 c0 c1 c2 cs ws rs 7 W (HC.out.below hb) (RdI.below (B := 0) HW.out hb) (RdI.below (B := 0) HR.out hb) hn (by omega))
  have HX := Lib.hid (made_x c' cs ws rs 7)
  generalize (madeS c' cs ws rs 7).out = X at *
  have HI2 := HI
  go_wp2_with fail
  refine wp_region_held_drew (S := (fun w' => Below W2.heap.size W2 w' ∧ (∀ b o, b < W2.heap.size → w'.cell? ⟨b, o, none⟩ = W2.cell? ⟨b, o, none⟩))) (by kernel_rfl) ?_ (fun hHeld => ?_)
  · exact hs_refl (Below.refl _ _).drew
  refine wpAnyH_take (i := 0) (v := ?_) rfl (by kernel_rfl) (by kernel_rfl) (by kernel_rfl) (fun _ _ _ h => h) (Or.inl ⟨by rfl, ?_⟩) (by assumption) ?_
  rotate_left
  · intro w hSw
    (try dsimp only at hSw)
    first | (go_simp; done) | (go_simp; with_reducible rfl)
  try simp only [List.getElem_toArray, List.getElem_cons_succ, List.getElem_cons_zero, Act.put, List.setIfInBounds_toArray, List.set_cons_zero, List.set_cons_succ]
  refine wpAnyH_take (i := 1) (v := ?_) rfl (by kernel_rfl) (by kernel_rfl) (by kernel_rfl) (fun _ _ _ h => h) (Or.inl ⟨by rfl, ?_⟩) (by assumption) ?_
  rotate_left
  · intro w hSw
    (try dsimp only at hSw)
    first | (go_simp; done) | (go_simp; with_reducible rfl)
  try simp only [List.getElem_toArray, List.getElem_cons_succ, List.getElem_cons_zero, Act.put, List.setIfInBounds_toArray, List.set_cons_zero, List.set_cons_succ]
  refine wpAnyH_take (i := 2) (v := ?_) rfl (by kernel_rfl) (by kernel_rfl) (by kernel_rfl) (fun _ _ _ h => h) (Or.inl ⟨by rfl, ?_⟩) (by assumption) ?_
  rotate_left
  · intro w hSw
    (try dsimp only at hSw)
    first | (go_simp; done) | (go_simp; with_reducible rfl)
  try simp only [List.getElem_toArray, List.getElem_cons_succ, List.getElem_cons_zero, Act.put, List.setIfInBounds_toArray, List.set_cons_zero, List.set_cons_succ]
  refine wpAnyH_take (i := 3) (v := ?_) rfl (by kernel_rfl) (by kernel_rfl) (by kernel_rfl) (fun _ _ _ h => h) (Or.inl ⟨by rfl, ?_⟩) (by assumption) ?_
  rotate_left
  · intro w hSw
    (try dsimp only at hSw)
    first | (go_simp; done) | (go_simp; with_reducible rfl)
  try simp only [List.getElem_toArray, List.getElem_cons_succ, List.getElem_cons_zero, Act.put, List.setIfInBounds_toArray, List.set_cons_zero, List.set_cons_succ]
  refine wpAnyH_take (i := 5) (v := ?_) rfl (by kernel_rfl) (by kernel_rfl) (by kernel_rfl) (fun _ _ _ h => h) (Or.inl ⟨by rfl, ?_⟩) (by assumption) ?_
  rotate_left
  · intro w hSw
    (try dsimp only at hSw)
    first | (go_simp; done) | (go_simp; with_reducible rfl)
  try simp only [List.getElem_toArray, List.getElem_cons_succ, List.getElem_cons_zero, Act.put, List.setIfInBounds_toArray, List.set_cons_zero, List.set_cons_succ]
  refine wpAnyH_take (i := 6) (v := ?_) rfl (by kernel_rfl) (by kernel_rfl) (by kernel_rfl) (fun _ _ _ h => h) (Or.inl ⟨by rfl, ?_⟩) (by assumption) ?_
  rotate_left
  · intro w hSw
    (try dsimp only at hSw)
    first | (go_simp; done) | (go_simp; with_reducible rfl)
  try simp only [List.getElem_toArray, List.getElem_cons_succ, List.getElem_cons_zero, Act.put, List.setIfInBounds_toArray, List.set_cons_zero, List.set_cons_succ]
  refine wpAnyH_take (i := 7) (v := ?_) rfl (by kernel_rfl) (by kernel_rfl) (by kernel_rfl) (fun _ _ _ h => h) (Or.inl ⟨by rfl, ?_⟩) (by assumption) ?_
  rotate_left
  · intro w hSw
    (try dsimp only at hSw)
    first | (go_simp; done) | (go_simp; with_reducible rfl)
  try simp only [List.getElem_toArray, List.getElem_cons_succ, List.getElem_cons_zero, Act.put, List.setIfInBounds_toArray, List.set_cons_zero, List.set_cons_succ]
  refine wpAnyH_take (i := 8) (v := ?_) rfl (by kernel_rfl) (by kernel_rfl) (by kernel_rfl) (fun _ _ _ h => h) (Or.inl ⟨by rfl, ?_⟩) (by assumption) ?_
  rotate_left
  · intro w hSw
    (try dsimp only at hSw)
    first | (go_simp; done) | (go_simp; with_reducible rfl)
  try simp only [List.getElem_toArray, List.getElem_cons_succ, List.getElem_cons_zero, Act.put, List.setIfInBounds_toArray, List.set_cons_zero, List.set_cons_succ]
  refine wpAnyH_ready (rs := [4]) (by kernel_rfl) (by simp) ?_
  refine AllReadyH.cons rfl (fun K hK => ?_) AllReadyH.nil
  go_simp
  (go_at_call 11; refine (MD.out _ (HI2.out.bel.trans (hHeld.1.mono HI2.out.bel.size))).mono ?_; rintro e w' ⟨ha, hcap, lh, rfl, hownh, hbareh, hb'⟩; have HOH : Hid (OwnDs w' W2.heap.size (.slice ha lh.length hcap) lh) := Lib.hid hownh; have HBH := Lib.hid hbareh; clear hownh hbareh; go_wp2_with fail)
  refine hK.out _ _ ?_ (fun hHeld => ?_)
  · exact hs_step hHeld hb'
  clear hK K
  try simp only [List.getElem_toArray, List.getElem_cons_succ, List.getElem_cons_zero, Act.put, List.setIfInBounds_toArray, List.set_cons_zero, List.set_cons_succ]
  refine wpAnyH_ready (rs := [9]) (by kernel_rfl) (by simp) ?_
  refine AllReadyH.cons rfl (fun K hK => ?_) AllReadyH.nil
  go_simp
  (go_at_call 11; obtain ⟨S1, hS1⟩ : ∃ s, s = w'.heap.size := ⟨_, rfl⟩; have HHB : Hid (∀ k, (Value.slice ha lh.length hcap).ownBlock = some k → W2.heap.size ≤ k ∧ k < S1) := Lib.hid (by rw [hS1]; exact owns_lt HOH.out.1); refine (MD.out _ (HI2.out.bel.trans (hHeld.1.mono HI2.out.bel.size))).mono ?_; rintro e w' ⟨ga, gcap, lg, rfl, howng, hbareg, hb'⟩; replace HOH := Lib.hid (HOH.out.below hb'); rw [← hS1] at howng; have HOG := Lib.hid howng; have HBG := Lib.hid hbareg; clear howng hbareg hS1; go_wp2_with fail)
  refine hK.out _ _ ?_ (fun hHeld => ?_)
  · exact hs_step hHeld hb'
  clear hK K
  try simp only [List.getElem_toArray, List.getElem_cons_succ, List.getElem_cons_zero, Act.put, List.setIfInBounds_toArray, List.set_cons_zero, List.set_cons_succ]
  refine wpAnyH_take (i := 10) (v := ?_) rfl (by kernel_rfl) (by kernel_rfl) (by kernel_rfl) (fun _ _ _ h => h) (Or.inl ⟨by rfl, ?_⟩) (by assumption) ?_
  rotate_left
  · intro w hSw
    (try dsimp only at hSw)
    first | (go_simp; done) | (go_simp; with_reducible rfl)
  try simp only [List.getElem_toArray, List.getElem_cons_succ, List.getElem_cons_zero, Act.put, List.setIfInBounds_toArray, List.set_cons_zero, List.set_cons_succ]
  refine wpAnyH_take (i := 11) (v := ?_) rfl (by kernel_rfl) (by kernel_rfl) (by kernel_rfl) (fun _ _ _ h => h) (Or.inl ⟨by rfl, ?_⟩) (by assumption) ?_
  rotate_left
  · intro w hSw
    (try dsimp only at hSw)
    first | (go_simp; done) | (go_simp; with_reducible rfl)
  try simp only [List.getElem_toArray, List.getElem_cons_succ, List.getElem_cons_zero, Act.put, List.setIfInBounds_toArray, List.set_cons_zero, List.set_cons_succ]
  refine wpAnyH_done (by kernel_rfl) ?_ _
  have hS2 := hHeld.1
  have hNX : lh.length = X.length := by rw [← HBH.out, List.length_map]
  have hGX : lg.length = X.length := by rw [← HBG.out, List.length_map]
  have hN7 : X.length ≤ 7 := HX.out.len
  obtain ⟨N, hN⟩ : ∃ N, X.length = N := ⟨_, rfl⟩
  rw [hN] at hNX hGX hN7
  have HNH := Lib.hid hNX
  have HNG := Lib.hid hGX
  rw [hNX, hGX]
  generalize hw3 : w' = W3 at *
  clear hw3
  have HI : Hid (CfgIn w W3 c') := Lib.hid (HI2.out.below hS2)
  have HS2 := Lib.hid hS2
  have rdh : RdD W3 ha N hcap lh := by have := HOH.out; rw [hNX] at this; exact this.rd
  have HPAR := Lib.hid (HX.out.par (by omega) HBH.out rdh)
  have HRD := Lib.hid rdh
  have HPL := Lib.hid (HX.out.parts (by omega))
  have HPP := Lib.hid (show partsD lh = partsD X by rw [← HBH.out, partsD_bare])
  clear rdh hS2 hHeld hN x0 x1 x2 x3 x4 xl
  go_wp2_with fail
  refine (H.refParts_any _ _ _ lh W3 HRD.out HPAR.out.1 HPAR.out.big).mono ?_
  rintro e W4 ⟨v4, l4, rfl, hmap, hown4, hb4⟩
  obtain ⟨pa, pc, rfl⟩ := hown4.slice
  have hPN : l4.length = (partsD X).length := by rw [← HPP.out, ← hmap, List.length_map]
  rw [hPN]
  obtain ⟨P, hP⟩ : ∃ P, (partsD X).length = P := ⟨_, rfl⟩
  rw [hP] at HPL
  rw [hP]
  have hp1 := HPL.out
  have HB4 := Lib.hid hb4
  replace HI := Lib.hid (HI.out.below hb4)
  clear hb4 hown4 hmap hPN hP HPL
  go_wp2_with fail
  refine (ord15_any a3 n3 c3 os P _ (RdI.below (B := 0) HO.out HI.out.bel) (by omega)).mono ?_
  rintro e W5 ⟨oa, oc, o1, rfl, hown5, hos5, -, hol5, hb5⟩
  replace HI := Lib.hid (HI.out.below hb5)
  obtain ⟨M, hM⟩ : ∃ M, o1.length = M := ⟨_, rfl⟩
  rw [hM] at hown5 hol5
  rw [hM]
  have hM3 : M ≤ 300 := by omega
  have HM := Lib.hid hM
  have HB5 := Lib.hid (below_step HB4.out hb5)
  have HP1 := Lib.hid (owns_base hown5 (show W2.heap.size ≤ W4.heap.size by have h1 := HB4.out.size; have h2 := HS2.out.size; omega))
  have HOS := Lib.hid hos5
  clear hb5 hown5 hos5 hol5 hM HB4
  go_wp2_with fail
  refine (ownI_any oa M oc o1 99 W5 (owns_rdI HP1.out HOS.out) (by omega)).mono ?_
  rintro e W6 ⟨q, rfl, hqge, hqlt, howned, hb6⟩
  have HB6 := Lib.hid (below_step HB5.out hb6)
  have K0 : KI w W2 S1 N M q ha ga oa hcap gcap oc lh lg lh o1 0 W6 := ⟨⟨rfl, fun j _ hj => absurd hj (Nat.not_lt_zero _), fun j _ _ => rfl⟩, by have := owns_below (B := 0) HOH.out.1 HB6.out; rw [HNH.out] at this; exact this, by have := HOG.out.below HB6.out; rw [HNG.out] at this; exact this, owns_below (B := 0) HP1.out hb6, howned, HS2.out.trans (HB6.out.mono HS2.out.size)⟩
  have HK0 := Lib.hid K0
  have HLT : Hid (∀ k, (Value.slice ha N hcap).ownBlock = some k → k < S1) := Lib.hid (by have := HHB.out; rw [HNH.out] at this; exact fun k hk => (this k hk).2)
  have HOKH : Hid (∀ d ∈ lh, d.Ok ∧ ∀ p ∈ d.l, p.Ok) := Lib.hid fun d hd => (HOH.out.2 d hd).2
  have HBB : Hid (lh.map DoneS.bare = lg.map DoneS.bare) := Lib.hid (by rw [HBH.out, HBG.out])
  have HLEN : Hid (∀ j, j < N → (nthD lh j).len = (nthD lg j).len ∧ (nthD lh j).l = (nthD lg j).l ∧ (nthD lg j).len ≤ 1000) := Lib.hid fun j hj => by
    have e1 := bare_nth HBB.out j
    have m1 : nthD lh j ∈ lh := by rw [nthD_eq (by rw [HNH.out]; exact hj)]; exact List.getElem_mem _
    have m2 : nthD lg j ∈ lg := by rw [nthD_eq (by rw [HNG.out]; exact hj)]; exact List.getElem_mem _
    have r1 := (HOH.out.2 _ m1).rd.2.len
    have r2 := (HOG.out.2 _ m2).rd.2.len
    have r3 := HPAR.out.2 _ m1
    rw [e1] at r1
    exact ⟨by omega, e1, by omega⟩
  clear K0 hb6 howned hqge HRD HPAR HB5 HB6 HP1 HOH HOG HHB
  go_wp2_with fail
  go_loopw [15] (fun v15 wr => ∃ (i : Nat) (H : List DoneS), i ≤ N ∧ v15 = .int .i64 i ∧ KI w W2 S1 N M q ha ga oa hcap gcap oc lh lg H o1 i wr) (fun v15 _ => N - (intOf v15).toNat)
  case atStart => exact ⟨0, lh, Nat.zero_le _, rfl, HK0.out⟩
  case round =>
    clear HK0
    obtain ⟨i, H, hi, rfl, ki⟩ := hrel
    have HKI := Lib.hid ki
    clear ki
    by_cases hl : i < N
    · have i1 : (i : Int) < (N : Int) := by omega
      have hiL : i < lh.length := by rw [HNH.out]; exact hl
      have hiG : i < lg.length := by rw [HNG.out]; exact hl
      have hiH : i < H.length := by rw [HKI.out.hk.len]; exact hiL
      obtain ⟨hb, rfl, hbge, hblt, hb7⟩ := owns_at HKI.out.row (recs_at doneS_cells H i _ (nthD_some hiH) 7 _ rfl)
      obtain ⟨gb, rfl, gbge, gblt, gb7⟩ := owns_at (by have := HKI.out.g.1; rw [HNG.out] at this; exact this) (recs_at doneS_cells lg i _ (nthD_some hiG) 7 _ rfl)
      rw [Nat.zero_add] at hb7 gb7
      rw [HKI.out.hk.rest i hiL (Nat.le_refl _)] at hb7
      have hbl := HLT.out hb rfl
      have hfr := HKI.out.row.frozenAt (i * 12 + 7)
      have gb7' : wr.cell? ⟨gb, i * 12 + 6 + 1, none⟩ = some (.slice (nthD lg i).ao (nthD lg i).len (nthD lg i).cap) := gb7
      have hmem : nthD lg i ∈ lg := by rw [nthD_eq hiG]; exact List.getElem_mem _
      have HRK := Lib.hid ((HKI.out.g.2 _ hmem).rd.2)
      obtain ⟨hle1, hle2, hle3⟩ := HLEN.out i hl
      have HL2 := Lib.hid hle2
      have HL1 := Lib.hid hle1
      clear hfr hle1 hle2 hmem
      go_wp2_with fail
      refine (ownK3_any _ _ _ (nthD lg i).l fK15 _ HRK.out (by omega)).mono ?_
      rintro e w5 ⟨g, rfl, hgge, hglt, howned, hb5⟩
      have hrow5 := owns_below (B := 0) HKI.out.row hb5
      have hst := hrow5.stored (i * 12 + 7) (.slice (some ⟨g, 0, none⟩) (nthD lg i).len ((nthD lg i).len + 3))
      have hset : (doneC H).set (i * 12 + 7) (.slice (some ⟨g, 0, none⟩) (nthD lg i).len ((nthD lg i).len + 3)) = doneC (H.set i (keptL (nthD lh i) g)) := recs_set1 doneS_cells H i 7 _ _ _ (nthD_some hiH) (by omega) (by rw [HKI.out.hk.rest i hiL (Nat.le_refl _), ← HL1.out]; rfl)
      rw [hset] at hst
      have hHB : ∀ k, (Value.slice (some (⟨g, 0, none⟩ : Addr)) ((nthD lg i).len + 3) ((nthD lg i).len + 3)).ownBlock = some k → k ≠ hb := fun k hk e => tag_ne hrow5 howned.2 (by decide) k hk (by rw [e]; rfl)
      have hK2 : HK15 (w5.setCell ⟨hb, i * 12 + 7, none⟩ (.slice (some ⟨g, 0, none⟩) (nthD lg i).len ((nthD lg i).len + 3))) lh (H.set i (keptL (nthD lh i) g)) (i + 1) := by
        refine ⟨by rw [List.length_set]; exact HKI.out.hk.len, fun j hj hji => ?_, fun j hj hji => ?_⟩
        · rw [nthD_setJ hiH]
          by_cases e : j = i
          · subst e
            refine ⟨g, by rw [if_pos rfl], ?_⟩
            rw [HL1.out, HL2.out]
            exact ⟨howned.1, owns_far howned.2 hHB _⟩
          · rw [if_neg e]
            obtain ⟨g2, h1, h2⟩ := HKI.out.hk.own j hj (by omega)
            have h3 := h2.below hb5
            exact ⟨g2, h1, h3.1, owns_far h3.2 (fun k hk e => tag_ne hrow5 h3.2 (by decide) k hk (by rw [e]; rfl)) _⟩
        · rw [nthD_setJ hiH, if_neg (by omega)]
          exact HKI.out.hk.rest j hj (by omega)
      have hg5 := HKI.out.g.below hb5
      have hg2 := ownDs_farG hg5 (hb := hb) (i := i * 12 + 7) (fun k hk e => by have h1 : gb = k := Option.some.inj hk; omega) (fun d hd k hk e => tag_ne hrow5 (hg5.2 d hd).1 (by decide) k hk (by rw [e]; rfl)) (.slice (some ⟨g, 0, none⟩) (nthD lg i).len ((nthD lg i).len + 3))
      have hp5 := owns_below (B := 0) HKI.out.p hb5
      have hp2 := owns_far (i := i * 12 + 7) hp5 (fun k hk e => tag_ne hrow5 hp5 (by decide) k hk (by rw [e]; rfl)) (.slice (some ⟨g, 0, none⟩) (nthD lg i).len ((nthD lg i).len + 3))
      have ho5 := HKI.out.own.below hb5
      have ho2 : OwnedI (w5.setCell ⟨hb, i * 12 + 7, none⟩ (.slice (some ⟨g, 0, none⟩) (nthD lg i).len ((nthD lg i).len + 3))) q M o1 99 := ⟨ho5.1, owns_far (i := i * 12 + 7) ho5.2 (fun k hk e => tag_ne hrow5 ho5.2 (by decide) k hk (by rw [e]; rfl)) _⟩
      have hbb := (HKI.out.bel.trans (hb5.mono HKI.out.bel.size)).setCell (p := ⟨hb, i * 12 + 7, none⟩) hbge (.slice (some ⟨g, 0, none⟩) (nthD lg i).len ((nthD lg i).len + 3))
      have hb75 : w5.cell? ⟨hb, i * 12 + 7, none⟩ = some (.slice (nthD lh i).ao (nthD lh i).len (nthD lh i).cap) := (hb5.cell (p := ⟨hb, i * 12 + 7, none⟩) hblt).trans hb7
      have hfr5 := hrow5.frozenAt (i * 12 + 7)
      have hb75' : w5.cell? ⟨hb, i * 12 + 6 + 1, none⟩ = some (.slice (nthD lh i).ao (nthD lh i).len (nthD lh i).cap) := hb75
      have hfr5' : w5.frozen? ⟨hb, i * 12 + 6 + 1, none⟩ = false := hfr5
      have S := Lib.hid (show KI w W2 S1 N M q (some ⟨hb, 0, none⟩) (some ⟨gb, 0, none⟩) oa hcap gcap oc lh lg (H.set i (keptL (nthD lh i) g)) o1 (i + 1) (w5.setCell ⟨hb, i * 12 + 7, none⟩ (.slice (some ⟨g, 0, none⟩) (nthD lg i).len ((nthD lg i).len + 3))) from ⟨hK2, hst.1, hg2, hp2, ho2, hbb⟩)
      have hblt5 : hb < w5.heap.size := Nat.lt_of_lt_of_le hblt hb5.size
      clear hst hset hHB hK2 hg2 hbb hrow5 howned hb7 gb7 gb7' hb5 hp5 hp2 ho5 ho2 hg5 HKI
      go_wp2
      go_roundw
      case rel => exact ⟨i + 1, _, by omega, by go_num, S.out⟩
      case measure => simp [intOf]; omega
    · obtain rfl : i = N := by omega
      have i1 : ¬ (i : Int) < (i : Int) := by omega
      have hke : HK15 wr lh H lh.length := by rw [HNH.out]; exact HKI.out.hk
      have hgH : GoodD wr H := hke.good HOKH.out
      have rdH : RdD wr ha i hcap H := owns_rdD HKI.out.row (HKI.out.hk.len.trans HNH.out) hgH
      have rdG : RdD wr ga i gcap lg := by have := HKI.out.g; rw [← HNG.out] at this ⊢; exact this.rd
      have HBX : Hid (H.map DoneS.bare = X) := Lib.hid (hke.bare.trans HBH.out)
      have HPAR := Lib.hid (HX.out.par (by omega) HBX.out rdH)
      have HPARG := Lib.hid (HX.out.par (by omega) HBG.out rdG)
      replace HI := Lib.hid (HI2.out.below HKI.out.bel)
      have HOWN := Lib.hid HKI.out.own
      have HP1 := Lib.hid (owns_rdI HKI.out.p HOS.out)
      have HKE := Lib.hid hke
      have RDH := Lib.hid rdH
      have RDG := Lib.hid rdG
      clear hke hgH rdH rdG HKI HI2 HLT HX HOKH
      generalize wr = W0 at *
      obtain ⟨x0, x1, x2, x3, x4, xl⟩ := HI.out.cells
      have HFF : Hid (fitsB c' lg o1 = fitsB c' H o1) := Lib.hid (by rw [← fitsB_bare, HBG.out, ← HBX.out, fitsB_bare])
      go_wp2_with fail
      refine (linFits_any c' HU.out ha i hcap H (some ⟨q, 0, none⟩) M (M + 3) o1 W0 RDH.out HPAR.out (HOWN.out.rd HOS.out) (by omega)).mono ?_
      obtain ⟨bf, hbf⟩ : ∃ b, fitsB c' H o1 = b := ⟨_, rfl⟩
      rw [hbf] at HFF ⊢
      clear hbf
      rintro e W7 ⟨rfl, hb7⟩
      replace HI := Lib.hid (HI.out.below hb7)
      replace RDH := Lib.hid (RDH.out.below hb7)
      have HB7 := Lib.hid hb7
      clear hb7 x0 x1 x2 x3 x4 xl
      obtain ⟨x0, x1, x2, x3, x4, xl⟩ := HI.out.cells
      go_wp2_with fail
      refine (linSearch_any c' HU.out ha i hcap H W7 RDH.out HPAR.out).mono ?_
      rintro e W8 ⟨hret, hb8⟩
      have hret2 : ∃ v nn zs b, e = .returned (.tuple #[v, .bool b]) ∧ W8.ownsRow W7.heap.size 3 1 v nn (ints zs) := by
        cases hf : foundB c' H with
        | none => rw [hf] at hret; exact ⟨_, 0, [], _, hret, owns_nil _ _ _ _⟩
        | some l => rw [hf] at hret; obtain ⟨aa, cc, e1, e2⟩ := hret; exact ⟨_, _, _, _, e1, e2⟩
      obtain ⟨v, nn, zs, bb, rfl, hv⟩ := hret2
      have HV := Lib.hid hv
      have HB8 := Lib.hid hb8
      clear hret hv hb8 x0 x1 x2 x3 x4 xl
      go_wp2_with fail
      refine (spoilI_any v nn W7.heap.size zs W8 HV.out).mono ?_
      rintro e W9 ⟨rfl, hg9⟩
      have hb9 : Below W7.heap.size W7 W9 := HB8.out.grown hg9 HB8.out.size fun q hq => (HV.out.lt q hq).1
      have hb09 : Below W0.heap.size W0 W9 := HB7.out.trans (hb9.mono HB7.out.size)
      replace HI := Lib.hid (HI.out.below hb9)
      replace RDH := Lib.hid (RDH.out.below hb9)
      replace RDG := Lib.hid (RDG.out.below hb09)
      replace HOWN := Lib.hid (HOWN.out.below hb09)
      replace HP1 := Lib.hid (RdI.below (B := 0) HP1.out hb09)
      replace HKE := Lib.hid (HKE.out.below hb09)
      clear hb9 hb09 hg9 HV HB8 HB7
      go_wp2_with fail
      go_loopw [19] (fun v19 wr => ∃ k : Nat, k ≤ i ∧ v19 = .int .i64 k ∧ Below W9.heap.size W9 wr) (fun v19 _ => i - (intOf v19).toNat)
      case atStart => exact ⟨0, Nat.zero_le _, rfl, Below.refl _ _⟩
      case round =>
        obtain ⟨k, hk, rfl, hbz⟩ := hrel
        by_cases hl3 : k < i
        · have hkL : k < lh.length := by rw [HNH.out]; exact hl3
          obtain ⟨g, hge, hgo⟩ := HKE.out.own k hkL hkL
          obtain ⟨hb, ho, rfl, hblt, hbc⟩ := RDH.out.cells hl3
          obtain ⟨gb, go, rfl, gblt, gbc⟩ := RDG.out.cells hl3
          have x7 := hbc wr hbz 7 _ rfl
          have y7 := gbc wr hbz 7 _ rfl
          rw [hge] at x7
          simp only [keptL] at x7
          obtain ⟨hle1, hle2, hle3⟩ := HLEN.out k hl3
          rw [hle1, hle2] at hgo
          rw [hle1] at x7
          have Q := Lib.hid fun w' (hs : Below wr.heap.size wr w') => keptK_any g (nthD lg k).len (nthD lg k).ao (nthD lg k).cap (nthD lg k).l fK15 w' (hgo.below (hbz.trans (hs.mono hbz.size))) ((RDG.out.nth hl3).2.below (hbz.trans (hs.mono hbz.size))) (by omega)
          have hbl : hb < wr.heap.size := Nat.lt_of_lt_of_le hblt hbz.size
          have gbl : gb < wr.heap.size := Nat.lt_of_lt_of_le gblt hbz.size
          have kI : (k : Int) < (i : Int) := by omega
          have x7' : wr.cell? ⟨hb, ho + k * 12 + 6 + 1, none⟩ = some (.slice (some ⟨g, 0, none⟩) (nthD lg k).len ((nthD lg k).len + 3)) := x7
          have y7' : wr.cell? ⟨gb, go + k * 12 + 6 + 1, none⟩ = some (.slice (nthD lg k).ao (nthD lg k).len (nthD lg k).cap) := y7
          clear hge hgo hbc gbc hle1 hle2 hle3
          go_wp2_with fail
          go_region_held3 (fun w' => Below wr.heap.size wr w' ∧ (∀ b o, b < wr.heap.size → w'.cell? ⟨b, o, none⟩ = wr.cell? ⟨b, o, none⟩)) (first | exact hs_refl ((Below.refl _ _).drew) | assumption | exact hs_step (by assumption) (by assumption))
            (first | (go_at_call 27; (with_reducible refine (Q.out _ (And.left (by assumption))).mono ?_); rintro e w' ⟨rfl, hb'⟩))
          have hSz := ‹Below wr.heap.size wr _ ∧ _›.1
          go_wp2
          go_roundw
          case rel => exact ⟨k + 1, by omega, by go_num, hbz.trans (hSz.mono hbz.size)⟩
          case measure => simp [intOf]; omega
        · obtain rfl : k = i := by omega
          have k1 : ¬ (k : Int) < (k : Int) := by omega
          replace HI := Lib.hid (HI.out.below hbz)
          have QK := Lib.hid (fun (W : World) (hb : Below wr.heap.size wr W) => keptI_any q M oa oc o1 99 W (HOWN.out.below (hbz.trans (hb.mono hbz.size))) (RdI.below (B := 0) HP1.out (hbz.trans (hb.mono hbz.size))) (by omega))
          have QS := Lib.hid (fun (W : World) (hb : Below wr.heap.size wr W) => sameD_any ha ga k hcap gcap H lg W (RDH.out.below (hbz.trans (hb.mono hbz.size))) (RDG.out.below (hbz.trans (hb.mono hbz.size))) (HBX.out.trans HBG.out.symm))
          have QF := Lib.hid (fun (W : World) (hb : Below wr.heap.size wr W) => refFits_any c' ga k gcap lg oa M oc o1 W (RDG.out.below (hbz.trans (hb.mono hbz.size))) HPARG.out (RdI.below (B := 0) HP1.out (hbz.trans (hb.mono hbz.size))))
          rw [HFF.out] at QF
          have e1 : (bf == bf) = true := by simp
          obtain ⟨x0, x1, x2, x3, x4, xl⟩ := HI.out.cells
          have HBEL := Lib.hid HI.out.bel
          clear HKE RDH RDG HOWN HP1 hbz HI
          go_wp2_with fail
          refine (awake15_any wr).mono ?_
          rintro e w7 ⟨rfl, hb7⟩
          go_wp2_with fail
          refine (QK.out w7 hb7).mono ?_
          rintro e w8 ⟨rfl, hb8⟩
          have hb8' := below_step hb7 hb8
          go_wp2_with fail
          refine (QS.out w8 hb8').mono ?_
          rintro e w9 ⟨rfl, hb9⟩
          have hb9' := below_step hb8' hb9
          clear hb7 hb8 hb8' hb9
          have z0 := hb9'.cell (p := ⟨w.heap.size, 0, none⟩) xl
          have z1 := hb9'.cell (p := ⟨w.heap.size, 1, none⟩) xl
          have z2 := hb9'.cell (p := ⟨w.heap.size, 2, none⟩) xl
          have z3 := hb9'.cell (p := ⟨w.heap.size, 3, none⟩) xl
          have z4 := hb9'.cell (p := ⟨w.heap.size, 4, none⟩) xl
          rw [x0] at z0
          rw [x1] at z1
          rw [x2] at z2
          rw [x3] at z3
          rw [x4] at z4
          have zl := Nat.lt_of_lt_of_le xl hb9'.size
          have HB9 := Lib.hid hb9'
          clear hb9'
          go_wp2_with fail
          refine (QF.out w9 HB9.out).mono ?_
          rintro e w10 ⟨rfl, hb10⟩
          go_wp2
          go_ret
          exact ⟨rfl, HBEL.out.trans ((below_step HB9.out hb10).mono HBEL.out.size)⟩
theorem LinKept_any (w : World) (c : List Value) (w0 : FlatOk [.int .i64, .int .i64, .int .i64, .int .i64, .int .u64] c) (ao : Option Addr) (n cap : Nat) (L : List (List Value)) (h1 : IsRows w [.int .i64, .int .i64, .int .i64, .int .i64] ao n cap L) (s1 : n ≤ 1048576)
    (a1 : Option Addr) (n1 c1 : Nat) (L1 : List (List Value)) (h2 : IsRows w [.int .i64] a1 n1 c1 L1) (s2 : n1 ≤ 1048576) (a2 : Option Addr) (n2 c2 : Nat) (L2 : List (List Value)) (h3 : IsRows w [.int .i64] a2 n2 c2 L2) (s3 : n2 ≤ 1048576) (a3 : Option Addr) (n3 c3 : Nat) (L3 : List (List Value)) (h4 : IsRows w [.int .i64] a3 n3 c3 L3) (s4 : n3 ≤ 1048576) :
    Calls Tryz.prog 9 #[.agg c.toArray, .slice ao n cap, .slice a1 n1 c1, .slice a2 n2 c2, .slice a3 n3 c3] w fun e w' => e = .returned (.bool true) ∧ Below w.heap.size w w' := by
  obtain ⟨d, rfl, hu⟩ := cfg_of w0
  obtain ⟨l, r1⟩ := isRows_rdC h1
  obtain ⟨p, r2⟩ := isRows_rdI h2
  obtain ⟨q, r3⟩ := isRows_rdI h3
  obtain ⟨r, r4⟩ := isRows_rdI h4
  exact linKept_in d hu ao a1 a2 a3 n n1 n2 n3 cap c1 c2 c3 l p q r w r1 r2 r3 r4 s1
end Go.Proofs.YtdjooacjjnjfmaaGreat
