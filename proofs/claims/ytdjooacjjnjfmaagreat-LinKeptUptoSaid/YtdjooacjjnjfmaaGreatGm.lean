/- Several texts in one: CopyS CopyR CopyM CopyRM. -/
import Derived.Test.YtdjooacjjnjfmaaGreatGd
import Derived.Test.YtdjooacjjnjfmaaGreatGe
import Derived.Deep.RegionLaw
import Derived.Deep.CutRange
import Derived.Test.YtdjooacjjnjfmaaGreatGh
import Derived.Test.YtdjooacjjnjfmaaGreatShlfC
import Derived.Shelf.SlMaps.Clone
import Derived.Deep.RegionHeld3
import Derived.Test.YtdjooacjjnjfmaaGreatGj
-- A set of flows: a copy of it.
section
namespace Go.Proofs.YtdjooacjjnjfmaaGreat
set_option linter.unusedVariables false
set_option linter.unusedSimpArgs false
set_option maxRecDepth 20000
open Go.RowKit Go.Proofs.YtdjooacjjnjfmaaGreatMem Go.Proofs.YtdjooacjjnjfmaaGreatMapK

/-- Under way: the flows d have been copied. -/
structure CpSt (w wr : World) (mb r c cm : Nat) (v most : Int) (l d : List FlR) : Prop where
  sub : ∀ e ∈ d, e ∈ l
  it : IterAt wr r mb (Value.int .i64) (l.map FlR.ent) (d.map FlR.ent)
  new : ∃ d', d'.map FlR.pl = d.map FlR.pl ∧ SfqR wr c cm v most d' (fun k => w.heap.size ≤ k ∧ k < wr.heap.size ∧ k ≠ r)
  bel : Below w.heap.size w wr
  hr : w.heap.size ≤ r
theorem getR_ids {d d' : List FlR} (h : d'.map FlR.pl = d.map FlR.pl) {id : Int} (hn : id ∉ (d.map FlR.ent).map (·.1)) : getR d' id = none := by
  rw [getR_none]
  intro e he e1
  have h2 : (d'.map FlR.pl).map (·.1) = (d.map FlR.pl).map (·.1) := by rw [h]
  simp only [List.map_map] at h2 hn
  have h3 : e.id ∈ d'.map ((fun x : Int × FlS => x.1) ∘ FlR.pl) := List.mem_map.2 ⟨e, he, rfl⟩
  rw [h2] at h3
  obtain ⟨e2, he2, h4⟩ := List.mem_map.1 h3
  exact hn (List.mem_map.2 ⟨e2, he2, by rw [← e1]; exact h4⟩)
theorem CpSt.came {w wr w2 w1 w3 : World} {b mb r c cm c1 : Nat} {v most : Int} {l d : List FlR} {F : Nat → Prop} {e : FlR} (H : SfqR w b mb v most l F) (h : CpSt w wr mb r c cm v most l d) (he : e ∈ l) (hn : e.id ∉ (d.map FlR.ent).map (·.1))
    (hg2 : wr.grownBy w2 (some r)) (hi2 : IterAt w2 r mb (Value.int .i64) (l.map FlR.ent) (d.map FlR.ent ++ [e.ent])) (hf1 : FlowAt w1 c1 e.x fun k => w2.heap.size ≤ k ∧ k < w1.heap.size) (hb1 : Below w2.heap.size w2 w1)
    (hg3 : w1.grownBy w3 (some cm)) {d' : List FlR} (hd' : d'.map FlR.pl = d.map FlR.pl) (hR : SfqR wr c cm v most d' (fun k => w.heap.size ≤ k ∧ k < wr.heap.size ∧ k ≠ r)) (hm : IsMapAt w3 cm (Value.int .i64) (putM (d'.map FlR.ent) e.id (.pointer (some ⟨c1, 0, none⟩)))) :
    CpSt w w3 mb r c cm v most l (d ++ [e]) ∧ SfqR w3 c cm v most (d' ++ [⟨e.id, c1, e.x, fun k => w2.heap.size ≤ k ∧ k < w1.heap.size⟩]) (fun k => w.heap.size ≤ k ∧ k < w3.heap.size ∧ k ≠ r) := by
  have s2 := hg2.size
  have s1 := hb1.size
  have s3 := hg3.size
  have s0 := h.bel.size
  have hrl := h.it.lt
  have hf2 : Fr (fun k => k = r) wr w2 := (Fr.refl _ _).grown hg2 fun k e => by cases e; exact .inl rfl
  have hR2 := hR.fr hf2 (fun k hk e => hk.2.2 e)
  have hmbl := H.map.lt
  have hcm := hR.hm
  obtain ⟨hR3, -⟩ := hR2.added (getR_ids hd' hn) (H.ok e he) hf1 hb1 hm hg3
  have hR4 : SfqR w3 c cm v most (d' ++ [⟨e.id, c1, e.x, fun k => w2.heap.size ≤ k ∧ k < w1.heap.size⟩]) (fun k => w.heap.size ≤ k ∧ k < w3.heap.size ∧ k ≠ r) :=
    hR3.mono (fun k hk => by
      rcases hk with hk | hk
      · exact ⟨hk.1, by omega, hk.2.2⟩
      · exact ⟨by omega, hk.2, by omega⟩) (fun k hk => hk.2.1)
  refine ⟨⟨fun e' h' => ?_, ?_, ⟨_, ?_, hR4⟩, ?_, h.hr⟩, hR4⟩
  · rcases List.mem_append.1 h' with h' | h'
    · exact h.sub e' h'
    · simp only [List.mem_singleton] at h'; subst h'; exact he
  · rw [List.map_append]
    refine (hi2.of_eq (hb1.block mb (by omega)) (hb1.block r (by omega))).of_eq (hg3.block mb (by omega) fun e' => ?_) (hg3.block r (by omega) fun e' => ?_)
    · cases e'; have := hcm.1; omega
    · cases e'; exact hcm.2.2 rfl
  · rw [List.map_append, List.map_append, hd']; rfl
  · refine ((h.bel.grown hg2 s0 fun k e' => ?_).trans (hb1.mono (by omega))).grown hg3 (by omega) fun k e' => ?_
    · cases e'; exact h.hr
    · cases e'; exact hcm.1

theorem new_at (w : World) (v most : Int) : SfqR ((w.alloc (.map #[] 0)).alloc (.cells #[.map (some w.heap.size), .int .u64 v, .int .u64 most] 138)) (w.heap.size + 1) w.heap.size v most [] (fun k => w.heap.size ≤ k ∧ k < ((w.alloc (.map #[] 0)).alloc (.cells #[.map (some w.heap.size), .int .u64 v, .int .u64 most] 138)).heap.size) ∧ Below w.heap.size w ((w.alloc (.map #[] 0)).alloc (.cells #[.map (some w.heap.size), .int .u64 v, .int .u64 most] 138)) := by
  have e : (w.alloc (.map #[] 0)).heap.size = w.heap.size + 1 := by simp
  refine ⟨?_, ((Below.refl w.heap.size w).alloc (Nat.le_refl _) _).alloc (by simp) _⟩
  have hb := Blk.new (w.alloc (.map #[] 0)) [.map (some w.heap.size), .int .u64 v, .int .u64 most] 138
  rw [e] at hb
  refine { blk := hb, map := (IsMapAt.made w _).of_eq ?_, flows := fun e he => (by cases he), hb := ?_, hm := ?_, ne := by omega, sub := fun e he => (by cases he), disj := List.Pairwise.nil, lt := fun k hk => hk.2, ok := fun e he => (by cases he) }
  · exact heap_alloc_old _ _ (by simp)
  · simp
  · simp; omega

set_option maxHeartbeats 2000000 in
theorem copyS_any (b : Nat) (s : SfS) (F : Nat → Prop) (w : World) (h : SfsAt w b s F) :
    Calls Tryz.prog 105 #[.pointer (some ⟨b, 0, none⟩)] w fun e w' => ∃ c s', e = .returned (.pointer (some ⟨c, 0, none⟩)) ∧ SfsAt w' c s' (fun k => w.heap.size ≤ k ∧ k < w'.heap.size) ∧ s'.v = s.v ∧ s'.most = s.most ∧ s'.fs.Perm s.fs ∧ Below w.heap.size w w' := by
  obtain ⟨mb, l, hl, h⟩ := h
  have c0 := h.blk.cell 0
  have c1 := h.blk.cell 1
  have c2 := h.blk.cell 2
  have hbl := h.blk.lt
  simp only [List.getElem?_cons_succ, List.getElem?_cons_zero] at c0 c1 c2
  obtain ⟨hN, hbN⟩ := new_at w s.v s.most
  have hmm : (Instr.makeMap 136 none).run Tryz.prog w.drew = .ok (.map (some w.heap.size)) (w.alloc (.map #[] 0)).drew := rfl
  have hH := h
  rw [← hl]
  have HV : Hid (∀ x : Int, s.v = x → x = s.v) := fun _ e => e.symm
  generalize s.v = v at *
  generalize s.most = most at *
  clear hl
  go_enter Tryz.func105, Tryz.ntmps105
  go_wp2_with fail
  go_region
  go_upto_region 2 with fail
  generalize hW : ((w.alloc (.map #[] 0)).alloc (.cells #[.map (some w.heap.size), .int .u64 v, .int .u64 most] 138)) = W at *
  clear hW hmm c1 c2
  have hN' : SfqR W.drew (w.heap.size + 1) w.heap.size v most [] (fun k => w.heap.size ≤ k ∧ k < W.drew.heap.size) := hN.below (Below.refl _ _).drew
  have hb' : Below w.heap.size w W.drew := hbN.drew
  clear hN hbN
  generalize W.drew = X at *
  have hX := hH.below hb'
  have c0 := (hb'.cell (p := ⟨b, 0, none⟩) hbl).trans c0
  have hblX := Nat.lt_of_lt_of_le hbl hb'.size
  obtain ⟨w1, hr1, hi1, hg1, hs1⟩ := iter_start (P := Tryz.prog) under_mapF hX.map
  have hb1 : Below X.heap.size X w1 := (Below.refl _ _).grown hg1 (Nat.le_refl _) (by intro q hq; cases hq)
  have hsX := hb'.size
  have hst : CpSt w w1 mb X.heap.size (w.heap.size + 1) w.heap.size v most l [] :=
    ⟨fun e he => (by cases he), hi1, ⟨[], rfl, (hN'.below hb1).mono (fun k hk => ⟨hk.1, by omega, by omega⟩) (fun k hk => hk.2.1)⟩, hb'.trans (hb1.mono hsX), hsX⟩
  have H := Lib.hid hH
  clear hH h hX hN' hb' hi1 hg1 hb1 hs1
  go_wp2_with fail
  generalize X.heap.size = r at *
  clear hr1
  go_loopw [4, 5] (fun _ _ wr => ∃ d, CpSt w wr mb r (w.heap.size + 1) w.heap.size v most l d) (fun _ _ wr => l.length - (wr.iterSeen r).size)
  case atStart => exact ⟨[], hst⟩
  case round =>
    obtain ⟨d, hd⟩ := hrel
    rcases iter_next (P := Tryz.prog) 0 hd.it with ⟨ha, hnx⟩ | ⟨p, hp, hpn, w2, hnx, hen, hi2, hg2, hs2⟩
    · go_wp2_with fail
      go_ret
      obtain ⟨d', hd', hR⟩ := hd.new
      exact ⟨_, ⟨v, most, d.map FlR.pl⟩, rfl, ⟨_, d', hd', hR.mono (fun k hk => ⟨hk.1, hk.2.1⟩) (fun k hk => hk.2)⟩, rfl, rfl, (H.out.perm hd.sub hd.it ha).map FlR.pl, hd.bel⟩
    · obtain ⟨e, he, rfl⟩ := List.mem_map.1 hp
      have hlt := hd.it.some_left hp hpn
      have hseen := hd.it.seen
      simp only [FlR.ent] at hnx hen
      have hb2 : Below w.heap.size w w2 := hd.bel.grown hg2 hd.bel.size (by intro q hq; cases hq; exact hd.hr)
      have hfl := (H.out.flows e he).below hb2
      have hxo := H.out.ok e he
      obtain ⟨d', hd', hR⟩ := hd.new
      have hR2 := hR.fr ((Fr.refl (fun k => k = r) wr).grown hg2 fun k e => by cases e; exact .inl rfl) (fun k hk e => hk.2.2 e)
      have x0 := hR2.blk.cell 0
      have xl := hR2.blk.lt
      simp only [List.getElem?_cons_succ, List.getElem?_cons_zero] at x0
      have hm2 := Lib.hid hR2.map
      have HC := Lib.hid (fun w1 w3 c1 h1 h2 h3 h4 => CpSt.came (w1 := w1) (w3 := w3) (c1 := c1) H.out hd he hpn hg2 hi2 h1 h2 h3 hd' hR h4)
      have HS := Lib.hid hseen
      have HL := Lib.hid hlt
      clear hd hR hR2 hg2 hi2 hb2 hp hpn hlt hseen hs2
      go_upto_region 5 with fail
      refine wp_region_held_drew (S := (fun w' => w'.cell? ⟨w.heap.size + 1, 0, none⟩ = some (.map (some w.heap.size)))) (by kernel_rfl) ?_ (fun hHeld => ?_)
      · exact x0
      refine wpAnyH_take (i := 0) (v := ?_) rfl (by kernel_rfl) (by kernel_rfl) (by kernel_rfl) (fun _ _ _ h => h) (Or.inl ⟨by rfl, ?_⟩) (by assumption) ?_
      rotate_left
      · intro w hSw
        (try dsimp only at hSw)
        first | (go_simp; done) | (go_simp; with_reducible rfl)
      try simp only [List.getElem_toArray, List.getElem_cons_succ, List.getElem_cons_zero, Act.put, List.setIfInBounds_toArray, List.set_cons_zero, List.set_cons_succ]
      refine wpAnyH_take (i := 1) (v := ?_) rfl (by kernel_rfl) (by kernel_rfl) (by kernel_rfl) (fun _ _ _ h => h) (Or.inl ⟨by rfl, ?_⟩) (by assumption) ?_
      rotate_left
      · intro w hSw
        (try dsimp only at hSw)
        first | (go_simp; done) | (go_simp; with_reducible rfl)
      try simp only [List.getElem_toArray, List.getElem_cons_succ, List.getElem_cons_zero, Act.put, List.setIfInBounds_toArray, List.set_cons_zero, List.set_cons_succ]
      refine wpAnyH_take (i := 2) (v := ?_) rfl (by kernel_rfl) (by kernel_rfl) (by kernel_rfl) (fun _ _ _ h => h) (Or.inl ⟨by rfl, ?_⟩) (by assumption) ?_
      rotate_left
      · intro w hSw
        (try dsimp only at hSw)
        first | (go_simp; done) | (go_simp; with_reducible rfl)
      try simp only [List.getElem_toArray, List.getElem_cons_succ, List.getElem_cons_zero, Act.put, List.setIfInBounds_toArray, List.set_cons_zero, List.set_cons_succ]
      refine wpAnyH_take (i := 3) (v := ?_) rfl (by kernel_rfl) (by kernel_rfl) (by kernel_rfl) (fun _ _ _ h => h) (Or.inl ⟨by rfl, ?_⟩) (by assumption) ?_
      rotate_left
      · intro w hSw
        (try dsimp only at hSw)
        first | (go_simp; done) | (go_simp; with_reducible rfl)
      try simp only [List.getElem_toArray, List.getElem_cons_succ, List.getElem_cons_zero, Act.put, List.setIfInBounds_toArray, List.set_cons_zero, List.set_cons_succ]
      refine wpAnyH_take (i := 4) (v := ?_) rfl (by kernel_rfl) (by kernel_rfl) (by kernel_rfl) (fun _ _ _ h => h) (Or.inl ⟨by rfl, ?_⟩) (by assumption) ?_
      rotate_left
      · intro w hSw
        (try dsimp only at hSw)
        first | (go_simp; done) | (go_simp; with_reducible rfl)
      try simp only [List.getElem_toArray, List.getElem_cons_succ, List.getElem_cons_zero, Act.put, List.setIfInBounds_toArray, List.set_cons_zero, List.set_cons_succ]
      refine wpAnyH_take (i := 5) (v := ?_) rfl (by kernel_rfl) (by kernel_rfl) (by kernel_rfl) (fun _ _ _ h => h) (Or.inl ⟨by rfl, ?_⟩) (by assumption) ?_
      rotate_left
      · intro w hSw
        (try dsimp only at hSw)
        first | (go_simp; done) | (go_simp; with_reducible rfl)
      try simp only [List.getElem_toArray, List.getElem_cons_succ, List.getElem_cons_zero, Act.put, List.setIfInBounds_toArray, List.set_cons_zero, List.set_cons_succ]
      refine wpAnyH_ready (rs := [6]) (by kernel_rfl) (by simp) ?_
      refine AllReadyH.cons rfl (fun K hK => ?_) AllReadyH.nil
      go_simp
      (go_at_call 123; refine (copy_any e.b e.x e.G _ (hfl.below (Below.refl _ _).drew) hxo).mono ?_; rintro e' w4 ⟨c1, rfl, hf1, hb1⟩; replace hb1 := (Below.refl w2.heap.size w2).drew.trans hb1)
      refine hK.out _ _ ?_ (fun hHeld => ?_)
      · first | exact (hb1.cell (p := ⟨w.heap.size + 1, 0, none⟩) xl).trans x0 | exact hS2
      clear hK K
      try simp only [List.getElem_toArray, List.getElem_cons_succ, List.getElem_cons_zero, Act.put, List.setIfInBounds_toArray, List.set_cons_zero, List.set_cons_succ]
      refine wpAnyH_ready (rs := [7]) (by kernel_rfl) (by simp) ?_
      refine AllReadyH.cons rfl (fun K hK => ?_) AllReadyH.nil
      (refine step_updateK rfl _ _ _ rfl intKey under_mapF e.id (.pointer (some ⟨c1, 0, none⟩)) rfl rfl rfl (hm2.out.of_eq (hb1.block w.heap.size (by omega))) ?_; intro w3 hm3 hg3; obtain ⟨hC, hR3⟩ := HC.out _ _ _ hf1 hb1 hg3 hm3; have hS2 := hR3.blk.cell 0)
      refine hK.out _ _ ?_ (fun hHeld => ?_)
      · first | exact (hb1.cell (p := ⟨w.heap.size + 1, 0, none⟩) xl).trans x0 | exact hS2
      clear hK K
      try simp only [List.getElem_toArray, List.getElem_cons_succ, List.getElem_cons_zero, Act.put, List.setIfInBounds_toArray, List.set_cons_zero, List.set_cons_succ]
      refine wpAnyH_done (by kernel_rfl) ?_ _
      have hse := hC.it.seen
      have HCC := Lib.hid hC
      clear hC
      go_wp2
      go_roundw
      case rel => exact ⟨d ++ [e], HCC.out⟩
      case measure => have := HS.out; have := HL.out; simp at *; omega
end Go.Proofs.YtdjooacjjnjfmaaGreat
end

-- The reference's flows: a copy of them.
section
namespace Go.Proofs.YtdjooacjjnjfmaaGreat
set_option linter.unusedVariables false
set_option linter.unusedSimpArgs false
set_option maxRecDepth 20000
open Go.RowKit Go.Proofs.YtdjooacjjnjfmaaGreatMem Go.Proofs.YtdjooacjjnjfmaaGreatMapK

/-- One more at the end of the row. -/
theorem RfR.more {w w7 w8 : World} {c c7 n cap c8 : Nat} {v most id : Int} {x : FlS} {d : List FlR} {F : Nat → Prop} {a a8 : Option Addr} (h : RfR w c v most d F) (c0 : w.cell? ⟨c, 0, none⟩ = some (.slice a n cap))
    (hb7 : Below w.heap.size w w7) (hf7 : RefAt w7 c7 id x (fun k => w.heap.size ≤ k ∧ k < w7.heap.size)) (hx : x.Ok) (hid : ∀ e ∈ d, e.id < id)
    (hg8 : w7.grownBy w8 (Value.slice a n cap).ownBlock) (hf8 : FreshOr w7 (.slice a n cap) (.slice a8 (n + 1) c8)) (hown : w8.ownsRow 0 121 1 (.slice a8 (n + 1) c8) (n + 1) (ptrs d ++ [.pointer (some ⟨c7, 0, none⟩)])) (hn : d.length = n) :
    RfR (w8.setCell ⟨c, 0, none⟩ (.slice a8 (n + 1) c8)) c v most (d ++ [⟨id, c7, x, fun k => w.heap.size ≤ k ∧ k < w7.heap.size⟩]) (Ext F w (w8.setCell ⟨c, 0, none⟩ (.slice a8 (n + 1) c8))) ∧ Fr F w (w8.setCell ⟨c, 0, none⟩ (.slice a8 (n + 1) c8)) := by
  obtain ⟨ao, cap', h1, h2, h3⟩ := h.row
  have q0 := h1.cell 0
  simp only [List.getElem?_cons_zero] at q0
  have q1 := c0.symm.trans q0
  simp only [Option.some.injEq, Value.slice.injEq] at q1
  obtain ⟨rfl, q2, rfl⟩ := q1
  subst hn
  have hcl := h.lt c h.hb
  have s7 := hb7.size
  have s8 := hg8.size
  have hs : (w8.setCell ⟨c, 0, none⟩ (.slice a8 (d.length + 1) c8)).heap.size = w8.heap.size := by simp [World.setCell]
  have hob : ∀ k, (Value.slice a d.length cap).ownBlock = some k → F k ∧ k ≠ c ∧ ∀ e ∈ d, ¬ e.G k := fun k hk => by
    cases a with
    | none => cases hk
    | some ad => cases hk; exact h3 ad rfl
  have h8b : ∀ k, (Value.slice a8 (d.length + 1) c8).ownBlock = some k → (F k ∧ k ≠ c ∧ ∀ e ∈ d, ¬ e.G k) ∨ (w7.heap.size ≤ k ∧ k < w8.heap.size) := fun k hk => by
    rcases hf8 with hf | hf
    · rw [hf] at hk; exact .inl (hob k hk)
    · exact .inr ⟨hf k hk, (hown.lt k hk).2⟩
  have f7 : Fr F w w7 := Fr.of_below hb7
  have f8 : Fr F w w8 := f7.grown hg8 fun k hk => .inl (hob k hk).1
  have hF : Fr F w (w8.setCell ⟨c, 0, none⟩ (.slice a8 (d.length + 1) c8)) := Fr.setCell (S := F) (a := ⟨c, 0, none⟩) f8 (.inl h.hb) _
  have g8 : Fr (fun k => (Value.slice a d.length cap).ownBlock = some k) w7 w8 := (Fr.refl _ _).grown hg8 fun k hk => .inl hk
  have hS : Fr (fun k => k = c) w8 (w8.setCell ⟨c, 0, none⟩ (.slice a8 (d.length + 1) c8)) := Fr.setCell (S := fun k => k = c) (a := ⟨c, 0, none⟩) (Fr.refl _ _) (.inl rfl) _
  have hlen : (d ++ [FlR.mk id c7 x fun k => w.heap.size ≤ k ∧ k < w7.heap.size]).length = d.length + 1 := by simp
  have hpt : ptrs (d ++ [FlR.mk id c7 x fun k => w.heap.size ≤ k ∧ k < w7.heap.size]) = ptrs d ++ [.pointer (some ⟨c7, 0, none⟩)] := by unfold ptrs; rw [List.map_append]; rfl
  have hfl : ∀ e ∈ d, RefAt (w8.setCell ⟨c, 0, none⟩ (.slice a8 (d.length + 1) c8)) e.b e.id e.x e.G := fun e he =>
    ((((h.flows e he).below hb7).fr g8 fun k hk hk2 => (hob k hk2).2.2 e he hk)).fr hS fun k hk e' => (h.sub e he k hk).2 e'
  have hnw : RefAt (w8.setCell ⟨c, 0, none⟩ (.slice a8 (d.length + 1) c8)) c7 id x (fun k => w.heap.size ≤ k ∧ k < w7.heap.size) :=
    (hf7.fr g8 fun k hk hk2 => by have := h.lt k (hob k hk2).1; omega).fr hS fun k hk e' => by omega
  refine ⟨{ row := ⟨a8, c8, ?_, ?_, ?_⟩, flows := ?_, hb := .inl h.hb, sub := ?_, disj := ?_, lt := h.lt.ext hF.size, ok := ?_, rise := ?_ }, hF⟩
  · rw [hlen]
    have hB := ((h1.below hb7).fr g8 fun hk => (hob c hk).2.1 rfl).set 0 (.slice a8 (d.length + 1) c8)
    simpa using hB
  · rw [hlen, hpt]
    exact owns_fr hown hS fun k hk e' => by
      rcases h8b k hk with hk | hk
      · exact hk.2.1 e'
      · omega
  · intro ad had
    subst had
    rcases h8b ad.block rfl with hk | hk
    · refine ⟨.inl hk.1, hk.2.1, fun e he hk2 => ?_⟩
      rcases List.mem_append.1 he with he | he
      · exact hk.2.2 e he hk2
      · simp only [List.mem_singleton] at he; subst he
        have := h.lt _ hk.1
        simp only at hk2
        omega
    · refine ⟨.inr ⟨by omega, by rw [hs]; exact hk.2⟩, by omega, fun e he hk2 => ?_⟩
      rcases List.mem_append.1 he with he | he
      · have := h.lt _ (h.sub e he _ hk2).1; omega
      · simp only [List.mem_singleton] at he; subst he
        simp only at hk2
        omega
  · intro e he
    rcases List.mem_append.1 he with he | he
    · exact hfl e he
    · simp only [List.mem_singleton] at he; subst he; exact hnw
  · intro e he k hk
    rcases List.mem_append.1 he with he | he
    · exact ⟨.inl (h.sub e he k hk).1, (h.sub e he k hk).2⟩
    · simp only [List.mem_singleton] at he; subst he
      simp only at hk
      exact ⟨.inr ⟨hk.1, by rw [hs]; omega⟩, by omega⟩
  · rw [List.pairwise_append]
    refine ⟨h.disj, by simp, fun e he e' he' k hk hk' => ?_⟩
    simp only [List.mem_singleton] at he'; subst he'
    have := h.lt k (h.sub e he k hk).1
    simp only at hk'
    omega
  · intro e he
    rcases List.mem_append.1 he with he | he
    · exact h.ok e he
    · simp only [List.mem_singleton] at he; subst he; exact hx
  · rw [List.pairwise_append]
    refine ⟨h.rise, by simp, fun e he e' he' => ?_⟩
    simp only [List.mem_singleton] at he'; subst he'
    exact hid e he

theorem newR_at (w : World) (v most : Int) : RfR (w.alloc (.cells #[.slice none 0 0, .int .u64 v, .int .u64 most] 86)) w.heap.size v most [] (fun k => w.heap.size ≤ k ∧ k < (w.alloc (.cells #[.slice none 0 0, .int .u64 v, .int .u64 most] 86)).heap.size) :=
  { row := ⟨none, 0, Blk.new w [.slice none 0 0, .int .u64 v, .int .u64 most] 86, owns_nil _ _ _ _, fun a ha => by cases ha⟩, flows := fun e he => (by cases he), hb := ⟨Nat.le_refl _, by simp⟩, sub := fun e he => (by cases he), disj := List.Pairwise.nil, lt := fun k hk => hk.2, ok := fun e he => (by cases he), rise := List.Pairwise.nil }
theorem pl_lt {l d : List FlR} (hr : l.Pairwise fun e e' => e.id < e'.id) {k : Nat} {e : FlR} (he : l[k]? = some e) (hd : d.map FlR.pl = (l.take k).map FlR.pl) : ∀ e' ∈ d, e'.id < e.id := by
  intro e' h'
  have h1 : e'.pl ∈ (l.take k).map FlR.pl := by rw [← hd]; exact List.mem_map.2 ⟨e', h', rfl⟩
  obtain ⟨e2, h2, h3⟩ := List.mem_map.1 h1
  obtain ⟨j, hj⟩ := List.getElem?_of_mem h2
  have hjk : j < k := by
    rcases Nat.lt_or_ge j k with h | h
    · exact h
    · rw [List.getElem?_eq_none (by rw [List.length_take]; exact Nat.le_trans (Nat.min_le_left _ _) h)] at hj; cases hj
  rw [List.getElem?_take_of_lt hjk] at hj
  have h4 := rise_lt hr hj he hjk
  have h5 : e2.id = e'.id := congrArg Prod.fst h3
  omega

/-- Under way: the first k have been copied. -/
structure CrSt (w wr : World) (c : Nat) (v most : Int) (l : List FlR) (k : Nat) (d : List FlR) : Prop where
  pl : d.map FlR.pl = (l.take k).map FlR.pl
  new : RfR wr c v most d (fun i => w.heap.size ≤ i ∧ i < wr.heap.size)
  bel : Below w.heap.size w wr
theorem CrSt.next {w wr w7 w8 : World} {c c7 n cap c8 k : Nat} {v most : Int} {e : FlR} {l d : List FlR} {a a8 : Option Addr} (h : CrSt w wr c v most l k d) (hr : l.Pairwise fun e e' => e.id < e'.id) (he : l[k]? = some e) (hx : e.x.Ok) (c0 : wr.cell? ⟨c, 0, none⟩ = some (.slice a n cap))
    (hb7 : Below wr.heap.size wr w7) (hf7 : RefAt w7 c7 e.id e.x (fun k => wr.heap.size ≤ k ∧ k < w7.heap.size))
    (hg8 : w7.grownBy w8 (Value.slice a n cap).ownBlock) (hf8 : FreshOr w7 (.slice a n cap) (.slice a8 (n + 1) c8)) (hown : w8.ownsRow 0 121 1 (.slice a8 (n + 1) c8) (n + 1) (ptrs d ++ [.pointer (some ⟨c7, 0, none⟩)])) (hn : d.length = n) :
    CrSt w (w8.setCell ⟨c, 0, none⟩ (.slice a8 (n + 1) c8)) c v most l (k + 1) (d ++ [⟨e.id, c7, e.x, fun k => wr.heap.size ≤ k ∧ k < w7.heap.size⟩]) := by
  have hs := h.bel.size
  obtain ⟨h1, h2⟩ := h.new.more c0 hb7 hf7 hx (pl_lt hr he h.pl) hg8 hf8 hown hn
  have hsz := h2.size
  refine ⟨?_, h1.mono (fun i hi => ?_) (fun i hi => hi.2), h.bel.trans (h2.below (fun i hi => hi.1) hs)⟩
  · rw [List.map_append, h.pl, List.take_add_one, he, List.map_append]; rfl
  · rcases hi with hi | hi
    · exact ⟨hi.1, by omega⟩
    · exact ⟨by omega, hi.2⟩

set_option maxHeartbeats 2000000 in
theorem copyR_any (b : Nat) (t : SfS) (F : Nat → Prop) (w : World) (h : RfsAt w b t F) (hn6 : t.fs.length ≤ 1000000) :
    Calls Tryz.prog 107 #[.pointer (some ⟨b, 0, none⟩)] w (MkPost (fun w' c G => RfsAt w' c t G) w) := by
  obtain ⟨l, hl, h⟩ := h
  obtain ⟨ao, cap, c0, c1, c2, hc, hl63, hnil, hat⟩ := h.cells
  have hbl := h.lt b h.hb
  have H := Lib.hid h
  have HA := Lib.hid hat
  have HPL := Lib.hid hl
  have hle : t.fs.length = l.length := by rw [← hl]; simp
  obtain ⟨n, hn⟩ : ∃ n, l.length = n := ⟨_, rfl⟩
  rw [hn] at hc hl63 hnil c0
  have hn5 : n ≤ 1000000 := by omega
  have HN := Lib.hid hn
  have hN := newR_at w t.v t.most
  have hbN := below1 w (.cells #[.slice none 0 0, .int .u64 t.v, .int .u64 t.most] 86)
  have HT : Hid (SfS.mk t.v t.most t.fs = t) := rfl
  generalize t.v = v at *
  generalize t.most = most at *
  clear hat h hn hle hl
  go_enter Tryz.func107, Tryz.ntmps107
  go_wp2_with fail
  go_region
  go_upto_region 2 with fail
  generalize hW : (w.alloc (.cells #[.slice none 0 0, .int .u64 v, .int .u64 most] 86)) = W at *
  clear hW
  have hst : CrSt w W.drew w.heap.size v most l 0 [] := ⟨rfl, hN.below (Below.refl _ _).drew, hbN.drew⟩
  clear hN hbN c1 c2
  generalize W.drew = X at *
  generalize hq : w.heap.size = q at *
  have HQ := Lib.hid hq
  clear hq
  go_wp2_with fail
  go_loopw [4] (fun v4 wr => ∃ (k : Nat) (d : List FlR), k ≤ n ∧ v4 = .int .i64 k ∧ CrSt w wr q v most l k d) (fun v4 _ => n - (intOf v4).toNat)
  case atStart => exact ⟨0, [], Nat.zero_le _, rfl, hst⟩
  case round =>
    obtain ⟨k, d, hk, rfl, hd⟩ := hrel
    clear hst
    have hbq : Below q w wr := by have := hd.bel; rw [HQ.out] at this; exact this
    have c0 := (hbq.cell (p := ⟨b, 0, none⟩) hbl).trans c0
    have hdl : d.length = k := by have := congrArg List.length hd.pl; simp only [List.length_map, List.length_take, HN.out] at this; omega
    by_cases hkn : k < n
    · obtain ⟨e, he⟩ : ∃ e, l[k]? = some e := ⟨l[k]'(by rw [HN.out]; exact hkn), List.getElem?_eq_getElem _⟩
      obtain ⟨g, rfl, hg, cg, ci, heb⟩ := HA.out k e he
      have cg := (hbq.cell (p := ⟨g, k, none⟩) hg).trans cg
      have i1 : (k : Int) < (n : Int) := by omega
      have hem := List.mem_of_getElem? he
      have hfl := (H.out.flows e hem).below hd.bel
      have hxo := H.out.ok e hem
      obtain ⟨a, cap', B1, R1, N1⟩ := hd.new.row
      rw [hdl] at B1 R1
      have x0 := B1.cell 0
      simp only [List.getElem?_cons_zero] at x0
      have hql := B1.lt
      have hne : (Value.slice a k cap').ownBlock ≠ some q := fun e' => by
        cases a with
        | none => cases e'
        | some ad => cases e'; exact (N1 ad rfl).2.1 rfl
      have HB1 := Lib.hid B1
      have HR1 := Lib.hid R1
      have HNE := Lib.hid hne
      have HC := Lib.hid (fun w7 w8 c7 c8 a8 h1 h2 h3 h4 h5 => CrSt.next (w7 := w7) (w8 := w8) (c7 := c7) (c8 := c8) (a8 := a8) hd H.out.rise he hxo x0 h1 h2 h3 h4 h5 hdl)
      have hk2 : k + 1 ≤ 1099511627776 := by omega
      clear hd hem B1 R1 N1 hne he hdl hbq ci
      go_upto_region 5 with fail
      go_region_law (first
        | (go_simp; go_at_call 125; refine (refCopy_any e.b e.id e.x e.G _ (hfl.below (Below.refl _ _).drew) hxo).mono ?_; rintro e' w7 ⟨c7, rfl, hf7, hb7⟩; replace hb7 := (Below.refl wr.heap.size wr).drew.trans hb7; have x0b := (hb7.cell (p := ⟨q, 0, none⟩) hql).trans x0; have hq7 : q < w7.heap.size := Nat.lt_of_lt_of_le hql hb7.size; have HB7 := Lib.hid hb7; have HF7 := Lib.hid hf7; clear hb7 hf7)
        | (refine step_ap_new0 w7 #[.pointer (some ⟨c7, 0, none⟩)] ERf (by rfl) _ _ (by rfl) 0 _ k _ (by simp [Act.eval, Act.put]) (owns_below (B := 0) HR1.out HB7.out) (Nat.zero_le _) 1 (by simp [Act.eval, Act.put]) (by rfl) (by simp [Value.oneCell']) hk2 ?_; intro v8 w8 hown8 hg8 hb8 hfr8; obtain ⟨a8, c8, rfl⟩ := owns_slice hown8; have B8 := Lib.hid ((HB1.out.below HB7.out).grown hg8 HNE.out); have x0c := B8.out.cell 0; have fz := B8.out.frozen 0; simp only [List.getElem?_cons_zero] at x0c; have HG8 := Lib.hid hg8; have HO8 := Lib.hid hown8; have HFR8 := Lib.hid hfr8; clear hg8 hb8 hown8 hfr8)
        | fail)
      all_goals
        go_wp2
        go_roundw
        case rel => exact ⟨k + 1, _, by omega, by go_num, HC.out _ _ _ _ _ HB7.out HF7.out HG8.out HFR8.out HO8.out⟩
        case measure => simp [intOf]; omega
    · obtain rfl : k = n := by omega
      have hT : l.take k = l := List.take_of_length_le (by rw [HN.out]; exact Nat.le_refl _)
      have hpl := hd.pl
      rw [hT, HPL.out] at hpl
      clear hT hbq
      go_wp2
      go_ret
      exact ⟨q, rfl, ⟨d, by rw [hpl, ← HT.out], by rw [← HT.out]; exact hd.new⟩, hd.bel⟩
end Go.Proofs.YtdjooacjjnjfmaaGreat
end

-- The model: a copy of it.
section
namespace Go.Proofs.YtdjooacjjnjfmaaGreat
set_option linter.unusedVariables false
set_option linter.unusedSimpArgs false
set_option maxRecDepth 20000
open Go.RowKit Go.Proofs.YtdjooacjjnjfmaaGreatMem Go.Proofs.YtdjooacjjnjfmaaGreatMapK

theorem cloneM_any {lm : Nat} {m : List (Int × Value)} {w : World} (h : IsMapP w lm (Value.int .i64) m) :
    Calls Tryz.prog 106 #[.map (some lm)] w fun e w' => e = .returned (.map (some w.heap.size)) ∧ IsMapP w' w.heap.size (Value.int .i64) m ∧ Below w.heap.size w w' := by
  obtain ⟨L, hp, es, clock, hm⟩ := h
  have hc := AnyW.maps_Clone Tryz.cloneF lm es clock w hm.heap
  change Calls Tryz.prog 106 _ _ _ at hc
  refine hc.mono ?_
  rintro e w' ⟨rfl, rfl⟩
  exact ⟨rfl, ⟨L, hp, es, clock, heap_alloc_new _ _, hm.ents, hm.keys, hm.born, hm.stamps⟩, below1 _ _⟩
theorem lens_perm {s s' : SfS} (h : s'.fs.Perm s.fs) : (lensV s).Perm (lensV s') := (h.map _).symm
/-- A copy: what was made. -/
theorem md_copied {w w0 w3 w4 : World} {c2 : Nat} {c : Cfg} {s s' : SfS} {served : Int} (h0 : Below w.heap.size w w0) (h3 : SfsAt w3 c2 s' (fun k => w0.heap.size ≤ k ∧ k < w3.heap.size)) (hb3 : Below w0.heap.size w0 w3) (hp : s'.fs.Perm s.fs)
    (hm : IsMapP w4 w3.heap.size (Value.int .i64) (lensV s)) (hb4 : Below w3.heap.size w3 w4) :
    MdAt (w4.alloc (.cells #[.int .i64 c.shards, .int .i64 c.slots, .int .i64 c.workers, .int .i64 c.width, .int .u64 c.unit, .pointer (some ⟨c2, 0, none⟩), .map (some w3.heap.size), .int .i64 served] 109)) w4.heap.size c s' served (fun k => w.heap.size ≤ k ∧ k < (w4.alloc (.cells #[.int .i64 c.shards, .int .i64 c.slots, .int .i64 c.workers, .int .i64 c.width, .int .u64 c.unit, .pointer (some ⟨c2, 0, none⟩), .map (some w3.heap.size), .int .i64 served] 109)).heap.size) := by
  have hb5 := below1 w4 (.cells #[.int .i64 c.shards, .int .i64 c.slots, .int .i64 c.workers, .int .i64 c.width, .int .u64 c.unit, .pointer (some ⟨c2, 0, none⟩), .map (some w3.heap.size), .int .i64 served] 109)
  have hs : (w4.alloc (.cells #[.int .i64 c.shards, .int .i64 c.slots, .int .i64 c.workers, .int .i64 c.width, .int .u64 c.unit, .pointer (some ⟨c2, 0, none⟩), .map (some w3.heap.size), .int .i64 served] 109)).heap.size = w4.heap.size + 1 := by simp
  have z0 := h0.size
  have z3 := hb3.size
  have z4 := hb4.size
  have zm := hm.lt
  refine ⟨c2, w3.heap.size, fun k => w0.heap.size ≤ k ∧ k < w3.heap.size, Blk.new w4 _ _, (h3.below hb4).below hb5, (hm.of_eq (hb5.block _ zm)).perm (lens_perm hp), fun k hk => ⟨⟨by omega, by rw [hs]; omega⟩, by omega, by omega⟩, ⟨by omega, by rw [hs]; omega⟩, ⟨by omega, by rw [hs]; omega⟩, by omega, fun k hk => hk.2⟩
set_option maxHeartbeats 4000000 in
theorem copyM_any (b : Nat) (c : Cfg) (s : SfS) (served : Int) (F : Nat → Prop) (w : World) (h : MdAt w b c s served F) :
    Calls Tryz.prog 78 #[.pointer (some ⟨b, 0, none⟩)] w fun e w' => ∃ n s', e = .returned (.pointer (some ⟨n, 0, none⟩)) ∧ MdAt w' n c s' served (fun k => w.heap.size ≤ k ∧ k < w'.heap.size) ∧ s'.v = s.v ∧ s'.most = s.most ∧ s'.fs.Perm s.fs ∧ Below w.heap.size w w' := by
  obtain ⟨sb, lm, Fs, h⟩ := h
  have HCL : Hid (∀ w', Below w.heap.size w w' → w'.cell? ⟨b, 0, none⟩ = some (.int .i64 c.shards) ∧ w'.cell? ⟨b, 1, none⟩ = some (.int .i64 c.slots) ∧ w'.cell? ⟨b, 2, none⟩ = some (.int .i64 c.workers) ∧ w'.cell? ⟨b, 3, none⟩ = some (.int .i64 c.width) ∧ w'.cell? ⟨b, 4, none⟩ = some (.int .u64 c.unit) ∧ w'.cell? ⟨b, 5, none⟩ = some (.pointer (some ⟨sb, 0, none⟩)) ∧ w'.cell? ⟨b, 6, none⟩ = some (.map (some lm)) ∧ w'.cell? ⟨b, 7, none⟩ = some (.int .i64 served)) := Lib.hid fun w' hb =>
    have B := h.blk.below hb
    ⟨B.cell 0, B.cell 1, B.cell 2, B.cell 3, B.cell 4, B.cell 5, B.cell 6, B.cell 7⟩
  have T1 : Below w.heap.size w w.drew := (Below.refl _ _).drew
  have H := Lib.hid h
  have hlm := h.lt lm h.hl
  have hS := HCL.out _ T1
  obtain ⟨q0, q1, q2, q3, q4, q5, q6, q7⟩ := HCL.out _ (Below.refl _ _)
  have hbl := h.blk.lt
  clear h
  go_enter Tryz.func78, Tryz.ntmps78
  go_upto_region 1 with fail
  clear q0 q1 q2 q3 q4 q5 q6 q7
  refine wp_region_held_drew (S := (fun w' => w'.cell? ⟨b, 0, none⟩ = some (.int .i64 c.shards) ∧ w'.cell? ⟨b, 1, none⟩ = some (.int .i64 c.slots) ∧ w'.cell? ⟨b, 2, none⟩ = some (.int .i64 c.workers) ∧ w'.cell? ⟨b, 3, none⟩ = some (.int .i64 c.width) ∧ w'.cell? ⟨b, 4, none⟩ = some (.int .u64 c.unit) ∧ w'.cell? ⟨b, 5, none⟩ = some (.pointer (some ⟨sb, 0, none⟩)) ∧ w'.cell? ⟨b, 6, none⟩ = some (.map (some lm)) ∧ w'.cell? ⟨b, 7, none⟩ = some (.int .i64 served))) (by kernel_rfl) ?_ (fun hHeld => ?_)
  · exact hS
  refine wpAnyH_take (i := 0) (v := ?_) rfl (by kernel_rfl) (by kernel_rfl) (by kernel_rfl) (fun _ _ _ h => h) (Or.inl ⟨by rfl, ?_⟩) (by assumption) ?_
  rotate_left
  · intro w hSw
    (try dsimp only at hSw)
    first | (go_simp; done) | (go_simp; with_reducible rfl)
  try simp only [List.getElem_toArray, List.getElem_cons_succ, List.getElem_cons_zero, Act.put, List.setIfInBounds_toArray, List.set_cons_zero, List.set_cons_succ]
  refine wpAnyH_take (i := 1) (v := ?_) rfl (by kernel_rfl) (by kernel_rfl) (by kernel_rfl) (fun _ _ _ h => h) (Or.inl ⟨by rfl, ?_⟩) (by assumption) ?_
  rotate_left
  · intro w hSw
    (try dsimp only at hSw)
    first | (go_simp; done) | (go_simp; with_reducible rfl)
  try simp only [List.getElem_toArray, List.getElem_cons_succ, List.getElem_cons_zero, Act.put, List.setIfInBounds_toArray, List.set_cons_zero, List.set_cons_succ]
  refine wpAnyH_take (i := 2) (v := ?_) rfl (by kernel_rfl) (by kernel_rfl) (by kernel_rfl) (fun _ _ _ h => h) (Or.inl ⟨by rfl, ?_⟩) (by assumption) ?_
  rotate_left
  · intro w hSw
    (try dsimp only at hSw)
    first | (go_simp; done) | (go_simp; with_reducible rfl)
  try simp only [List.getElem_toArray, List.getElem_cons_succ, List.getElem_cons_zero, Act.put, List.setIfInBounds_toArray, List.set_cons_zero, List.set_cons_succ]
  refine wpAnyH_take (i := 3) (v := ?_) rfl (by kernel_rfl) (by kernel_rfl) (by kernel_rfl) (fun _ _ _ h => h) (Or.inl ⟨by rfl, ?_⟩) (by assumption) ?_
  rotate_left
  · intro w hSw
    (try dsimp only at hSw)
    first | (go_simp; done) | (go_simp; with_reducible rfl)
  try simp only [List.getElem_toArray, List.getElem_cons_succ, List.getElem_cons_zero, Act.put, List.setIfInBounds_toArray, List.set_cons_zero, List.set_cons_succ]
  refine wpAnyH_take (i := 4) (v := ?_) rfl (by kernel_rfl) (by kernel_rfl) (by kernel_rfl) (fun _ _ _ h => h) (Or.inl ⟨by rfl, ?_⟩) (by assumption) ?_
  rotate_left
  · intro w hSw
    (try dsimp only at hSw)
    first | (go_simp; done) | (go_simp; with_reducible rfl)
  try simp only [List.getElem_toArray, List.getElem_cons_succ, List.getElem_cons_zero, Act.put, List.setIfInBounds_toArray, List.set_cons_zero, List.set_cons_succ]
  refine wpAnyH_take (i := 5) (v := ?_) rfl (by kernel_rfl) (by kernel_rfl) (by kernel_rfl) (fun _ _ _ h => h) (Or.inl ⟨by rfl, ?_⟩) (by assumption) ?_
  rotate_left
  · intro w hSw
    (try dsimp only at hSw)
    first | (go_simp; done) | (go_simp; with_reducible rfl)
  try simp only [List.getElem_toArray, List.getElem_cons_succ, List.getElem_cons_zero, Act.put, List.setIfInBounds_toArray, List.set_cons_zero, List.set_cons_succ]
  refine wpAnyH_take (i := 6) (v := ?_) rfl (by kernel_rfl) (by kernel_rfl) (by kernel_rfl) (fun _ _ _ h => h) (Or.inl ⟨by rfl, ?_⟩) (by assumption) ?_
  rotate_left
  · intro w hSw
    (try dsimp only at hSw)
    first | (go_simp; done) | (go_simp; with_reducible rfl)
  try simp only [List.getElem_toArray, List.getElem_cons_succ, List.getElem_cons_zero, Act.put, List.setIfInBounds_toArray, List.set_cons_zero, List.set_cons_succ]
  refine wpAnyH_take (i := 7) (v := ?_) rfl (by kernel_rfl) (by kernel_rfl) (by kernel_rfl) (fun _ _ _ h => h) (Or.inl ⟨by rfl, ?_⟩) (by assumption) ?_
  rotate_left
  · intro w hSw
    (try dsimp only at hSw)
    first | (go_simp; done) | (go_simp; with_reducible rfl)
  try simp only [List.getElem_toArray, List.getElem_cons_succ, List.getElem_cons_zero, Act.put, List.setIfInBounds_toArray, List.set_cons_zero, List.set_cons_succ]
  refine wpAnyH_take (i := 9) (v := ?_) rfl (by kernel_rfl) (by kernel_rfl) (by kernel_rfl) (fun _ _ _ h => h) (Or.inl ⟨by rfl, ?_⟩) (by assumption) ?_
  rotate_left
  · intro w hSw
    (try dsimp only at hSw)
    first | (go_simp; done) | (go_simp; with_reducible rfl)
  try simp only [List.getElem_toArray, List.getElem_cons_succ, List.getElem_cons_zero, Act.put, List.setIfInBounds_toArray, List.set_cons_zero, List.set_cons_succ]
  refine wpAnyH_take (i := 10) (v := ?_) rfl (by kernel_rfl) (by kernel_rfl) (by kernel_rfl) (fun _ _ _ h => h) (Or.inl ⟨by rfl, ?_⟩) (by assumption) ?_
  rotate_left
  · intro w hSw
    (try dsimp only at hSw)
    first | (go_simp; done) | (go_simp; with_reducible rfl)
  try simp only [List.getElem_toArray, List.getElem_cons_succ, List.getElem_cons_zero, Act.put, List.setIfInBounds_toArray, List.set_cons_zero, List.set_cons_succ]
  refine wpAnyH_take (i := 11) (v := ?_) rfl (by kernel_rfl) (by kernel_rfl) (by kernel_rfl) (fun _ _ _ h => h) (Or.inl ⟨by rfl, ?_⟩) (by assumption) ?_
  rotate_left
  · intro w hSw
    (try dsimp only at hSw)
    first | (go_simp; done) | (go_simp; with_reducible rfl)
  try simp only [List.getElem_toArray, List.getElem_cons_succ, List.getElem_cons_zero, Act.put, List.setIfInBounds_toArray, List.set_cons_zero, List.set_cons_succ]
  refine wpAnyH_take (i := 12) (v := ?_) rfl (by kernel_rfl) (by kernel_rfl) (by kernel_rfl) (fun _ _ _ h => h) (Or.inl ⟨by rfl, ?_⟩) (by assumption) ?_
  rotate_left
  · intro w hSw
    (try dsimp only at hSw)
    first | (go_simp; done) | (go_simp; with_reducible rfl)
  try simp only [List.getElem_toArray, List.getElem_cons_succ, List.getElem_cons_zero, Act.put, List.setIfInBounds_toArray, List.set_cons_zero, List.set_cons_succ]
  refine wpAnyH_take (i := 14) (v := ?_) rfl (by kernel_rfl) (by kernel_rfl) (by kernel_rfl) (fun _ _ _ h => h) (Or.inl ⟨by rfl, ?_⟩) (by assumption) ?_
  rotate_left
  · intro w hSw
    (try dsimp only at hSw)
    first | (go_simp; done) | (go_simp; with_reducible rfl)
  try simp only [List.getElem_toArray, List.getElem_cons_succ, List.getElem_cons_zero, Act.put, List.setIfInBounds_toArray, List.set_cons_zero, List.set_cons_succ]
  refine wpAnyH_take (i := 15) (v := ?_) rfl (by kernel_rfl) (by kernel_rfl) (by kernel_rfl) (fun _ _ _ h => h) (Or.inl ⟨by rfl, ?_⟩) (by assumption) ?_
  rotate_left
  · intro w hSw
    (try dsimp only at hSw)
    first | (go_simp; done) | (go_simp; with_reducible rfl)
  try simp only [List.getElem_toArray, List.getElem_cons_succ, List.getElem_cons_zero, Act.put, List.setIfInBounds_toArray, List.set_cons_zero, List.set_cons_succ]
  refine wpAnyH_take (i := 16) (v := ?_) rfl (by kernel_rfl) (by kernel_rfl) (by kernel_rfl) (fun _ _ _ h => h) (Or.inl ⟨by rfl, ?_⟩) (by assumption) ?_
  rotate_left
  · intro w hSw
    (try dsimp only at hSw)
    first | (go_simp; done) | (go_simp; with_reducible rfl)
  try simp only [List.getElem_toArray, List.getElem_cons_succ, List.getElem_cons_zero, Act.put, List.setIfInBounds_toArray, List.set_cons_zero, List.set_cons_succ]
  refine wpAnyH_take (i := 17) (v := ?_) rfl (by kernel_rfl) (by kernel_rfl) (by kernel_rfl) (fun _ _ _ h => h) (Or.inl ⟨by rfl, ?_⟩) (by assumption) ?_
  rotate_left
  · intro w hSw
    (try dsimp only at hSw)
    first | (go_simp; done) | (go_simp; with_reducible rfl)
  try simp only [List.getElem_toArray, List.getElem_cons_succ, List.getElem_cons_zero, Act.put, List.setIfInBounds_toArray, List.set_cons_zero, List.set_cons_succ]
  refine wpAnyH_ready (rs := [8]) (by kernel_rfl) (by simp) ?_
  refine AllReadyH.cons rfl (fun K hK => ?_) AllReadyH.nil
  go_simp
  (go_at_call 105; refine (copyS_any sb s Fs _ (H.out.sfq.below T1)).mono ?_; rintro e w3 ⟨c2, s', rfl, hs3, ev, em, hp, hb3⟩; have hbw3 : Below w.heap.size w w3 := below_step T1 hb3; have hS3 := HCL.out _ hbw3)
  refine hK.out _ _ ?_ (fun hHeld => ?_)
  · first | with_reducible exact hS5 | with_reducible exact hS4 | with_reducible exact hS3
  clear hK K
  try simp only [List.getElem_toArray, List.getElem_cons_succ, List.getElem_cons_zero, Act.put, List.setIfInBounds_toArray, List.set_cons_zero, List.set_cons_succ]
  refine wpAnyH_ready (rs := [13]) (by kernel_rfl) (by simp) ?_
  refine AllReadyH.cons rfl (fun K hK => ?_) AllReadyH.nil
  go_simp
  (go_at_call 106; refine (cloneM_any (H.out.lens.of_eq (hbw3.block lm hlm))).mono ?_; rintro e w4 ⟨rfl, hm4, hb4⟩; have hbw4 := hbw3.trans (hb4.mono hbw3.size); have hS4 := HCL.out _ hbw4)
  refine hK.out _ _ ?_ (fun hHeld => ?_)
  · first | with_reducible exact hS5 | with_reducible exact hS4 | with_reducible exact hS3
  clear hK K
  try simp only [List.getElem_toArray, List.getElem_cons_succ, List.getElem_cons_zero, Act.put, List.setIfInBounds_toArray, List.set_cons_zero, List.set_cons_succ]
  refine wpAnyH_take (i := 18) (v := ?_) rfl (by kernel_rfl) (by kernel_rfl) (by kernel_rfl) (fun _ _ _ h => h) (Or.inl ⟨by rfl, ?_⟩) (by assumption) ?_
  rotate_left
  · intro w hSw
    (try dsimp only at hSw)
    first | (go_simp; done) | (go_simp; with_reducible rfl)
  try simp only [List.getElem_toArray, List.getElem_cons_succ, List.getElem_cons_zero, Act.put, List.setIfInBounds_toArray, List.set_cons_zero, List.set_cons_succ]
  refine wpAnyH_ready (rs := [19]) (by kernel_rfl) (by simp) ?_
  refine AllReadyH.cons rfl (fun K hK => ?_) AllReadyH.nil
  go_simp
  (have hbw5 := hbw4.trans ((below1 w4 (.cells #[.int .i64 c.shards, .int .i64 c.slots, .int .i64 c.workers, .int .i64 c.width, .int .u64 c.unit, .pointer (some ⟨c2, 0, none⟩), .map (some w3.heap.size), .int .i64 served] 109)).mono hbw4.size); have hS5 := HCL.out _ hbw5)
  refine hK.out _ _ ?_ (fun hHeld => ?_)
  · first | with_reducible exact hS5 | with_reducible exact hS4 | with_reducible exact hS3
  clear hK K
  try simp only [List.getElem_toArray, List.getElem_cons_succ, List.getElem_cons_zero, Act.put, List.setIfInBounds_toArray, List.set_cons_zero, List.set_cons_succ]
  refine wpAnyH_take (i := 20) (v := ?_) rfl (by kernel_rfl) (by kernel_rfl) (by kernel_rfl) (fun _ _ _ h => h) (Or.inl ⟨by rfl, ?_⟩) (by assumption) ?_
  rotate_left
  · intro w hSw
    (try dsimp only at hSw)
    first | (go_simp; done) | (go_simp; with_reducible rfl)
  try simp only [List.getElem_toArray, List.getElem_cons_succ, List.getElem_cons_zero, Act.put, List.setIfInBounds_toArray, List.set_cons_zero, List.set_cons_succ]
  refine wpAnyH_done (by kernel_rfl) ?_ _
  go_wp2
  go_ret
  exact ⟨_, s', rfl, md_copied T1 hs3 hb3 hp hm4 hb4, ev, em, hp, hbw5⟩
end Go.Proofs.YtdjooacjjnjfmaaGreat
end

-- The reference's model: a copy of it.
section
namespace Go.Proofs.YtdjooacjjnjfmaaGreat
set_option linter.unusedVariables false
set_option linter.unusedSimpArgs false
set_option maxRecDepth 20000
open Go.RowKit Go.Proofs.YtdjooacjjnjfmaaGreatMem Go.Proofs.YtdjooacjjnjfmaaGreatMapK

/-- A copy: what was made. -/
theorem rm_copied {w w0 w3 : World} {c2 : Nat} {c : Cfg} {t : SfS} {served : Int} (h0 : Below w.heap.size w w0) (h3 : RfsAt w3 c2 t (fun k => w0.heap.size ≤ k ∧ k < w3.heap.size)) (hb3 : Below w0.heap.size w0 w3) :
    RmAt (w3.alloc (.cells #[.int .i64 c.shards, .int .i64 c.slots, .int .i64 c.workers, .int .i64 c.width, .int .u64 c.unit, .pointer (some ⟨c2, 0, none⟩), .int .i64 served] 88)) w3.heap.size c t served (fun k => w.heap.size ≤ k ∧ k < (w3.alloc (.cells #[.int .i64 c.shards, .int .i64 c.slots, .int .i64 c.workers, .int .i64 c.width, .int .u64 c.unit, .pointer (some ⟨c2, 0, none⟩), .int .i64 served] 88)).heap.size) := by
  have hb5 := below1 w3 (.cells #[.int .i64 c.shards, .int .i64 c.slots, .int .i64 c.workers, .int .i64 c.width, .int .u64 c.unit, .pointer (some ⟨c2, 0, none⟩), .int .i64 served] 88)
  have hs : (w3.alloc (.cells #[.int .i64 c.shards, .int .i64 c.slots, .int .i64 c.workers, .int .i64 c.width, .int .u64 c.unit, .pointer (some ⟨c2, 0, none⟩), .int .i64 served] 88)).heap.size = w3.heap.size + 1 := by simp
  have z0 := h0.size
  have z3 := hb3.size
  refine ⟨c2, fun k => w0.heap.size ≤ k ∧ k < w3.heap.size, Blk.new w3 _ _, h3.below hb5, fun k hk => ⟨⟨by omega, by rw [hs]; omega⟩, by omega⟩, ⟨by omega, by rw [hs]; omega⟩, fun k hk => hk.2⟩
set_option maxHeartbeats 4000000 in
theorem copyRM_any (b : Nat) (c : Cfg) (t : SfS) (served : Int) (F : Nat → Prop) (w : World) (h : RmAt w b c t served F) (hn : t.fs.length ≤ 1000000) :
    Calls Tryz.prog 80 #[.pointer (some ⟨b, 0, none⟩)] w fun e w' => ∃ n, e = .returned (.pointer (some ⟨n, 0, none⟩)) ∧ RmAt w' n c t served (fun k => w.heap.size ≤ k ∧ k < w'.heap.size) ∧ Below w.heap.size w w' := by
  obtain ⟨sb, Fs, h⟩ := h
  have HCL : Hid (∀ w', Below w.heap.size w w' → w'.cell? ⟨b, 0, none⟩ = some (.int .i64 c.shards) ∧ w'.cell? ⟨b, 1, none⟩ = some (.int .i64 c.slots) ∧ w'.cell? ⟨b, 2, none⟩ = some (.int .i64 c.workers) ∧ w'.cell? ⟨b, 3, none⟩ = some (.int .i64 c.width) ∧ w'.cell? ⟨b, 4, none⟩ = some (.int .u64 c.unit) ∧ w'.cell? ⟨b, 5, none⟩ = some (.pointer (some ⟨sb, 0, none⟩)) ∧ w'.cell? ⟨b, 6, none⟩ = some (.int .i64 served)) := Lib.hid fun w' hb =>
    have B := h.blk.below hb
    ⟨B.cell 0, B.cell 1, B.cell 2, B.cell 3, B.cell 4, B.cell 5, B.cell 6⟩
  have T1 : Below w.heap.size w w.drew := (Below.refl _ _).drew
  have H := Lib.hid h
  have hS := HCL.out _ T1
  obtain ⟨q0, q1, q2, q3, q4, q5, q6⟩ := HCL.out _ (Below.refl _ _)
  have hbl := h.blk.lt
  clear h
  go_enter Tryz.func80, Tryz.ntmps80
  go_upto_region 1 with fail
  clear q0 q1 q2 q3 q4 q5 q6
  refine wp_region_held_drew (S := (fun w' => w'.cell? ⟨b, 0, none⟩ = some (.int .i64 c.shards) ∧ w'.cell? ⟨b, 1, none⟩ = some (.int .i64 c.slots) ∧ w'.cell? ⟨b, 2, none⟩ = some (.int .i64 c.workers) ∧ w'.cell? ⟨b, 3, none⟩ = some (.int .i64 c.width) ∧ w'.cell? ⟨b, 4, none⟩ = some (.int .u64 c.unit) ∧ w'.cell? ⟨b, 5, none⟩ = some (.pointer (some ⟨sb, 0, none⟩)) ∧ w'.cell? ⟨b, 6, none⟩ = some (.int .i64 served))) (by kernel_rfl) ?_ (fun hHeld => ?_)
  · exact hS
  refine wpAnyH_take (i := 0) (v := ?_) rfl (by kernel_rfl) (by kernel_rfl) (by kernel_rfl) (fun _ _ _ h => h) (Or.inl ⟨by rfl, ?_⟩) (by assumption) ?_
  rotate_left
  · intro w hSw
    (try dsimp only at hSw)
    first | (go_simp; done) | (go_simp; with_reducible rfl)
  try simp only [List.getElem_toArray, List.getElem_cons_succ, List.getElem_cons_zero, Act.put, List.setIfInBounds_toArray, List.set_cons_zero, List.set_cons_succ]
  refine wpAnyH_take (i := 1) (v := ?_) rfl (by kernel_rfl) (by kernel_rfl) (by kernel_rfl) (fun _ _ _ h => h) (Or.inl ⟨by rfl, ?_⟩) (by assumption) ?_
  rotate_left
  · intro w hSw
    (try dsimp only at hSw)
    first | (go_simp; done) | (go_simp; with_reducible rfl)
  try simp only [List.getElem_toArray, List.getElem_cons_succ, List.getElem_cons_zero, Act.put, List.setIfInBounds_toArray, List.set_cons_zero, List.set_cons_succ]
  refine wpAnyH_take (i := 2) (v := ?_) rfl (by kernel_rfl) (by kernel_rfl) (by kernel_rfl) (fun _ _ _ h => h) (Or.inl ⟨by rfl, ?_⟩) (by assumption) ?_
  rotate_left
  · intro w hSw
    (try dsimp only at hSw)
    first | (go_simp; done) | (go_simp; with_reducible rfl)
  try simp only [List.getElem_toArray, List.getElem_cons_succ, List.getElem_cons_zero, Act.put, List.setIfInBounds_toArray, List.set_cons_zero, List.set_cons_succ]
  refine wpAnyH_take (i := 3) (v := ?_) rfl (by kernel_rfl) (by kernel_rfl) (by kernel_rfl) (fun _ _ _ h => h) (Or.inl ⟨by rfl, ?_⟩) (by assumption) ?_
  rotate_left
  · intro w hSw
    (try dsimp only at hSw)
    first | (go_simp; done) | (go_simp; with_reducible rfl)
  try simp only [List.getElem_toArray, List.getElem_cons_succ, List.getElem_cons_zero, Act.put, List.setIfInBounds_toArray, List.set_cons_zero, List.set_cons_succ]
  refine wpAnyH_take (i := 4) (v := ?_) rfl (by kernel_rfl) (by kernel_rfl) (by kernel_rfl) (fun _ _ _ h => h) (Or.inl ⟨by rfl, ?_⟩) (by assumption) ?_
  rotate_left
  · intro w hSw
    (try dsimp only at hSw)
    first | (go_simp; done) | (go_simp; with_reducible rfl)
  try simp only [List.getElem_toArray, List.getElem_cons_succ, List.getElem_cons_zero, Act.put, List.setIfInBounds_toArray, List.set_cons_zero, List.set_cons_succ]
  refine wpAnyH_take (i := 5) (v := ?_) rfl (by kernel_rfl) (by kernel_rfl) (by kernel_rfl) (fun _ _ _ h => h) (Or.inl ⟨by rfl, ?_⟩) (by assumption) ?_
  rotate_left
  · intro w hSw
    (try dsimp only at hSw)
    first | (go_simp; done) | (go_simp; with_reducible rfl)
  try simp only [List.getElem_toArray, List.getElem_cons_succ, List.getElem_cons_zero, Act.put, List.setIfInBounds_toArray, List.set_cons_zero, List.set_cons_succ]
  refine wpAnyH_take (i := 6) (v := ?_) rfl (by kernel_rfl) (by kernel_rfl) (by kernel_rfl) (fun _ _ _ h => h) (Or.inl ⟨by rfl, ?_⟩) (by assumption) ?_
  rotate_left
  · intro w hSw
    (try dsimp only at hSw)
    first | (go_simp; done) | (go_simp; with_reducible rfl)
  try simp only [List.getElem_toArray, List.getElem_cons_succ, List.getElem_cons_zero, Act.put, List.setIfInBounds_toArray, List.set_cons_zero, List.set_cons_succ]
  refine wpAnyH_take (i := 7) (v := ?_) rfl (by kernel_rfl) (by kernel_rfl) (by kernel_rfl) (fun _ _ _ h => h) (Or.inl ⟨by rfl, ?_⟩) (by assumption) ?_
  rotate_left
  · intro w hSw
    (try dsimp only at hSw)
    first | (go_simp; done) | (go_simp; with_reducible rfl)
  try simp only [List.getElem_toArray, List.getElem_cons_succ, List.getElem_cons_zero, Act.put, List.setIfInBounds_toArray, List.set_cons_zero, List.set_cons_succ]
  refine wpAnyH_take (i := 9) (v := ?_) rfl (by kernel_rfl) (by kernel_rfl) (by kernel_rfl) (fun _ _ _ h => h) (Or.inl ⟨by rfl, ?_⟩) (by assumption) ?_
  rotate_left
  · intro w hSw
    (try dsimp only at hSw)
    first | (go_simp; done) | (go_simp; with_reducible rfl)
  try simp only [List.getElem_toArray, List.getElem_cons_succ, List.getElem_cons_zero, Act.put, List.setIfInBounds_toArray, List.set_cons_zero, List.set_cons_succ]
  refine wpAnyH_take (i := 10) (v := ?_) rfl (by kernel_rfl) (by kernel_rfl) (by kernel_rfl) (fun _ _ _ h => h) (Or.inl ⟨by rfl, ?_⟩) (by assumption) ?_
  rotate_left
  · intro w hSw
    (try dsimp only at hSw)
    first | (go_simp; done) | (go_simp; with_reducible rfl)
  try simp only [List.getElem_toArray, List.getElem_cons_succ, List.getElem_cons_zero, Act.put, List.setIfInBounds_toArray, List.set_cons_zero, List.set_cons_succ]
  refine wpAnyH_take (i := 11) (v := ?_) rfl (by kernel_rfl) (by kernel_rfl) (by kernel_rfl) (fun _ _ _ h => h) (Or.inl ⟨by rfl, ?_⟩) (by assumption) ?_
  rotate_left
  · intro w hSw
    (try dsimp only at hSw)
    first | (go_simp; done) | (go_simp; with_reducible rfl)
  try simp only [List.getElem_toArray, List.getElem_cons_succ, List.getElem_cons_zero, Act.put, List.setIfInBounds_toArray, List.set_cons_zero, List.set_cons_succ]
  refine wpAnyH_take (i := 12) (v := ?_) rfl (by kernel_rfl) (by kernel_rfl) (by kernel_rfl) (fun _ _ _ h => h) (Or.inl ⟨by rfl, ?_⟩) (by assumption) ?_
  rotate_left
  · intro w hSw
    (try dsimp only at hSw)
    first | (go_simp; done) | (go_simp; with_reducible rfl)
  try simp only [List.getElem_toArray, List.getElem_cons_succ, List.getElem_cons_zero, Act.put, List.setIfInBounds_toArray, List.set_cons_zero, List.set_cons_succ]
  refine wpAnyH_ready (rs := [8]) (by kernel_rfl) (by simp) ?_
  refine AllReadyH.cons rfl (fun K hK => ?_) AllReadyH.nil
  go_simp
  (go_at_call 107; refine (copyR_any sb t Fs _ (H.out.below T1).sfq hn).mono ?_; rintro e w3 ⟨c2, rfl, hs3, hb3⟩; have hbw3 : Below w.heap.size w w3 := below_step T1 hb3; have hS3 := HCL.out _ hbw3)
  refine hK.out _ _ ?_ (fun hHeld => ?_)
  · first | with_reducible exact hS5 | with_reducible exact hS3
  clear hK K
  try simp only [List.getElem_toArray, List.getElem_cons_succ, List.getElem_cons_zero, Act.put, List.setIfInBounds_toArray, List.set_cons_zero, List.set_cons_succ]
  refine wpAnyH_take (i := 13) (v := ?_) rfl (by kernel_rfl) (by kernel_rfl) (by kernel_rfl) (fun _ _ _ h => h) (Or.inl ⟨by rfl, ?_⟩) (by assumption) ?_
  rotate_left
  · intro w hSw
    (try dsimp only at hSw)
    first | (go_simp; done) | (go_simp; with_reducible rfl)
  try simp only [List.getElem_toArray, List.getElem_cons_succ, List.getElem_cons_zero, Act.put, List.setIfInBounds_toArray, List.set_cons_zero, List.set_cons_succ]
  refine wpAnyH_ready (rs := [14]) (by kernel_rfl) (by simp) ?_
  refine AllReadyH.cons rfl (fun K hK => ?_) AllReadyH.nil
  go_simp
  (have hbw5 := hbw3.trans ((below1 w3 (.cells #[.int .i64 c.shards, .int .i64 c.slots, .int .i64 c.workers, .int .i64 c.width, .int .u64 c.unit, .pointer (some ⟨c2, 0, none⟩), .int .i64 served] 88)).mono hbw3.size); have hS5 := HCL.out _ hbw5)
  refine hK.out _ _ ?_ (fun hHeld => ?_)
  · first | with_reducible exact hS5 | with_reducible exact hS3
  clear hK K
  try simp only [List.getElem_toArray, List.getElem_cons_succ, List.getElem_cons_zero, Act.put, List.setIfInBounds_toArray, List.set_cons_zero, List.set_cons_succ]
  refine wpAnyH_take (i := 15) (v := ?_) rfl (by kernel_rfl) (by kernel_rfl) (by kernel_rfl) (fun _ _ _ h => h) (Or.inl ⟨by rfl, ?_⟩) (by assumption) ?_
  rotate_left
  · intro w hSw
    (try dsimp only at hSw)
    first | (go_simp; done) | (go_simp; with_reducible rfl)
  try simp only [List.getElem_toArray, List.getElem_cons_succ, List.getElem_cons_zero, Act.put, List.setIfInBounds_toArray, List.set_cons_zero, List.set_cons_succ]
  refine wpAnyH_done (by kernel_rfl) ?_ _
  go_wp2
  go_ret
  exact ⟨_, rfl, rm_copied T1 hs3 hb3, hbw5⟩
end Go.Proofs.YtdjooacjjnjfmaaGreat
end
