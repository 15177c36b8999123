/- Merged: CopyS CopyR SpoilN Four SfqCopies. -/
import Derived.Test.YtnanalaienlbpaaGreatSfq9
import Derived.Test.YtnanalaienlbpaaGreatRfs5a
import Derived.Test.YtnanalaienlbpaaGreatRfs3
import Derived.Deep.RegionLaw
import Derived.Deep.CutRange
import Derived.Test.YtnanalaienlbpaaGreatHelpN
import Derived.OwnWalk
import Derived.Test.YtnanalaienlbpaaGreatSome10
import Derived.Test.YtnanalaienlbpaaGreatLooks
import Derived.Deep.CutBlock
-- A set of flows: a copy of it.
section
namespace Go.Proofs.YtnanalaienlbpaaGreat
set_option linter.unusedVariables false
set_option linter.unusedSimpArgs false
set_option maxRecDepth 20000
open Go.RowKit Go.Proofs.YtnanalaienlbpaaGreatMem Go.Proofs.YtnanalaienlbpaaGreatMapK

/-- Under way: the flows d have been copied. -/
structure CpSt (w wr : World) (mb r c cm : Nat) (v most : Int) (l d : List FlR) : Prop where
  sub : ∀ e ∈ d, e ∈ l
  it : IterAt wr r mb (Value.int .i64) (l.map FlR.ent) (d.map FlR.ent)
  new : ∃ d', d'.map FlR.pl = d.map FlR.pl ∧ SfqR wr c cm v most d' (fun k => w.heap.size ≤ k ∧ k < wr.heap.size ∧ k ≠ r)
  bel : Below w.heap.size w wr
  hr : w.heap.size ≤ r
theorem getR_ids {d d' : List FlR} (h : d'.map FlR.pl = d.map FlR.pl) {id : Int} (hn : id ∉ (d.map FlR.ent).map (·.1)) : getR d' id = none := by
  rw [getR_none]
  intro e he e1
  have h2 : (d'.map FlR.pl).map (·.1) = (d.map FlR.pl).map (·.1) := by rw [h]
  simp only [List.map_map] at h2 hn
  have h3 : e.id ∈ d'.map ((fun x : Int × FlS => x.1) ∘ FlR.pl) := List.mem_map.2 ⟨e, he, rfl⟩
  rw [h2] at h3
  obtain ⟨e2, he2, h4⟩ := List.mem_map.1 h3
  exact hn (List.mem_map.2 ⟨e2, he2, by rw [← e1]; exact h4⟩)
theorem CpSt.came {w wr w2 w1 w3 : World} {b mb r c cm c1 : Nat} {v most : Int} {l d : List FlR} {F : Nat → Prop} {e : FlR} (H : SfqR w b mb v most l F) (h : CpSt w wr mb r c cm v most l d) (he : e ∈ l) (hn : e.id ∉ (d.map FlR.ent).map (·.1))
    (hg2 : wr.grownBy w2 (some r)) (hi2 : IterAt w2 r mb (Value.int .i64) (l.map FlR.ent) (d.map FlR.ent ++ [e.ent])) (hf1 : FlowAt w1 c1 e.x fun k => w2.heap.size ≤ k ∧ k < w1.heap.size) (hb1 : Below w2.heap.size w2 w1)
    (hg3 : w1.grownBy w3 (some cm)) {d' : List FlR} (hd' : d'.map FlR.pl = d.map FlR.pl) (hR : SfqR wr c cm v most d' (fun k => w.heap.size ≤ k ∧ k < wr.heap.size ∧ k ≠ r)) (hm : IsMapAt w3 cm (Value.int .i64) (putM (d'.map FlR.ent) e.id (.pointer (some ⟨c1, 0, none⟩)))) :
    CpSt w w3 mb r c cm v most l (d ++ [e]) ∧ SfqR w3 c cm v most (d' ++ [⟨e.id, c1, e.x, fun k => w2.heap.size ≤ k ∧ k < w1.heap.size⟩]) (fun k => w.heap.size ≤ k ∧ k < w3.heap.size ∧ k ≠ r) := by
  have s2 := hg2.size
  have s1 := hb1.size
  have s3 := hg3.size
  have s0 := h.bel.size
  have hrl := h.it.lt
  have hf2 : Fr (fun k => k = r) wr w2 := (Fr.refl _ _).grown hg2 fun k e => by cases e; exact .inl rfl
  have hR2 := hR.fr hf2 (fun k hk e => hk.2.2 e)
  have hmbl := H.map.lt
  have hcm := hR.hm
  obtain ⟨hR3, -⟩ := hR2.added (getR_ids hd' hn) (H.ok e he) hf1 hb1 hm hg3
  have hR4 : SfqR w3 c cm v most (d' ++ [⟨e.id, c1, e.x, fun k => w2.heap.size ≤ k ∧ k < w1.heap.size⟩]) (fun k => w.heap.size ≤ k ∧ k < w3.heap.size ∧ k ≠ r) :=
    hR3.mono (fun k hk => by
      rcases hk with hk | hk
      · exact ⟨hk.1, by omega, hk.2.2⟩
      · exact ⟨by omega, hk.2, by omega⟩) (fun k hk => hk.2.1)
  refine ⟨⟨fun e' h' => ?_, ?_, ⟨_, ?_, hR4⟩, ?_, h.hr⟩, hR4⟩
  · rcases List.mem_append.1 h' with h' | h'
    · exact h.sub e' h'
    · simp only [List.mem_singleton] at h'; subst h'; exact he
  · rw [List.map_append]
    refine (hi2.of_eq (hb1.block mb (by omega)) (hb1.block r (by omega))).of_eq (hg3.block mb (by omega) fun e' => ?_) (hg3.block r (by omega) fun e' => ?_)
    · cases e'; have := hcm.1; omega
    · cases e'; exact hcm.2.2 rfl
  · rw [List.map_append, List.map_append, hd']; rfl
  · refine ((h.bel.grown hg2 s0 fun k e' => ?_).trans (hb1.mono (by omega))).grown hg3 (by omega) fun k e' => ?_
    · cases e'; exact h.hr
    · cases e'; exact hcm.1

theorem new_at (w : World) (v most : Int) : SfqR ((w.alloc (.map #[] 0)).alloc (.cells #[.map (some w.heap.size), .int .u64 v, .int .u64 most] 50)) (w.heap.size + 1) w.heap.size v most [] (fun k => w.heap.size ≤ k ∧ k < ((w.alloc (.map #[] 0)).alloc (.cells #[.map (some w.heap.size), .int .u64 v, .int .u64 most] 50)).heap.size) ∧ Below w.heap.size w ((w.alloc (.map #[] 0)).alloc (.cells #[.map (some w.heap.size), .int .u64 v, .int .u64 most] 50)) := by
  have e : (w.alloc (.map #[] 0)).heap.size = w.heap.size + 1 := by simp
  refine ⟨?_, ((Below.refl w.heap.size w).alloc (Nat.le_refl _) _).alloc (by simp) _⟩
  have hb := Blk.new (w.alloc (.map #[] 0)) [.map (some w.heap.size), .int .u64 v, .int .u64 most] 50
  rw [e] at hb
  refine { blk := hb, map := (IsMapAt.made w _).of_eq ?_, flows := fun e he => (by cases he), hb := ?_, hm := ?_, ne := by omega, sub := fun e he => (by cases he), disj := List.Pairwise.nil, lt := fun k hk => hk.2, ok := fun e he => (by cases he) }
  · exact heap_alloc_old _ _ (by simp)
  · simp
  · simp; omega

set_option maxHeartbeats 2000000 in
theorem copyS_any (b : Nat) (s : SfS) (F : Nat → Prop) (w : World) (h : SfsAt w b s F) :
    Calls Tryz.prog 12 #[.pointer (some ⟨b, 0, none⟩)] w fun e w' => ∃ c s', e = .returned (.pointer (some ⟨c, 0, none⟩)) ∧ SfsAt w' c s' (fun k => w.heap.size ≤ k ∧ k < w'.heap.size) ∧ s'.v = s.v ∧ s'.most = s.most ∧ s'.fs.Perm s.fs ∧ Below w.heap.size w w' := by
  obtain ⟨mb, l, hl, h⟩ := h
  have c0 := h.blk.cell 0
  have c1 := h.blk.cell 1
  have c2 := h.blk.cell 2
  have hbl := h.blk.lt
  simp only [List.getElem?_cons_succ, List.getElem?_cons_zero] at c0 c1 c2
  obtain ⟨hN, hbN⟩ := new_at w s.v s.most
  have hmm : (Instr.makeMap 48 none).run Tryz.prog w.drew = .ok (.map (some w.heap.size)) (w.alloc (.map #[] 0)).drew := rfl
  have hH := h
  rw [← hl]
  have HV : Hid (∀ x : Int, s.v = x → x = s.v) := fun _ e => e.symm
  generalize s.v = v at *
  generalize s.most = most at *
  clear hl
  go_enter Tryz.func12, Tryz.ntmps12
  go_wp2_with fail
  go_region
  go_upto_region 2 with fail
  generalize hW : ((w.alloc (.map #[] 0)).alloc (.cells #[.map (some w.heap.size), .int .u64 v, .int .u64 most] 50)) = W at *
  clear hW hmm c1 c2
  have hN' : SfqR W.drew (w.heap.size + 1) w.heap.size v most [] (fun k => w.heap.size ≤ k ∧ k < W.drew.heap.size) := hN.below (Below.refl _ _).drew
  have hb' : Below w.heap.size w W.drew := hbN.drew
  clear hN hbN
  generalize W.drew = X at *
  have hX := hH.below hb'
  have c0 := (hb'.cell (p := ⟨b, 0, none⟩) hbl).trans c0
  have hblX := Nat.lt_of_lt_of_le hbl hb'.size
  obtain ⟨w1, hr1, hi1, hg1, hs1⟩ := iter_start (P := Tryz.prog) under_mapF hX.map
  have hb1 : Below X.heap.size X w1 := (Below.refl _ _).grown hg1 (Nat.le_refl _) (by intro q hq; cases hq)
  have hsX := hb'.size
  have hst : CpSt w w1 mb X.heap.size (w.heap.size + 1) w.heap.size v most l [] :=
    ⟨fun e he => (by cases he), hi1, ⟨[], rfl, (hN'.below hb1).mono (fun k hk => ⟨hk.1, by omega, by omega⟩) (fun k hk => hk.2.1)⟩, hb'.trans (hb1.mono hsX), hsX⟩
  have H := Lib.hid hH
  clear hH h hX hN' hb' hi1 hg1 hb1 hs1
  go_wp2_with fail
  generalize X.heap.size = r at *
  clear hr1
  go_loopw [4, 5] (fun _ _ wr => ∃ d, CpSt w wr mb r (w.heap.size + 1) w.heap.size v most l d) (fun _ _ wr => l.length - (wr.iterSeen r).size)
  case atStart => exact ⟨[], hst⟩
  case round =>
    obtain ⟨d, hd⟩ := hrel
    rcases iter_next (P := Tryz.prog) 0 hd.it with ⟨ha, hnx⟩ | ⟨p, hp, hpn, w2, hnx, hen, hi2, hg2, hs2⟩
    · go_wp2_with fail
      go_ret
      obtain ⟨d', hd', hR⟩ := hd.new
      exact ⟨_, ⟨v, most, d.map FlR.pl⟩, rfl, ⟨_, d', hd', hR.mono (fun k hk => ⟨hk.1, hk.2.1⟩) (fun k hk => hk.2)⟩, rfl, rfl, (H.out.perm hd.sub hd.it ha).map FlR.pl, hd.bel⟩
    · obtain ⟨e, he, rfl⟩ := List.mem_map.1 hp
      have hlt := hd.it.some_left hp hpn
      have hseen := hd.it.seen
      simp only [FlR.ent] at hnx hen
      have hb2 : Below w.heap.size w w2 := hd.bel.grown hg2 hd.bel.size (by intro q hq; cases hq; exact hd.hr)
      have hfl := (H.out.flows e he).below hb2
      have hxo := H.out.ok e he
      obtain ⟨d', hd', hR⟩ := hd.new
      have hR2 := hR.fr ((Fr.refl (fun k => k = r) wr).grown hg2 fun k e => by cases e; exact .inl rfl) (fun k hk e => hk.2.2 e)
      have x0 := hR2.blk.cell 0
      have xl := hR2.blk.lt
      simp only [List.getElem?_cons_succ, List.getElem?_cons_zero] at x0
      have hm2 := Lib.hid hR2.map
      have HC := Lib.hid (fun w1 w3 c1 h1 h2 h3 h4 => CpSt.came (w1 := w1) (w3 := w3) (c1 := c1) H.out hd he hpn hg2 hi2 h1 h2 h3 hd' hR h4)
      have HS := Lib.hid hseen
      have HL := Lib.hid hlt
      clear hd hR hR2 hg2 hi2 hb2 hp hpn hlt hseen hs2
      go_upto_region 5 with fail
      refine wp_region_held_drew (S := (fun w' => w'.cell? ⟨w.heap.size + 1, 0, none⟩ = some (.map (some w.heap.size)))) (by kernel_rfl) ?_ (fun hHeld => ?_)
      · exact x0
      refine wpAnyH_take (i := 0) (v := ?_) rfl (by kernel_rfl) (by kernel_rfl) (by kernel_rfl) (fun _ _ _ h => h) (Or.inl ⟨by rfl, ?_⟩) (by assumption) ?_
      rotate_left
      · intro w hSw
        (try dsimp only at hSw)
        first | (go_simp; done) | (go_simp; with_reducible rfl)
      try simp only [List.getElem_toArray, List.getElem_cons_succ, List.getElem_cons_zero, Act.put, List.setIfInBounds_toArray, List.set_cons_zero, List.set_cons_succ]
      refine wpAnyH_take (i := 1) (v := ?_) rfl (by kernel_rfl) (by kernel_rfl) (by kernel_rfl) (fun _ _ _ h => h) (Or.inl ⟨by rfl, ?_⟩) (by assumption) ?_
      rotate_left
      · intro w hSw
        (try dsimp only at hSw)
        first | (go_simp; done) | (go_simp; with_reducible rfl)
      try simp only [List.getElem_toArray, List.getElem_cons_succ, List.getElem_cons_zero, Act.put, List.setIfInBounds_toArray, List.set_cons_zero, List.set_cons_succ]
      refine wpAnyH_take (i := 2) (v := ?_) rfl (by kernel_rfl) (by kernel_rfl) (by kernel_rfl) (fun _ _ _ h => h) (Or.inl ⟨by rfl, ?_⟩) (by assumption) ?_
      rotate_left
      · intro w hSw
        (try dsimp only at hSw)
        first | (go_simp; done) | (go_simp; with_reducible rfl)
      try simp only [List.getElem_toArray, List.getElem_cons_succ, List.getElem_cons_zero, Act.put, List.setIfInBounds_toArray, List.set_cons_zero, List.set_cons_succ]
      refine wpAnyH_take (i := 3) (v := ?_) rfl (by kernel_rfl) (by kernel_rfl) (by kernel_rfl) (fun _ _ _ h => h) (Or.inl ⟨by rfl, ?_⟩) (by assumption) ?_
      rotate_left
      · intro w hSw
        (try dsimp only at hSw)
        first | (go_simp; done) | (go_simp; with_reducible rfl)
      try simp only [List.getElem_toArray, List.getElem_cons_succ, List.getElem_cons_zero, Act.put, List.setIfInBounds_toArray, List.set_cons_zero, List.set_cons_succ]
      refine wpAnyH_take (i := 4) (v := ?_) rfl (by kernel_rfl) (by kernel_rfl) (by kernel_rfl) (fun _ _ _ h => h) (Or.inl ⟨by rfl, ?_⟩) (by assumption) ?_
      rotate_left
      · intro w hSw
        (try dsimp only at hSw)
        first | (go_simp; done) | (go_simp; with_reducible rfl)
      try simp only [List.getElem_toArray, List.getElem_cons_succ, List.getElem_cons_zero, Act.put, List.setIfInBounds_toArray, List.set_cons_zero, List.set_cons_succ]
      refine wpAnyH_take (i := 5) (v := ?_) rfl (by kernel_rfl) (by kernel_rfl) (by kernel_rfl) (fun _ _ _ h => h) (Or.inl ⟨by rfl, ?_⟩) (by assumption) ?_
      rotate_left
      · intro w hSw
        (try dsimp only at hSw)
        first | (go_simp; done) | (go_simp; with_reducible rfl)
      try simp only [List.getElem_toArray, List.getElem_cons_succ, List.getElem_cons_zero, Act.put, List.setIfInBounds_toArray, List.set_cons_zero, List.set_cons_succ]
      refine wpAnyH_ready (rs := [6]) (by kernel_rfl) (by simp) ?_
      refine AllReadyH.cons rfl (fun K hK => ?_) AllReadyH.nil
      go_simp
      (go_at_call 32; refine (copy_any e.b e.x e.G _ (hfl.below (Below.refl _ _).drew) hxo).mono ?_; rintro e' w4 ⟨c1, rfl, hf1, hb1⟩; replace hb1 := (Below.refl w2.heap.size w2).drew.trans hb1)
      refine hK.out _ _ ?_ (fun hHeld => ?_)
      · first | exact (hb1.cell (p := ⟨w.heap.size + 1, 0, none⟩) xl).trans x0 | exact hS2
      clear hK K
      try simp only [List.getElem_toArray, List.getElem_cons_succ, List.getElem_cons_zero, Act.put, List.setIfInBounds_toArray, List.set_cons_zero, List.set_cons_succ]
      refine wpAnyH_ready (rs := [7]) (by kernel_rfl) (by simp) ?_
      refine AllReadyH.cons rfl (fun K hK => ?_) AllReadyH.nil
      (refine step_updateK rfl _ _ _ rfl intKey under_mapF e.id (.pointer (some ⟨c1, 0, none⟩)) rfl rfl rfl (hm2.out.of_eq (hb1.block w.heap.size (by omega))) ?_; intro w3 hm3 hg3; obtain ⟨hC, hR3⟩ := HC.out _ _ _ hf1 hb1 hg3 hm3; have hS2 := hR3.blk.cell 0)
      refine hK.out _ _ ?_ (fun hHeld => ?_)
      · first | exact (hb1.cell (p := ⟨w.heap.size + 1, 0, none⟩) xl).trans x0 | exact hS2
      clear hK K
      try simp only [List.getElem_toArray, List.getElem_cons_succ, List.getElem_cons_zero, Act.put, List.setIfInBounds_toArray, List.set_cons_zero, List.set_cons_succ]
      refine wpAnyH_done (by kernel_rfl) ?_ _
      have hse := hC.it.seen
      have HCC := Lib.hid hC
      clear hC
      go_wp2
      go_roundw
      case rel => exact ⟨d ++ [e], HCC.out⟩
      case measure => have := HS.out; have := HL.out; simp at *; omega
end Go.Proofs.YtnanalaienlbpaaGreat
end

-- The reference's flows: a copy of them.
section
namespace Go.Proofs.YtnanalaienlbpaaGreat
set_option linter.unusedVariables false
set_option linter.unusedSimpArgs false
set_option maxRecDepth 20000
open Go.RowKit Go.Proofs.YtnanalaienlbpaaGreatMem Go.Proofs.YtnanalaienlbpaaGreatMapK

/-- One more at the end of the row. -/
theorem RfR.more {w w7 w8 : World} {c c7 n cap c8 : Nat} {v most id : Int} {x : FlS} {d : List FlR} {F : Nat → Prop} {a a8 : Option Addr} (h : RfR w c v most d F) (c0 : w.cell? ⟨c, 0, none⟩ = some (.slice a n cap))
    (hb7 : Below w.heap.size w w7) (hf7 : RefAt w7 c7 id x (fun k => w.heap.size ≤ k ∧ k < w7.heap.size)) (hx : x.Ok) (hid : ∀ e ∈ d, e.id < id)
    (hg8 : w7.grownBy w8 (Value.slice a n cap).ownBlock) (hf8 : FreshOr w7 (.slice a n cap) (.slice a8 (n + 1) c8)) (hown : w8.ownsRow 0 72 1 (.slice a8 (n + 1) c8) (n + 1) (ptrs d ++ [.pointer (some ⟨c7, 0, none⟩)])) (hn : d.length = n) :
    RfR (w8.setCell ⟨c, 0, none⟩ (.slice a8 (n + 1) c8)) c v most (d ++ [⟨id, c7, x, fun k => w.heap.size ≤ k ∧ k < w7.heap.size⟩]) (Ext F w (w8.setCell ⟨c, 0, none⟩ (.slice a8 (n + 1) c8))) ∧ Fr F w (w8.setCell ⟨c, 0, none⟩ (.slice a8 (n + 1) c8)) := by
  obtain ⟨ao, cap', h1, h2, h3⟩ := h.row
  have q0 := h1.cell 0
  simp only [List.getElem?_cons_zero] at q0
  have q1 := c0.symm.trans q0
  simp only [Option.some.injEq, Value.slice.injEq] at q1
  obtain ⟨rfl, q2, rfl⟩ := q1
  subst hn
  have hcl := h.lt c h.hb
  have s7 := hb7.size
  have s8 := hg8.size
  have hs : (w8.setCell ⟨c, 0, none⟩ (.slice a8 (d.length + 1) c8)).heap.size = w8.heap.size := by simp [World.setCell]
  have hob : ∀ k, (Value.slice a d.length cap).ownBlock = some k → F k ∧ k ≠ c ∧ ∀ e ∈ d, ¬ e.G k := fun k hk => by
    cases a with
    | none => cases hk
    | some ad => cases hk; exact h3 ad rfl
  have h8b : ∀ k, (Value.slice a8 (d.length + 1) c8).ownBlock = some k → (F k ∧ k ≠ c ∧ ∀ e ∈ d, ¬ e.G k) ∨ (w7.heap.size ≤ k ∧ k < w8.heap.size) := fun k hk => by
    rcases hf8 with hf | hf
    · rw [hf] at hk; exact .inl (hob k hk)
    · exact .inr ⟨hf k hk, (hown.lt k hk).2⟩
  have f7 : Fr F w w7 := Fr.of_below hb7
  have f8 : Fr F w w8 := f7.grown hg8 fun k hk => .inl (hob k hk).1
  have hF : Fr F w (w8.setCell ⟨c, 0, none⟩ (.slice a8 (d.length + 1) c8)) := Fr.setCell (S := F) (a := ⟨c, 0, none⟩) f8 (.inl h.hb) _
  have g8 : Fr (fun k => (Value.slice a d.length cap).ownBlock = some k) w7 w8 := (Fr.refl _ _).grown hg8 fun k hk => .inl hk
  have hS : Fr (fun k => k = c) w8 (w8.setCell ⟨c, 0, none⟩ (.slice a8 (d.length + 1) c8)) := Fr.setCell (S := fun k => k = c) (a := ⟨c, 0, none⟩) (Fr.refl _ _) (.inl rfl) _
  have hlen : (d ++ [FlR.mk id c7 x fun k => w.heap.size ≤ k ∧ k < w7.heap.size]).length = d.length + 1 := by simp
  have hpt : ptrs (d ++ [FlR.mk id c7 x fun k => w.heap.size ≤ k ∧ k < w7.heap.size]) = ptrs d ++ [.pointer (some ⟨c7, 0, none⟩)] := by unfold ptrs; rw [List.map_append]; rfl
  have hfl : ∀ e ∈ d, RefAt (w8.setCell ⟨c, 0, none⟩ (.slice a8 (d.length + 1) c8)) e.b e.id e.x e.G := fun e he =>
    ((((h.flows e he).below hb7).fr g8 fun k hk hk2 => (hob k hk2).2.2 e he hk)).fr hS fun k hk e' => (h.sub e he k hk).2 e'
  have hnw : RefAt (w8.setCell ⟨c, 0, none⟩ (.slice a8 (d.length + 1) c8)) c7 id x (fun k => w.heap.size ≤ k ∧ k < w7.heap.size) :=
    (hf7.fr g8 fun k hk hk2 => by have := h.lt k (hob k hk2).1; omega).fr hS fun k hk e' => by omega
  refine ⟨{ row := ⟨a8, c8, ?_, ?_, ?_⟩, flows := ?_, hb := .inl h.hb, sub := ?_, disj := ?_, lt := h.lt.ext hF.size, ok := ?_, rise := ?_ }, hF⟩
  · rw [hlen]
    have hB := ((h1.below hb7).fr g8 fun hk => (hob c hk).2.1 rfl).set 0 (.slice a8 (d.length + 1) c8)
    simpa using hB
  · rw [hlen, hpt]
    exact owns_fr hown hS fun k hk e' => by
      rcases h8b k hk with hk | hk
      · exact hk.2.1 e'
      · omega
  · intro ad had
    subst had
    rcases h8b ad.block rfl with hk | hk
    · refine ⟨.inl hk.1, hk.2.1, fun e he hk2 => ?_⟩
      rcases List.mem_append.1 he with he | he
      · exact hk.2.2 e he hk2
      · simp only [List.mem_singleton] at he; subst he
        have := h.lt _ hk.1
        simp only at hk2
        omega
    · refine ⟨.inr ⟨by omega, by rw [hs]; exact hk.2⟩, by omega, fun e he hk2 => ?_⟩
      rcases List.mem_append.1 he with he | he
      · have := h.lt _ (h.sub e he _ hk2).1; omega
      · simp only [List.mem_singleton] at he; subst he
        simp only at hk2
        omega
  · intro e he
    rcases List.mem_append.1 he with he | he
    · exact hfl e he
    · simp only [List.mem_singleton] at he; subst he; exact hnw
  · intro e he k hk
    rcases List.mem_append.1 he with he | he
    · exact ⟨.inl (h.sub e he k hk).1, (h.sub e he k hk).2⟩
    · simp only [List.mem_singleton] at he; subst he
      simp only at hk
      exact ⟨.inr ⟨hk.1, by rw [hs]; omega⟩, by omega⟩
  · rw [List.pairwise_append]
    refine ⟨h.disj, by simp, fun e he e' he' k hk hk' => ?_⟩
    simp only [List.mem_singleton] at he'; subst he'
    have := h.lt k (h.sub e he k hk).1
    simp only at hk'
    omega
  · intro e he
    rcases List.mem_append.1 he with he | he
    · exact h.ok e he
    · simp only [List.mem_singleton] at he; subst he; exact hx
  · rw [List.pairwise_append]
    refine ⟨h.rise, by simp, fun e he e' he' => ?_⟩
    simp only [List.mem_singleton] at he'; subst he'
    exact hid e he

theorem newR_at (w : World) (v most : Int) : RfR (w.alloc (.cells #[.slice none 0 0, .int .u64 v, .int .u64 most] 29)) w.heap.size v most [] (fun k => w.heap.size ≤ k ∧ k < (w.alloc (.cells #[.slice none 0 0, .int .u64 v, .int .u64 most] 29)).heap.size) :=
  { row := ⟨none, 0, Blk.new w [.slice none 0 0, .int .u64 v, .int .u64 most] 29, owns_nil _ _ _ _, fun a ha => by cases ha⟩, flows := fun e he => (by cases he), hb := ⟨Nat.le_refl _, by simp⟩, sub := fun e he => (by cases he), disj := List.Pairwise.nil, lt := fun k hk => hk.2, ok := fun e he => (by cases he), rise := List.Pairwise.nil }
theorem pl_lt {l d : List FlR} (hr : l.Pairwise fun e e' => e.id < e'.id) {k : Nat} {e : FlR} (he : l[k]? = some e) (hd : d.map FlR.pl = (l.take k).map FlR.pl) : ∀ e' ∈ d, e'.id < e.id := by
  intro e' h'
  have h1 : e'.pl ∈ (l.take k).map FlR.pl := by rw [← hd]; exact List.mem_map.2 ⟨e', h', rfl⟩
  obtain ⟨e2, h2, h3⟩ := List.mem_map.1 h1
  obtain ⟨j, hj⟩ := List.getElem?_of_mem h2
  have hjk : j < k := by
    rcases Nat.lt_or_ge j k with h | h
    · exact h
    · rw [List.getElem?_eq_none (by rw [List.length_take]; exact Nat.le_trans (Nat.min_le_left _ _) h)] at hj; cases hj
  rw [List.getElem?_take_of_lt hjk] at hj
  have h4 := rise_lt hr hj he hjk
  have h5 : e2.id = e'.id := congrArg Prod.fst h3
  omega

/-- Under way: the first k have been copied. -/
structure CrSt (w wr : World) (c : Nat) (v most : Int) (l : List FlR) (k : Nat) (d : List FlR) : Prop where
  pl : d.map FlR.pl = (l.take k).map FlR.pl
  new : RfR wr c v most d (fun i => w.heap.size ≤ i ∧ i < wr.heap.size)
  bel : Below w.heap.size w wr
theorem CrSt.next {w wr w7 w8 : World} {c c7 n cap c8 k : Nat} {v most : Int} {e : FlR} {l d : List FlR} {a a8 : Option Addr} (h : CrSt w wr c v most l k d) (hr : l.Pairwise fun e e' => e.id < e'.id) (he : l[k]? = some e) (hx : e.x.Ok) (c0 : wr.cell? ⟨c, 0, none⟩ = some (.slice a n cap))
    (hb7 : Below wr.heap.size wr w7) (hf7 : RefAt w7 c7 e.id e.x (fun k => wr.heap.size ≤ k ∧ k < w7.heap.size))
    (hg8 : w7.grownBy w8 (Value.slice a n cap).ownBlock) (hf8 : FreshOr w7 (.slice a n cap) (.slice a8 (n + 1) c8)) (hown : w8.ownsRow 0 72 1 (.slice a8 (n + 1) c8) (n + 1) (ptrs d ++ [.pointer (some ⟨c7, 0, none⟩)])) (hn : d.length = n) :
    CrSt w (w8.setCell ⟨c, 0, none⟩ (.slice a8 (n + 1) c8)) c v most l (k + 1) (d ++ [⟨e.id, c7, e.x, fun k => wr.heap.size ≤ k ∧ k < w7.heap.size⟩]) := by
  have hs := h.bel.size
  obtain ⟨h1, h2⟩ := h.new.more c0 hb7 hf7 hx (pl_lt hr he h.pl) hg8 hf8 hown hn
  have hsz := h2.size
  refine ⟨?_, h1.mono (fun i hi => ?_) (fun i hi => hi.2), h.bel.trans (h2.below (fun i hi => hi.1) hs)⟩
  · rw [List.map_append, h.pl, List.take_add_one, he, List.map_append]; rfl
  · rcases hi with hi | hi
    · exact ⟨hi.1, by omega⟩
    · exact ⟨by omega, hi.2⟩

set_option maxHeartbeats 2000000 in
theorem copyR_any (b : Nat) (t : SfS) (F : Nat → Prop) (w : World) (h : RfsAt w b t F) (hn6 : t.fs.length ≤ 1000000) :
    Calls Tryz.prog 13 #[.pointer (some ⟨b, 0, none⟩)] w (MkPost (fun w' c G => RfsAt w' c t G) w) := by
  obtain ⟨l, hl, h⟩ := h
  obtain ⟨ao, cap, c0, c1, c2, hc, hl63, hnil, hat⟩ := h.cells
  have hbl := h.lt b h.hb
  have H := Lib.hid h
  have HA := Lib.hid hat
  have HPL := Lib.hid hl
  have hle : t.fs.length = l.length := by rw [← hl]; simp
  obtain ⟨n, hn⟩ : ∃ n, l.length = n := ⟨_, rfl⟩
  rw [hn] at hc hl63 hnil c0
  have hn5 : n ≤ 1000000 := by omega
  have HN := Lib.hid hn
  have hN := newR_at w t.v t.most
  have hbN := below1 w (.cells #[.slice none 0 0, .int .u64 t.v, .int .u64 t.most] 29)
  have HT : Hid (SfS.mk t.v t.most t.fs = t) := rfl
  generalize t.v = v at *
  generalize t.most = most at *
  clear hat h hn hle hl
  go_enter Tryz.func13, Tryz.ntmps13
  go_wp2_with fail
  go_region
  go_upto_region 2 with fail
  generalize hW : (w.alloc (.cells #[.slice none 0 0, .int .u64 v, .int .u64 most] 29)) = W at *
  clear hW
  have hst : CrSt w W.drew w.heap.size v most l 0 [] := ⟨rfl, hN.below (Below.refl _ _).drew, hbN.drew⟩
  clear hN hbN c1 c2
  generalize W.drew = X at *
  generalize hq : w.heap.size = q at *
  have HQ := Lib.hid hq
  clear hq
  go_wp2_with fail
  go_loopw [4] (fun v4 wr => ∃ (k : Nat) (d : List FlR), k ≤ n ∧ v4 = .int .i64 k ∧ CrSt w wr q v most l k d) (fun v4 _ => n - (intOf v4).toNat)
  case atStart => exact ⟨0, [], Nat.zero_le _, rfl, hst⟩
  case round =>
    obtain ⟨k, d, hk, rfl, hd⟩ := hrel
    clear hst
    have hbq : Below q w wr := by have := hd.bel; rw [HQ.out] at this; exact this
    have c0 := (hbq.cell (p := ⟨b, 0, none⟩) hbl).trans c0
    have hdl : d.length = k := by have := congrArg List.length hd.pl; simp only [List.length_map, List.length_take, HN.out] at this; omega
    by_cases hkn : k < n
    · obtain ⟨e, he⟩ : ∃ e, l[k]? = some e := ⟨l[k]'(by rw [HN.out]; exact hkn), List.getElem?_eq_getElem _⟩
      obtain ⟨g, rfl, hg, cg, ci, heb⟩ := HA.out k e he
      have cg := (hbq.cell (p := ⟨g, k, none⟩) hg).trans cg
      have i1 : (k : Int) < (n : Int) := by omega
      have hem := List.mem_of_getElem? he
      have hfl := (H.out.flows e hem).below hd.bel
      have hxo := H.out.ok e hem
      obtain ⟨a, cap', B1, R1, N1⟩ := hd.new.row
      rw [hdl] at B1 R1
      have x0 := B1.cell 0
      simp only [List.getElem?_cons_zero] at x0
      have hql := B1.lt
      have hne : (Value.slice a k cap').ownBlock ≠ some q := fun e' => by
        cases a with
        | none => cases e'
        | some ad => cases e'; exact (N1 ad rfl).2.1 rfl
      have HB1 := Lib.hid B1
      have HR1 := Lib.hid R1
      have HNE := Lib.hid hne
      have HC := Lib.hid (fun w7 w8 c7 c8 a8 h1 h2 h3 h4 h5 => CrSt.next (w7 := w7) (w8 := w8) (c7 := c7) (c8 := c8) (a8 := a8) hd H.out.rise he hxo x0 h1 h2 h3 h4 h5 hdl)
      have hk2 : k + 1 ≤ 1099511627776 := by omega
      clear hd hem B1 R1 N1 hne he hdl hbq ci
      go_upto_region 5 with fail
      go_region_law (first
        | (go_simp; go_at_call 33; refine (refCopy_any e.b e.id e.x e.G _ (hfl.below (Below.refl _ _).drew) hxo).mono ?_; rintro e' w7 ⟨c7, rfl, hf7, hb7⟩; replace hb7 := (Below.refl wr.heap.size wr).drew.trans hb7; have x0b := (hb7.cell (p := ⟨q, 0, none⟩) hql).trans x0; have hq7 : q < w7.heap.size := Nat.lt_of_lt_of_le hql hb7.size; have HB7 := Lib.hid hb7; have HF7 := Lib.hid hf7; clear hb7 hf7)
        | (refine step_ap_new0 w7 #[.pointer (some ⟨c7, 0, none⟩)] ERf (by rfl) _ _ (by rfl) 0 _ k _ (by simp [Act.eval, Act.put]) (owns_below (B := 0) HR1.out HB7.out) (Nat.zero_le _) 1 (by simp [Act.eval, Act.put]) (by rfl) (by simp [Value.oneCell']) hk2 ?_; intro v8 w8 hown8 hg8 hb8 hfr8; obtain ⟨a8, c8, rfl⟩ := owns_slice hown8; have B8 := Lib.hid ((HB1.out.below HB7.out).grown hg8 HNE.out); have x0c := B8.out.cell 0; have fz := B8.out.frozen 0; simp only [List.getElem?_cons_zero] at x0c; have HG8 := Lib.hid hg8; have HO8 := Lib.hid hown8; have HFR8 := Lib.hid hfr8; clear hg8 hb8 hown8 hfr8)
        | fail)
      all_goals
        go_wp2
        go_roundw
        case rel => exact ⟨k + 1, _, by omega, by go_num, HC.out _ _ _ _ _ HB7.out HF7.out HG8.out HFR8.out HO8.out⟩
        case measure => simp [intOf]; omega
    · obtain rfl : k = n := by omega
      have hT : l.take k = l := List.take_of_length_le (by rw [HN.out]; exact Nat.le_refl _)
      have hpl := hd.pl
      rw [hT, HPL.out] at hpl
      clear hT hbq
      go_wp2
      go_ret
      exact ⟨q, rfl, ⟨d, by rw [hpl, ← HT.out], by rw [← HT.out]; exact hd.new⟩, hd.bel⟩
end Go.Proofs.YtnanalaienlbpaaGreat
end

-- weighbridgehelp's Spoil at items and at numbers: rows of the call's own are written over.
section
namespace Go.Proofs.YtnanalaienlbpaaGreat
set_option linter.unusedVariables false
set_option linter.unusedSimpArgs false
set_option maxRecDepth 20000
open Go.RowKit Go.Proofs.YtnanalaienlbpaaGreatMem

/-- A row of whatever. -/
def AnyRow (w : World) (base : Nat) (e : TypeId) (s : Nat) (v : Value) (n : Nat) : Prop := ∃ xs, w.ownsRow base e s v n xs
theorem AnyRow.set {w : World} {base n cap s g j : Nat} {e : TypeId} (h : AnyRow w base e s (.slice (some ⟨g, 0, none⟩) n cap) n) (u : Value) : AnyRow (w.setCell ⟨g, j, none⟩ u) base e s (.slice (some ⟨g, 0, none⟩) n cap) n :=
  let ⟨xs, h⟩ := h
  by
    rcases h.2 with ⟨hv, _⟩ | ⟨g', cap', cur, hv, hb, hh, hnc, hm, hs, ht⟩
    · simp at hv
    · simp only [Value.slice.injEq, Option.some.injEq, Addr.mk.injEq, and_true, true_and] at hv
      obtain ⟨rfl, rfl⟩ := hv
      have hle : n * s ≤ cap * s := Nat.mul_le_mul_right s hnc
      exact ⟨(cur.setIfInBounds j u).toList.take (n * s), by rw [List.length_take, Array.length_toList]; simp only [Array.size_setIfInBounds, hs]; omega, .inr ⟨g, cap, cur.setIfInBounds j u, rfl, hb, by simp [World.setCell, Array.getElem?_modify, hh], hnc, hm, by simpa using hs, rfl⟩⟩
/-- A cell within the row's room is there. -/
theorem any_cell {w : World} {base n cap s g j : Nat} {e : TypeId} {xs : List Value} (h : w.ownsRow base e s (.slice (some ⟨g, 0, none⟩) n cap) n xs) (hj : j < n * s) : ∃ u, w.cell? ⟨g, j, none⟩ = some u := by
  have hl : j < xs.length := by rw [h.1]; exact hj
  obtain ⟨g', e1, _, hlt, hc⟩ := owns_at h (u := xs[j]) (List.getElem?_eq_getElem hl)
  simp only [Option.some.injEq, Addr.mk.injEq, and_true] at e1
  subst e1
  exact ⟨_, by simpa using hc⟩

set_option maxHeartbeats 1000000 in
theorem spoilE_any (v : Value) (n base : Nat) (w : World) (xs : List Value) (h0 : w.ownsRow base 39 2 v n xs) (hbw : base ≤ w.heap.size) :
    Calls Tryz.prog 8 #[v] w fun e w' => e = .returned (.tuple #[]) ∧ Below base w w' := by
  obtain ⟨ao, cap, rfl⟩ := owns_slice h0
  have hcap := owns_cap h0
  have hn : n ≤ 9223372036854775807 := by have h1 := hcap.2.1; have h2 := hcap.2.2.1; unfold maxLen at h2; omega
  have HLT := Lib.hid (fun k hk => (h0.lt k hk).2)
  have H0 : AnyRow (w.alloc (.cells #[.int .u64 0, .int .i64 0] 39)) base 39 2 (.slice ao n cap) n := ⟨xs, h0.alloc _⟩
  have hb1 := (below1 w (.cells #[.int .u64 0, .int .i64 0] 39)).mono hbw
  have Z0 := Blk.new w [.int .u64 0, .int .i64 0] 39
  clear hcap h0
  go_enter Tryz.func8, Tryz.ntmps8
  go_upto_region 1 with fail
  generalize w.alloc (.cells #[.int .u64 0, .int .i64 0] 39) = W at *
  generalize hz : w.heap.size = Z at *
  clear hz
  go_wp2_with fail
  go_loopw [3] (fun i wr => ∃ k : Nat, k ≤ n ∧ i = .int .i64 k ∧ AnyRow wr base 39 2 (.slice ao n cap) n ∧ Below base w wr ∧ Blk wr Z [.int .u64 0, .int .i64 0] 39) (fun i _ => n - (intOf i).toNat)
  case atStart => exact ⟨0, Nat.zero_le _, rfl, H0, hb1, Z0⟩
  case round =>
    obtain ⟨k, hk, rfl, hany, hbr, hzb⟩ := hrel
    clear H0 hb1 Z0
    by_cases hl : k < n
    · have i1 : (k : Int) < (n : Int) := by omega
      have hany' := hany
      obtain ⟨ys, hownr⟩ := hany'
      obtain ⟨g, cap', hv, hg, hglt⟩ := hownr.form (by omega)
      simp only [Value.slice.injEq] at hv
      obtain ⟨rfl, _, rfl⟩ := hv
      obtain ⟨u0, hu0⟩ := any_cell hownr (j := k * 2) (by omega)
      obtain ⟨u1, hu1⟩ := any_cell hownr (j := k * 2 + 1) (by omega)
      have z0 := hownr.frozenAt (k * 2)
      have z1 := hownr.frozenAt (k * 2 + 1)
      have x0 := hzb.cell 0
      have x1 := hzb.cell 1
      simp only [List.getElem?_cons_succ, List.getElem?_cons_zero] at x0 x1
      have hgZ : Z ≠ g := by have := HLT.out g rfl; omega
      have A1 := Lib.hid ((hany.set (j := k * 2) (.int .u64 0)).set (j := k * 2 + 1) (.int .i64 0))
      have G1 := Lib.hid ((hbr.setCell (p := ⟨g, k * 2, none⟩) hg (.int .u64 0)).setCell (p := ⟨g, k * 2 + 1, none⟩) hg (.int .i64 0))
      have Z1 := Lib.hid ((hzb.set_far (a := ⟨g, k * 2, none⟩) hgZ (.int .u64 0)).set_far (a := ⟨g, k * 2 + 1, none⟩) hgZ (.int .i64 0))
      clear hbr hany hownr hzb
      go_wp2
      go_roundw
      case rel => exact ⟨k + 1, by omega, by go_num, A1.out, G1.out, Z1.out⟩
      case measure => simp [intOf]; omega
    · have i1 : (n : Int) ≤ (k : Int) := by omega
      have G1 := Lib.hid hbr
      clear hany hbr hzb
      go_wp2
      go_end0
      exact ⟨rfl, G1.out⟩

set_option maxHeartbeats 1000000 in
theorem spoilZ_any (v : Value) (n base : Nat) (w : World) (xs : List Value) (h0 : w.ownsRow base 3 1 v n xs) (hbw : base ≤ w.heap.size) :
    Calls Tryz.prog 10 #[v] w fun e w' => e = .returned (.tuple #[]) ∧ Below base w w' := by
  obtain ⟨ao, cap, rfl⟩ := owns_slice h0
  have hcap := owns_cap h0
  have hn : n ≤ 9223372036854775807 := by have h1 := hcap.2.1; have h2 := hcap.2.2.1; unfold maxLen at h2; omega
  clear hcap
  go_enter Tryz.func10, Tryz.ntmps10
  go_wp2_with fail
  go_loopw [3] (fun i wr => ∃ k : Nat, k ≤ n ∧ i = .int .i64 k ∧ AnyRow wr base 3 1 (.slice ao n cap) n ∧ Below base w wr) (fun i _ => n - (intOf i).toNat)
  case atStart => exact ⟨0, Nat.zero_le _, rfl, ⟨xs, h0⟩, Below.refl _ _⟩
  case round =>
    obtain ⟨k, hk, rfl, hany, hbr⟩ := hrel
    clear h0
    by_cases hl : k < n
    · have i1 : (k : Int) < (n : Int) := by omega
      have hany' := hany
      obtain ⟨ys, hownr⟩ := hany'
      obtain ⟨g, cap', hv, hg, hglt⟩ := hownr.form (by omega)
      simp only [Value.slice.injEq] at hv
      obtain ⟨rfl, _, rfl⟩ := hv
      obtain ⟨u0, hu0⟩ := any_cell hownr (j := k) (by omega)
      have z0 := hownr.frozenAt k
      have A1 := Lib.hid (hany.set (j := k) (.int .i64 0))
      have G1 := Lib.hid (hbr.setCell (p := ⟨g, k, none⟩) hg (.int .i64 0))
      clear hbr hany hownr
      go_wp2
      go_roundw
      case rel => exact ⟨k + 1, by omega, by go_num, A1.out, G1.out⟩
      case measure => simp [intOf]; omega
    · have i1 : (n : Int) ≤ (k : Int) := by omega
      have G1 := Lib.hid hbr
      clear hany hbr
      go_wp2
      go_end0
      exact ⟨rfl, G1.out⟩
end Go.Proofs.YtnanalaienlbpaaGreat
end

-- Two pairs of flows (the program's and the reference's), apart.
section
namespace Go.Proofs.YtnanalaienlbpaaGreat
set_option linter.unusedVariables false
set_option linter.unusedSimpArgs false
set_option maxRecDepth 20000
open Go.RowKit Go.Proofs.YtnanalaienlbpaaGreatMem Go.Proofs.YtnanalaienlbpaaGreatFlat Go.Proofs.YtnanalaienlbpaaGreatMapK

def Well (s t : SfS) (m : Nat) : Prop := Sim s t ∧ s.Ok ∧ s.fs.length ≤ m
def Q4 (w wx : World) (b c : Nat) (s t : SfS) (b2 c2 : Nat) (s2 t2 : SfS) (m : Nat) : Prop :=
  ∃ F G : Nat → Prop, TwoAt wx b c s t F ∧ TwoAt wx b2 c2 s2 t2 G ∧ (∀ k, F k → ¬ G k) ∧ (∀ k, F k → w.heap.size ≤ k) ∧ (∀ k, G k → w.heap.size ≤ k) ∧ Well s t m ∧ Well s2 t2 m ∧ Below w.heap.size w wx
section
variable {w wx w1 w2 : World} {b c b2 c2 m : Nat} {s t s2 t2 : SfS}
theorem Q4.symm (h : Q4 w wx b c s t b2 c2 s2 t2 m) : Q4 w wx b2 c2 s2 t2 b c s t m := by
  obtain ⟨F, G, h1, h2, h3, h4, h5, h6, h7, h8⟩ := h
  exact ⟨G, F, h2, h1, fun k hk hk2 => h3 k hk2 hk, h5, h4, h7, h6, h8⟩
theorem Q4.below (h : Q4 w wx b c s t b2 c2 s2 t2 m) (hb : Below wx.heap.size wx w1) : Q4 w w1 b c s t b2 c2 s2 t2 m := by
  obtain ⟨F, G, h1, h2, h3, h4, h5, h6, h7, h8⟩ := h
  exact ⟨F, G, h1.below hb, h2.below hb, h3, h4, h5, h6, h7, h8.trans (hb.mono h8.size)⟩
theorem Q4.bel (h : Q4 w wx b c s t b2 c2 s2 t2 m) : Below w.heap.size w wx := by
  obtain ⟨F, G, h1, h2, h3, h4, h5, h6, h7, h8⟩ := h
  exact h8
theorem Well.step (h : Well s t m) {a : ActT} (ha : a.Ok) : Well (stepS s a.near) (stepR t a.near) (m + 1) :=
  ⟨h.1.step _, stepS_ok h.2.1 (ActT.near_ok ha), by have := stepS_length s a.near; have := h.2.2; omega⟩
theorem Well.more (h : Well s t m) {n : Nat} (hn : m ≤ n) : Well s t n := ⟨h.1, h.2.1, Nat.le_trans h.2.2 hn⟩
theorem q4Step (h : Q4 w wx b c s t b2 c2 s2 t2 m) (hm : m ≤ 1000000) (a : ActT) (ha : a.Ok) :
    Calls Tryz.prog 7 #[.pointer (some ⟨b, 0, none⟩), .pointer (some ⟨c, 0, none⟩), .agg #[.int .i64 a.kind, .int .i64 a.flow, .int .i64 a.most, .int .u64 a.r, .int .i64 a.p.flow, .int .i64 a.p.len, .int .i64 a.p.mark]] wx fun e w' => e = .returned (.bool true) ∧ Q4 w w' b c (stepS s a.near) (stepR t a.near) b2 c2 s2 t2 (m + 1) := by
  obtain ⟨F, G, h1, h2, h3, h4, h5, h6, h7, h8⟩ := h
  refine (step_any b c s t F a wx h1 h6.1 h6.2.1 ha (Nat.le_trans h6.2.2 hm)).mono fun e w' hh => ⟨hh.1, Ext F wx w', G, hh.2.1, h2.fr hh.2.2 (fun k hk hk2 => h3 k hk2 hk), ?_, ?_, h5, h6.step ha, h7.more (Nat.le_succ _), h8.trans (hh.2.2.below h4 h8.size)⟩
  · intro k hk hk2
    rcases hk with hk | hk
    · exact h3 k hk hk2
    · have := h2.lt k hk2; omega
  · intro k hk
    rcases hk with hk | hk
    · exact h4 k hk
    · have := h8.size; omega
theorem q4Step2 (h : Q4 w wx b c s t b2 c2 s2 t2 m) (hm : m ≤ 1000000) (a : ActT) (ha : a.Ok) :
    Calls Tryz.prog 7 #[.pointer (some ⟨b2, 0, none⟩), .pointer (some ⟨c2, 0, none⟩), .agg #[.int .i64 a.kind, .int .i64 a.flow, .int .i64 a.most, .int .u64 a.r, .int .i64 a.p.flow, .int .i64 a.p.len, .int .i64 a.p.mark]] wx fun e w' => e = .returned (.bool true) ∧ Q4 w w' b c s t b2 c2 (stepS s2 a.near) (stepR t2 a.near) (m + 1) :=
  (q4Step h.symm hm a ha).mono fun e w' hh => ⟨hh.1, hh.2.symm⟩
theorem q4Looks (h : Q4 w wx b c s t b2 c2 s2 t2 m) (hm : m ≤ 1000000) :
    Calls Tryz.prog 14 #[.pointer (some ⟨b, 0, none⟩), .pointer (some ⟨c, 0, none⟩)] wx fun e w' => e = .returned (.bool true) ∧ Below wx.heap.size wx w' := by
  obtain ⟨F, G, h1, h2, h3, h4, h5, h6, h7, h8⟩ := h
  exact looks_any h1 h6.1 h6.2.1 (Nat.le_trans h6.2.2 hm)
theorem q4_of (h : OwnT w wx b c s t) (hw : Well s t m) (h1 : SfsAt w1 b2 s2 (fun k => wx.heap.size ≤ k ∧ k < w1.heap.size)) (hb1 : Below wx.heap.size wx w1) (e1 : s2.v = s.v) (e2 : s2.most = s.most) (hp : s2.fs.Perm s.fs)
    (h2 : RfsAt w2 c2 t (fun k => w1.heap.size ≤ k ∧ k < w2.heap.size)) (hb2 : Below w1.heap.size w1 w2) : Q4 w w2 b c s t b2 c2 s2 t m := by
  obtain ⟨F, f1, f2, f3⟩ := h
  have z1 := hb1.size
  have z2 := hb2.size
  have z3 := f3.size
  have hl := f1.lt
  have ok2 : s2.Ok := ⟨by rw [e1]; exact hw.2.1.v, by rw [e2]; exact hw.2.1.most, fun e he => hw.2.1.ids e (hp.mem_iff.1 he), fun e he => hw.2.1.fs e (hp.mem_iff.1 he)⟩
  refine ⟨F, fun k => wx.heap.size ≤ k ∧ k < w2.heap.size, (f1.below hb1).below hb2, ⟨_, _, h1.below hb2, h2, fun k hk hk2 => by omega, fun k hk => ⟨hk.1, by omega⟩, fun k hk => ⟨by omega, hk.2⟩, fun k hk => hk.2⟩, fun k hk hk2 => ?_, f2, fun k hk => by omega, hw, ⟨⟨by rw [e1]; exact hw.1.v, by rw [e2]; exact hw.1.most, hp.trans hw.1.perm, hw.1.rise⟩, ok2, by rw [hp.length_eq]; exact hw.2.2⟩, f3.trans ((hb1.trans (hb2.mono z1)).mono z3)⟩
  have := hl k hk
  omega
theorem twoFlows {F : Nat → Prop} (h : TwoAt wx b c s t F) (ok : s.Ok) (hn : s.fs.length ≤ 1000000) :
    Calls Tryz.prog 11 #[.pointer (some ⟨b, 0, none⟩)] wx fun e w' => ∃ v, e = .returned v ∧ w'.ownsRow wx.heap.size 3 1 v s.fs.length ((s.ids.mergeSort fun x y => decide (x ≤ y)).map (Value.int .i64)) ∧ Below wx.heap.size wx w' := by
  obtain ⟨Fs, Gs, h1, -⟩ := h
  exact flowsS_any b s Fs wx h1 ok.ids hn
end
end Go.Proofs.YtnanalaienlbpaaGreat
end

-- SfqCopies.
section
namespace Go.Proofs.YtnanalaienlbpaaGreat
set_option linter.unusedVariables false
set_option linter.unusedSimpArgs false
set_option maxRecDepth 20000
open Go.RowKit Go.Proofs.YtnanalaienlbpaaGreatMem Go.Proofs.YtnanalaienlbpaaGreatFlat Go.Proofs.YtnanalaienlbpaaGreatMapK

theorem Q4.up {w wx : World} {b c b2 c2 m n : Nat} {s t s2 t2 : SfS} (h : Q4 w wx b c s t b2 c2 s2 t2 m) (hn : m ≤ n) : Q4 w wx b c s t b2 c2 s2 t2 n := by
  obtain ⟨F, G, h1, h2, h3, h4, h5, h6, h7, h8⟩ := h
  exact ⟨F, G, h1, h2, h3, h4, h5, h6.more hn, h7.more hn, h8⟩

set_option maxHeartbeats 4000000 in
theorem copies_in (a0 : Option Addr) (n0 k0 : Nat) (l0 : List ActT) (a1 : Option Addr) (n1 k1 : Nat) (l1 : List ActT) (a2 : Option Addr) (n2 k2 : Nat) (l2 : List ActT) (w : World) (h0 : RdT w a0 n0 k0 l0) (h1 : RdT w a1 n1 k1 l1) (h2 : RdT w a2 n2 k2 l2) :
    Calls Tryz.prog 3 #[.slice a0 n0 k0, .slice a1 n1 k1, .slice a2 n2 k2] w fun e w' => e = .returned (.bool true) ∧ Below w.heap.size w w' := by
  have hs0 := h0.small
  have hs1 := h1.small
  have hs2 := h2.small
  go_enter Tryz.func3, Tryz.ntmps3
  go_wp2_with fail
  refine (newO w w (Below.refl _ _)).mono ?_
  rintro e w1 ⟨b, rfl, H⟩
  have O := twoBegin H
  clear H
  go_upto_region 2 with fail
  generalize hc : w1.heap.size = c at *
  clear hc
  generalize (w1.alloc (.cells #[.slice none 0 0, .int .u64 0, .int .u64 0] 29)) = W1 at *
  go_wp2_with fail
  refine (awake10_any _).mono ?_
  rintro e w2 ⟨rfl, hb2⟩
  replace O := O.below hb2
  obtain ⟨F, f1, f2, f3⟩ := O
  go_wp2_with fail
  refine (some_any b c F _ f1).mono ?_
  rintro e w3 ⟨rfl, hp⟩
  have O := OwnT.post f2 f3 hp
  clear f1 f2 f3 hp hb2
  have hw0 : Well (someS 4) (someR 4) (4 + 0) := ⟨some_sim 4, some_ok 4 (Nat.le_refl _), some_len 4⟩
  generalize someS 4 = s0 at *
  generalize someR 4 = t0 at *
  go_upto_block 0 with fail
  go_cut [9] from 25 to 48 (fun _ wx => ∃ s t, OwnT w wx b c s t ∧ Well s t 44)
  case first =>
    clear h1 h2
    go_wp2_with fail
    go_loopw [9] (fun u9 wr => ∃ (k : Nat) (s t : SfS), k ≤ n0 ∧ k ≤ 40 ∧ u9 = .int .i64 k ∧ OwnT w wr b c s t ∧ Well s t (4 + k)) (fun u9 _ => (40 - intOf u9).toNat)
    case atStart => exact ⟨0, s0, t0, Nat.zero_le _, Nat.zero_le _, rfl, O, hw0⟩
    case round =>
      obtain ⟨k, s, t, hk, hk8, rfl, O, hw⟩ := hrel
      by_cases hlx : k < n0 ∧ k < 40
      · obtain ⟨hl, h8⟩ := hlx
        have i1 : (k : Int) < (n0 : Int) := by omega
        have i2 : (k : Int) < 40 := by omega
        have ha := h0.nth_ok k
        obtain ⟨bl, off, rfl, hc⟩ := h0.cells hl
        obtain ⟨F, f1, f2, f3⟩ := O
        obtain ⟨q0, q1, q2, q3, q4, q5, q6⟩ := hc _ f3
        have hw2 := hw.step ha
        have HW := Lib.hid hw2
        clear hc hw2
        go_wp2_with fail
        refine (step_any b c s t F (nthT l0 k) wr f1 hw.1 hw.2.1 ha (by have := hw.2.2; omega)).mono ?_
        rintro e w4 ⟨rfl, hp⟩
        have O := OwnT.post f2 f3 hp
        clear f1 f2 f3 hp q0 q1 q2 q3 q4 q5 q6 hw
        generalize stepS s (nthT l0 k).near = s2 at *
        generalize stepR t (nthT l0 k).near = t2 at *
        have hln : s2.fs.length ≤ 1000000 := by have := HW.out.2.2; omega
        obtain ⟨F2, f1, f2, f3⟩ := O
        go_wp2_with fail
        refine (twoStarts f1 hln).mono ?_
        rintro e w5 ⟨v5, rfl, hown5, hb5⟩
        go_wp2_with fail
        refine (spoilE_any v5 _ _ w5 _ hown5 hb5.size).mono ?_
        rintro e w6 ⟨rfl, hb6⟩
        have O : OwnT w w6 b c s2 t2 := OwnT.below ⟨F2, f1, f2, f3⟩ (hb5.trans hb6)
        clear f1 f2 f3 hb5 hb6 hown5
        obtain ⟨F3, f1, f2, f3⟩ := O
        go_wp2_with fail
        refine (twoFlows f1 HW.out.2.1 hln).mono ?_
        rintro e w7 ⟨v7, rfl, hown7, hb7⟩
        go_wp2_with fail
        refine (spoilZ_any v7 _ _ w7 _ hown7 hb7.size).mono ?_
        rintro e w8 ⟨rfl, hb8⟩
        have O : OwnT w w8 b c s2 t2 := OwnT.below ⟨F3, f1, f2, f3⟩ (hb7.trans hb8)
        clear f1 f2 f3 hb7 hb8 hown7
        go_wp2
        go_roundw
        case rel => exact ⟨k + 1, s2, t2, hl, h8, by go_num, O, HW.out⟩
        case measure => simp [intOf]; omega
      · have hw4 := hw.more (n := 44) (by omega)
        have i3 : (n0 : Int) ≤ (k : Int) ∨ (k : Int) < (n0 : Int) ∧ 40 ≤ (k : Int) := by omega
        rcases i3 with i1 | ⟨i1, i2⟩
        all_goals
          go_wp2
          go_meet
          exact ⟨s, t, O, hw4⟩
  case rest =>
  obtain ⟨s, t, O, hw⟩ := hcut
  go_wp2_with fail
  have Od := O
  obtain ⟨F, ⟨Fs, Gs, g1, g2, -⟩, -, -⟩ := Od
  refine (copyS_any b s Fs wc g1).mono ?_
  rintro e w5 ⟨b2, s2, rfl, C1, e1, e2, hpm, hb5⟩
  go_wp2_with fail
  refine (copyR_any c t Gs w5 (g2.below hb5) (by rw [← hw.1.len]; have := hw.2.2; omega)).mono ?_
  rintro e w6 ⟨c2, rfl, C2, hb6⟩
  have Q := q4_of O hw C1 hb5 e1 e2 hpm C2 hb6
  clear O hw C1 hb5 e1 e2 hpm C2 hb6 g1 g2
  go_wp2_with fail
  refine (q4Looks Q.symm (by omega)).mono ?_
  rintro e w7 ⟨rfl, hb7⟩
  replace Q := Q.below hb7
  clear hb7
  go_wp2_with fail
  go_loopw [12] (fun u12 wr => ∃ (i : Nat) (s t s2 t2 : SfS), i ≤ 40 ∧ u12 = .int .i64 i ∧ Q4 w wr b c s t b2 c2 s2 t2 (44 + i + i)) (fun u12 _ => (40 - intOf u12).toNat)
  case atStart => exact ⟨0, s, t, s2, t, Nat.zero_le _, rfl, Q⟩
  case round =>
    obtain ⟨i, s, t, s2, t2, hi, rfl, Qi⟩ := hrel
    clear Q
    by_cases h8 : i < 40
    · have i9 : (i : Int) < 40 := by omega
      by_cases hl1 : i < n1
      · have j1 : (i : Int) < (n1 : Int) := by omega
        by_cases hl2 : i < n2
        · have j2 : (i : Int) < (n2 : Int) := by omega
          have ha := h1.nth_ok i
          obtain ⟨bl1, off1, rfl, hc1⟩ := h1.cells hl1
          obtain ⟨q0, q1, q2, q3, q4, q5, q6⟩ := hc1 _ Qi.bel
          clear hc1
          go_wp2_with fail
          refine (q4Step Qi (by omega) (nthT l1 i) ha).mono ?_
          rintro e w8 ⟨rfl, Q8⟩
          replace Qi := Q8
          clear Q8 q0 q1 q2 q3 q4 q5 q6 ha
          generalize stepS s (nthT l1 i).near = s' at *
          generalize stepR t (nthT l1 i).near = t' at *
          have ha := h2.nth_ok i
          obtain ⟨bl2, off2, rfl, hc2⟩ := h2.cells hl2
          obtain ⟨q0, q1, q2, q3, q4, q5, q6⟩ := hc2 _ Qi.bel
          clear hc2
          go_wp2_with fail
          refine (q4Step2 Qi (by omega) (nthT l2 i) ha).mono ?_
          rintro e w9 ⟨rfl, Q9⟩
          replace Qi := Q9
          clear Q9 q0 q1 q2 q3 q4 q5 q6 ha
          generalize stepS s2 (nthT l2 i).near = s2' at *
          generalize stepR t2 (nthT l2 i).near = t2' at *
          have QH := Lib.hid Qi
          clear Qi
          go_wp2
          go_roundw
          case rel => exact ⟨i + 1, _, _, _, _, by omega, by go_num, by have := QH.out; rw [show 44 + i + i + 1 + 1 = 44 + (i + 1) + (i + 1) by omega] at this; exact this⟩
          case measure => simp [intOf]; omega
        · have j2 : (n2 : Int) ≤ (i : Int) := by omega
          have ha := h1.nth_ok i
          obtain ⟨bl1, off1, rfl, hc1⟩ := h1.cells hl1
          obtain ⟨q0, q1, q2, q3, q4, q5, q6⟩ := hc1 _ Qi.bel
          clear hc1
          go_wp2_with fail
          refine (q4Step Qi (by omega) (nthT l1 i) ha).mono ?_
          rintro e w8 ⟨rfl, Q8⟩
          replace Qi := Q8
          clear Q8 q0 q1 q2 q3 q4 q5 q6 ha
          generalize stepS s (nthT l1 i).near = s' at *
          generalize stepR t (nthT l1 i).near = t' at *
          have QH := Lib.hid Qi
          clear Qi
          go_wp2
          go_roundw
          case rel => exact ⟨i + 1, _, _, _, _, by omega, by go_num, QH.out.up (by omega)⟩
          case measure => simp [intOf]; omega
      · have j1 : (n1 : Int) ≤ (i : Int) := by omega
        by_cases hl2 : i < n2
        · have j2 : (i : Int) < (n2 : Int) := by omega
          have ha := h2.nth_ok i
          obtain ⟨bl2, off2, rfl, hc2⟩ := h2.cells hl2
          obtain ⟨q0, q1, q2, q3, q4, q5, q6⟩ := hc2 _ Qi.bel
          clear hc2
          go_wp2_with fail
          refine (q4Step2 Qi (by omega) (nthT l2 i) ha).mono ?_
          rintro e w9 ⟨rfl, Q9⟩
          replace Qi := Q9
          clear Q9 q0 q1 q2 q3 q4 q5 q6 ha
          generalize stepS s2 (nthT l2 i).near = s2' at *
          generalize stepR t2 (nthT l2 i).near = t2' at *
          have QH := Lib.hid Qi
          clear Qi
          go_wp2
          go_roundw
          case rel => exact ⟨i + 1, _, _, _, _, by omega, by go_num, QH.out.up (by omega)⟩
          case measure => simp [intOf]; omega
        · have j2 : (n2 : Int) ≤ (i : Int) := by omega
          have QH := Lib.hid Qi
          clear Qi
          go_wp2
          go_roundw
          case rel => exact ⟨i + 1, _, _, _, _, by omega, by go_num, QH.out.up (by omega)⟩
          case measure => simp [intOf]; omega
    · have i9 : 40 ≤ (i : Int) := by omega
      go_wp2_with fail
      refine (q4Looks Qi (by omega)).mono ?_
      rintro e w8 ⟨rfl, hb8⟩
      replace Qi := Qi.below hb8
      clear hb8
      go_wp2_with fail
      refine (q4Looks Qi.symm (by omega)).mono ?_
      rintro e w9 ⟨rfl, hb9⟩
      replace Qi := Qi.below hb9
      clear hb9
      go_wp2
      go_ret
      exact ⟨rfl, Qi.bel⟩

theorem SfqCopies_any (w : World)
    (a0 : Option Addr) (n0 c0 : Nat) (L0 : List (List Value)) (k0 : IsRows w [.int .i64, .int .i64, .int .i64, .int .u64, .int .i64, .int .i64, .int .i64] a0 n0 c0 L0)
    (a1 : Option Addr) (n1 c1 : Nat) (L1 : List (List Value)) (k1 : IsRows w [.int .i64, .int .i64, .int .i64, .int .u64, .int .i64, .int .i64, .int .i64] a1 n1 c1 L1)
    (a2 : Option Addr) (n2 c2 : Nat) (L2 : List (List Value)) (k2 : IsRows w [.int .i64, .int .i64, .int .i64, .int .u64, .int .i64, .int .i64, .int .i64] a2 n2 c2 L2) :
    Calls Tryz.prog 3 #[.slice a0 n0 c0, .slice a1 n1 c1, .slice a2 n2 c2] w fun e w' => e = .returned (.bool true) ∧ Below w.heap.size w w' := by
  obtain ⟨l0, h0⟩ := isRows_rdT k0
  obtain ⟨l1, h1⟩ := isRows_rdT k1
  obtain ⟨l2, h2⟩ := isRows_rdT k2
  exact copies_in a0 n0 c0 l0 a1 n1 c1 l1 a2 n2 c2 l2 w h0 h1 h2
end Go.Proofs.YtnanalaienlbpaaGreat
end
