/- A set of flows: one packet served, next. -/
import Derived.Test.YtfgfjnlkgadkhaaSfq7
import Derived.Deep.CutRange
import Derived.Deep.RegionHeld3
import Derived.Deep.RegionWith
namespace Go.Proofs.Ytfgfjnlkgadkhaa
set_option linter.unusedVariables false
set_option linter.unusedSimpArgs false
set_option maxRecDepth 20000
open Go.RowKit Go.Proofs.YtfgfjnlkgadkhaaMem Go.Proofs.YtfgfjnlkgadkhaaMapK

/-- Behind the flow's own serving: the packet lies in a block of its own. -/
structure SrvSt (w wx : World) (b mb : Nat) (v most : Int) (l : List FlR) (F : Nat → Prop) (e : FlR) (B6 : Nat) : Prop where
  sfq : ∃ G, SfqR wx b mb v most (setR l e.id e.x.serve G) fun k => F k ∨ (w.heap.size < k ∧ k < wx.heap.size)
  fr : Fr F w wx
  pk : Blk wx B6 e.x.head.cells 55
  res : Blk wx w.heap.size [.int .i64 0, .int .i64 0, .int .i64 0] 55
  far : w.heap.size < B6

set_option maxHeartbeats 2000000 in
theorem serveS_some (b : Nat) (s : SfS) (F : Nat → Prop) (w : World) (h : SfsAt w b s F) (ok : s.Ok) (hn : s.fs.length ≤ 1000000) (he : entL s.fs ≠ []) :
    Calls Try.prog 44 #[.pointer (some ⟨b, 0, none⟩)] w fun e w' => e = .returned (.tuple #[s.head.val, .bool true]) ∧ SfsPost b s.serve F w w' := by
  have hs0 := h.below (below1 w (.cells #[.int .i64 0, .int .i64 0, .int .i64 0] 55))
  have HS := Lib.hid hs0
  have hF := h.lt
  have hsz0 : (w.alloc (.cells #[.int .i64 0, .int .i64 0, .int .i64 0] 55)).heap.size = w.heap.size + 1 := by simp
  have B0 := Lib.hid (Blk.new w [.int .i64 0, .int .i64 0, .int .i64 0] 55)
  have hb0 := below1 w (.cells #[.int .i64 0, .int .i64 0, .int .i64 0] 55)
  have HE := Lib.hid he
  clear he h hs0
  go_enter Try.func44, Try.ntmps44
  go_wp2_with fail
  refine (entries_any b s F _ HS.out hn).mono ?_
  rintro e w1 ⟨v, es, rfl, hp, hown, hb1⟩
  obtain ⟨a1, c1, rfl⟩ := owns_slice hown
  obtain ⟨mb, l, hl, hR⟩ := (HS.out.below hb1)
  have hne : es ≠ [] := fun h0 => HE.out (by subst h0; exact hp.symm.eq_nil)
  have hnl : entR l ≠ [] := by unfold entR; rw [hl]; exact HE.out
  obtain ⟨e, hel, hhas, hX, hg⟩ := hR.first hnl
  have hX2 : minK es es.length = (e.x.start, e.id) := by rw [minK_perm hp hne, ← hl]; exact hX
  have hlen : 0 < es.length := List.length_pos_iff.2 hne
  have e1 : ((es.length : Int) == 0) = false := by simp; omega
  have hrd := owns_rdS hown (entC_one es)
  have B1 := B0.out.below hb1
  have hbw := hb0.trans (hb1.mono hb0.size)
  have HR := Lib.hid hR
  clear hR hown hp hne hnl
  go_upto_region 5 with fail
  go_wp2_with fail
  refine (minFunc_any _ _ _ es w1 hrd rfl hlen).mono ?_
  unfold MinPost
  rw [hX2]
  rintro e' w2 ⟨rfl, hb2⟩
  go_upto_region 6 with fail
  have hb3 := below1 w2 (.cells #[.int .u64 e.x.start, .int .i64 e.id] 95)
  have hR3 := (HR.out.below hb2).below hb3
  have B5 := Blk.new w2 [.int .u64 e.x.start, .int .i64 e.id] 95
  have B3 := (B1.below hb2).below hb3
  have hbw3 := (hbw.trans (hb2.mono hbw.size)).trans (hb3.mono (Nat.le_trans hbw.size hb2.size))
  have hb5 : w.heap.size < w2.heap.size := (B1.below hb2).lt
  generalize w2.heap.size = b5 at *
  generalize w2.alloc (.cells #[.int .u64 e.x.start, .int .i64 e.id] 95) = W3 at *
  have k0 := B5.cell 0
  have k1 := B5.cell 1
  have z1 := hR3.blk.frozen 1
  have z0 := hR3.blk.cell 1
  simp only [List.getElem?_cons_succ, List.getElem?_cons_zero] at z0 k0 k1
  have HR3 := Lib.hid hR3
  clear hR3
  go_upto_region 7 with fail
  obtain ⟨hR4, hF4⟩ := HR3.out.setV e.x.start
  have hbn : b ≠ b5 := by have := hF b HR3.out.hb; omega
  have hbw0 : b ≠ w.heap.size := by have := hF b HR3.out.hb; omega
  have B5' := B5.set_far (a := ⟨b, 1, none⟩) (fun e => hbn e.symm) (.int .u64 e.x.start)
  have B3' := B3.set_far (a := ⟨b, 1, none⟩) (fun e => hbw0 e.symm) (.int .u64 e.x.start)
  have hF5 := Fr.after_below hbw3 hF4
  generalize W3.setCell ⟨b, 1, none⟩ (.int .u64 e.x.start) = W4 at *
  have m0 := hR4.blk.cell 0
  have n1 := B5'.cell 1
  simp only [List.getElem?_cons_succ, List.getElem?_cons_zero] at m0 n1
  have HR4 := Lib.hid hR4
  have hbl := HR4.out.blk.lt
  have hlt5 := B5'.lt
  have hEX := HR4.out.ok e hel
  clear hR4 B5 B3 z0 z1 k0 k1 HR3
  go_cut [6, 7, 8] from 34 to 45 (fun s6 s7 s8 wx => ∃ B6, s6 = .pointer (some ⟨B6, 0, none⟩) ∧ s7 = .int .u64 e.x.out ∧ SrvSt w wx b mb e.x.start s.most l F e B6)
  case first =>
    have hlk0 : ∀ w', IsMapAt w' mb (Value.int .i64) (l.map FlR.ent) → (Instr.lookup 83 (.map (some mb)) (.int .i64 e.id) false).run Try.prog w' = .ok (.pointer (some ⟨e.b, 0, none⟩)) w' := fun w' hm => by
      have := run_lookup intKey under_mapF (zero_ptrF w') hm e.id
      rw [getM_ent, hg] at this
      exact this
    refine wp_region_held_drew (S := fun w' => w'.cell? ⟨b, 0, none⟩ = some (.map (some mb)) ∧ w'.cell? ⟨b5, 1, none⟩ = some (.int .i64 e.id) ∧ (Instr.lookup 83 (.map (some mb)) (.int .i64 e.id) false).run Try.prog w' = .ok (.pointer (some ⟨e.b, 0, none⟩)) w') (by kernel_rfl) ?_ (fun hHeld => ?_)
    · exact ⟨m0, n1, hlk0 W4.drew (HR4.out.below (Below.refl _ _).drew).map⟩
    refine wpAnyH_take (i := 0) (v := ?_) rfl (by kernel_rfl) (by kernel_rfl) (by kernel_rfl) (fun _ _ _ h => h) (Or.inl ⟨by rfl, ?_⟩) (by assumption) ?_
    rotate_left
    · intro w hSw
      (try dsimp only at hSw)
      first | (go_simp; done) | (go_simp; with_reducible rfl)
    try simp only [List.getElem_toArray, List.getElem_cons_succ, List.getElem_cons_zero, Act.put, List.setIfInBounds_toArray, List.set_cons_zero, List.set_cons_succ]
    refine wpAnyH_take (i := 1) (v := ?_) rfl (by kernel_rfl) (by kernel_rfl) (by kernel_rfl) (fun _ _ _ h => h) (Or.inl ⟨by rfl, ?_⟩) (by assumption) ?_
    rotate_left
    · intro w hSw
      (try dsimp only at hSw)
      first | (go_simp; done) | (go_simp; with_reducible rfl)
    try simp only [List.getElem_toArray, List.getElem_cons_succ, List.getElem_cons_zero, Act.put, List.setIfInBounds_toArray, List.set_cons_zero, List.set_cons_succ]
    refine wpAnyH_take (i := 2) (v := ?_) rfl (by kernel_rfl) (by kernel_rfl) (by kernel_rfl) (fun _ _ _ h => h) (Or.inl ⟨by rfl, ?_⟩) (by assumption) ?_
    rotate_left
    · intro w hSw
      (try dsimp only at hSw)
      first | (go_simp; done) | (go_simp; with_reducible rfl)
    try simp only [List.getElem_toArray, List.getElem_cons_succ, List.getElem_cons_zero, Act.put, List.setIfInBounds_toArray, List.set_cons_zero, List.set_cons_succ]
    refine wpAnyH_take (i := 3) (v := ?_) rfl (by kernel_rfl) (by kernel_rfl) (by kernel_rfl) (fun _ _ _ h => h) (Or.inl ⟨by rfl, ?_⟩) (by assumption) ?_
    rotate_left
    · intro w hSw
      (try dsimp only at hSw)
      first | (go_simp; done) | (go_simp; with_reducible rfl)
    try simp only [List.getElem_toArray, List.getElem_cons_succ, List.getElem_cons_zero, Act.put, List.setIfInBounds_toArray, List.set_cons_zero, List.set_cons_succ]
    refine wpAnyH_take (i := 4) (v := ?_) rfl (by kernel_rfl) (by kernel_rfl) (by kernel_rfl) (fun _ _ _ h => h) (Or.inl ⟨by rfl, ?_⟩) (by assumption) ?_
    rotate_left
    · intro w hSw
      (try dsimp only at hSw)
      first | (go_simp; done) | (go_simp; with_reducible rfl)
    try simp only [List.getElem_toArray, List.getElem_cons_succ, List.getElem_cons_zero, Act.put, List.setIfInBounds_toArray, List.set_cons_zero, List.set_cons_succ]
    refine wpAnyH_take (i := 5) (v := ?_) rfl (by kernel_rfl) (by kernel_rfl) (by kernel_rfl) (fun _ _ _ h => h) (Or.inl ⟨by rfl, ?_⟩) (by assumption) ?_
    rotate_left
    · intro w hSw
      (try dsimp only at hSw)
      first | (go_simp; done) | (go_simp; with_reducible rfl)
    try simp only [List.getElem_toArray, List.getElem_cons_succ, List.getElem_cons_zero, Act.put, List.setIfInBounds_toArray, List.set_cons_zero, List.set_cons_succ]
    refine wpAnyH_take (i := 6) (v := ?_) rfl (by kernel_rfl) (by kernel_rfl) (by kernel_rfl) (fun _ _ _ h => h) (Or.inl ⟨by rfl, ?_⟩) (by assumption) ?_
    rotate_left
    · intro w hSw
      (try dsimp only at hSw)
      first | (go_simp; done) | (go_simp; with_reducible rfl)
    try simp only [List.getElem_toArray, List.getElem_cons_succ, List.getElem_cons_zero, Act.put, List.setIfInBounds_toArray, List.set_cons_zero, List.set_cons_succ]
    refine wpAnyH_ready (rs := [7, 12]) (by kernel_rfl) (by simp) ?_
    refine AllReadyH.cons rfl (fun K hK => ?_) (AllReadyH.cons rfl (fun K hK => ?_) AllReadyH.nil)
    · go_simp
      go_at_call 59
      refine (serve_any e.b e.x e.G _ ((HR4.out.flows e hel).below (Below.refl _ _).drew) hEX).mono ?_
      unfold Pk.val
      rintro e2 w4 ⟨rfl, hp4⟩
      obtain ⟨hR5, hF6⟩ := (HR4.out.below (Below.refl _ _).drew).turned hel hp4 (FlS.serve_ok hEX)
      have hb5n : ¬ e.G b5 := fun hk => by have := hF _ (HR4.out.sub e hel _ hk).1; omega
      have hw0n : ¬ e.G w.heap.size := fun hk => by have := hF _ (HR4.out.sub e hel _ hk).1; omega
      have hK4 : ∀ w', Below w4.heap.size w4 w' → w'.cell? ⟨b, 0, none⟩ = some (.map (some mb)) ∧ w'.cell? ⟨b5, 1, none⟩ = some (.int .i64 e.id) ∧ (Instr.lookup 83 (.map (some mb)) (.int .i64 e.id) false).run Try.prog w' = .ok (.pointer (some ⟨e.b, 0, none⟩)) w' := fun w' hw =>
        ⟨(hR5.below hw).blk.cell 0, ((hw.cell (p := ⟨b5, 1, none⟩) (Nat.lt_of_lt_of_le hlt5 hF6.size)).trans (hp4.2.cell (o := 1) hlt5 hb5n)).trans n1, hlk0 w' (by have := (hR5.below hw).map; rw [setR_ent] at this; exact this)⟩
      refine hK.out _ _ (hK4 _ (Below.refl _ _)) (fun hHeld => ?_)
      clear hK K
      try simp only [List.getElem_toArray, List.getElem_cons_succ, List.getElem_cons_zero, Act.put, List.setIfInBounds_toArray, List.set_cons_zero, List.set_cons_succ]
      refine wpAnyH_take (i := 8) (v := ?_) rfl (by kernel_rfl) (by kernel_rfl) (by kernel_rfl) (fun _ _ _ h => h) (Or.inl ⟨by rfl, ?_⟩) (by assumption) ?_
      rotate_left
      · intro w hSw
        (try dsimp only at hSw)
        first | (go_simp; done) | (go_simp; with_reducible rfl)
      try simp only [List.getElem_toArray, List.getElem_cons_succ, List.getElem_cons_zero, Act.put, List.setIfInBounds_toArray, List.set_cons_zero, List.set_cons_succ]
      refine wpAnyH_take (i := 9) (v := ?_) rfl (by kernel_rfl) (by kernel_rfl) (by kernel_rfl) (fun _ _ _ h => h) (Or.inl ⟨by rfl, ?_⟩) (by assumption) ?_
      rotate_left
      · intro w hSw
        (try dsimp only at hSw)
        first | (go_simp; done) | (go_simp; with_reducible rfl)
      try simp only [List.getElem_toArray, List.getElem_cons_succ, List.getElem_cons_zero, Act.put, List.setIfInBounds_toArray, List.set_cons_zero, List.set_cons_succ]
      refine wpAnyH_take (i := 10) (v := ?_) rfl (by kernel_rfl) (by kernel_rfl) (by kernel_rfl) (fun _ _ _ h => h) (Or.inl ⟨by rfl, ?_⟩) (by assumption) ?_
      rotate_left
      · intro w hSw
        (try dsimp only at hSw)
        first | (go_simp; done) | (go_simp; with_reducible rfl)
      try simp only [List.getElem_toArray, List.getElem_cons_succ, List.getElem_cons_zero, Act.put, List.setIfInBounds_toArray, List.set_cons_zero, List.set_cons_succ]
      refine wpAnyH_take (i := 11) (v := ?_) rfl (by kernel_rfl) (by kernel_rfl) (by kernel_rfl) (fun _ _ _ h => h) (Or.inl ⟨by rfl, ?_⟩) (by assumption) ?_
      rotate_left
      · intro w hSw
        (try dsimp only at hSw)
        first | (go_simp; done) | (go_simp; with_reducible rfl)
      try simp only [List.getElem_toArray, List.getElem_cons_succ, List.getElem_cons_zero, Act.put, List.setIfInBounds_toArray, List.set_cons_zero, List.set_cons_succ]
      refine wpAnyH_ready (rs := [12]) (by kernel_rfl) (by simp) ?_
      refine AllReadyH.cons rfl (fun K hK => ?_) AllReadyH.nil
      go_simp
      refine hK.out _ _ (hK4 _ (below1 _ _)) (fun hHeld => ?_)
      clear hK K
      try simp only [List.getElem_toArray, List.getElem_cons_succ, List.getElem_cons_zero, Act.put, List.setIfInBounds_toArray, List.set_cons_zero, List.set_cons_succ]
      refine wpAnyH_ready (rs := [13]) (by kernel_rfl) (by simp) ?_
      refine AllReadyH.cons rfl (fun K hK => ?_) AllReadyH.nil
      go_simp
      refine hK.out _ _ (hK4 _ (below1 _ _)) (fun hHeld => ?_)
      clear hK K
      try simp only [List.getElem_toArray, List.getElem_cons_succ, List.getElem_cons_zero, Act.put, List.setIfInBounds_toArray, List.set_cons_zero, List.set_cons_succ]
      refine wpAnyH_take (i := 14) (v := ?_) rfl (by kernel_rfl) (by kernel_rfl) (by kernel_rfl) (fun _ _ _ h => h) (Or.inl ⟨by rfl, ?_⟩) (by assumption) ?_
      rotate_left
      · intro w hSw
        (try dsimp only at hSw)
        first | (go_simp; done) | (go_simp; with_reducible rfl)
      try simp only [List.getElem_toArray, List.getElem_cons_succ, List.getElem_cons_zero, Act.put, List.setIfInBounds_toArray, List.set_cons_zero, List.set_cons_succ]
      refine wpAnyH_take (i := 15) (v := ?_) rfl (by kernel_rfl) (by kernel_rfl) (by kernel_rfl) (fun _ _ _ h => h) (Or.inl ⟨by rfl, ?_⟩) (by assumption) ?_
      rotate_left
      · intro w hSw
        (try dsimp only at hSw)
        first | (go_simp; done) | (go_simp; with_reducible rfl)
      try simp only [List.getElem_toArray, List.getElem_cons_succ, List.getElem_cons_zero, Act.put, List.setIfInBounds_toArray, List.set_cons_zero, List.set_cons_succ]
      refine wpAnyH_done (by kernel_rfl) ?_ _
      go_wp2_with fail
      go_meet
      have hsz := hF5.size
      have hsz6 := hF6.size
      have hx : Fr F w (w4.alloc (.cells #[.int .i64 e.x.head.flow, .int .i64 e.x.head.len, .int .i64 e.x.head.mark] 55)) := (hF5.drew.trans hF6 fun _ _ h => h).alloc _
      refine ⟨_, rfl, rfl, ⟨⟨_, (hR5.below (below1 _ _)).mono (fun k hk => hk.imp id fun hk => ⟨Nat.lt_of_lt_of_le B3'.lt hk.1, Nat.lt_of_lt_of_le hk.2 (by simp)⟩) (fun k hk => hk.elim (fun h => Nat.lt_of_lt_of_le (hF k h) hx.size) (fun h => h.2))⟩, hx, Blk.new w4 e.x.head.cells _, (B3'.of_eq (hp4.2.block _ B3'.lt hw0n)).alloc _, ?_⟩⟩
      have := B3'.lt
      have h6 : W4.heap.size ≤ w4.heap.size := hsz6
      omega
    · go_simp
      have hb6 : Below W4.heap.size W4 (W4.alloc (.cells #[.int .i64 0, .int .i64 0, .int .i64 0] 55)).drew := (below1 _ _).drew
      have B6 := (Blk.new W4 [.int .i64 0, .int .i64 0, .int .i64 0] 55).drew
      have hR45 := HR4.out.below hb6
      refine hK.out _ _ ⟨hR45.blk.cell 0, (hb6.cell (p := ⟨b5, 1, none⟩) hlt5).trans n1, hlk0 _ hR45.map⟩ (fun hHeld => ?_)
      clear hK K
      try simp only [List.getElem_toArray, List.getElem_cons_succ, List.getElem_cons_zero, Act.put, List.setIfInBounds_toArray, List.set_cons_zero, List.set_cons_succ]
      have hsz56 : W4.heap.size < (W4.alloc (.cells #[.int .i64 0, .int .i64 0, .int .i64 0] 55)).drew.heap.size := B6.lt
      refine wpAnyH_ready (rs := [7]) (by kernel_rfl) (by simp) ?_
      refine AllReadyH.cons rfl (fun K hK => ?_) AllReadyH.nil
      go_simp
      generalize (W4.alloc (.cells #[.int .i64 0, .int .i64 0, .int .i64 0] 55)).drew = W5 at *
      go_at_call 59
      refine (serve_any e.b e.x e.G _ (hR45.flows e hel) hEX).mono ?_
      unfold Pk.val
      rintro e2 w4 ⟨rfl, hp4⟩
      obtain ⟨hR5, hF6⟩ := hR45.turned hel hp4 (FlS.serve_ok hEX)
      have hb5n : ¬ e.G b5 := fun hk => by have := hF _ (HR4.out.sub e hel _ hk).1; omega
      have hw0n : ¬ e.G w.heap.size := fun hk => by have := hF _ (HR4.out.sub e hel _ hk).1; omega
      have hw6n : ¬ e.G W4.heap.size := fun hk => by have h1 := hF _ (HR4.out.sub e hel _ hk).1; have h2 := B3'.lt; omega
      have hlt55 : b5 < W5.heap.size := by omega
      have B7 := B6.of_eq (hp4.2.block _ B6.lt hw6n)
      have q0 := B7.cell 0
      have q1 := B7.cell 1
      have q2 := B7.cell 2
      have p0 := B7.frozen 0
      have p1 := B7.frozen 1
      have p2 := B7.frozen 2
      simp only [List.getElem?_cons_succ, List.getElem?_cons_zero] at q0 q1 q2
      have hSn : ¬ Ext F W5 w4 W4.heap.size ∧ W4.heap.size ≠ b5 ∧ W4.heap.size ≠ b ∧ W4.heap.size ≠ mb ∧ W4.heap.size ≠ w.heap.size := by
        have h1 := B3'.lt
        have h2 := HR4.out.map.lt
        refine ⟨fun hk => ?_, by omega, by omega, by omega, by omega⟩
        rcases hk with hk | hk
        · have := hF _ hk; omega
        · omega
      refine hK.out _ _ ⟨hR5.blk.cell 0, (hp4.2.cell (o := 1) hlt55 hb5n).trans ((hb6.cell (p := ⟨b5, 1, none⟩) hlt5).trans n1), hlk0 _ (by have := hR5.map; rw [setR_ent] at this; exact this)⟩ (fun hHeld => ?_)
      clear hK K
      try simp only [List.getElem_toArray, List.getElem_cons_succ, List.getElem_cons_zero, Act.put, List.setIfInBounds_toArray, List.set_cons_zero, List.set_cons_succ]
      refine wpAnyH_take (i := 8) (v := ?_) rfl (by kernel_rfl) (by kernel_rfl) (by kernel_rfl) (fun _ _ _ h => h) (Or.inl ⟨by rfl, ?_⟩) (by assumption) ?_
      rotate_left
      · intro w hSw
        (try dsimp only at hSw)
        first | (go_simp; done) | (go_simp; with_reducible rfl)
      try simp only [List.getElem_toArray, List.getElem_cons_succ, List.getElem_cons_zero, Act.put, List.setIfInBounds_toArray, List.set_cons_zero, List.set_cons_succ]
      refine wpAnyH_take (i := 9) (v := ?_) rfl (by kernel_rfl) (by kernel_rfl) (by kernel_rfl) (fun _ _ _ h => h) (Or.inl ⟨by rfl, ?_⟩) (by assumption) ?_
      rotate_left
      · intro w hSw
        (try dsimp only at hSw)
        first | (go_simp; done) | (go_simp; with_reducible rfl)
      try simp only [List.getElem_toArray, List.getElem_cons_succ, List.getElem_cons_zero, Act.put, List.setIfInBounds_toArray, List.set_cons_zero, List.set_cons_succ]
      refine wpAnyH_take (i := 10) (v := ?_) rfl (by kernel_rfl) (by kernel_rfl) (by kernel_rfl) (fun _ _ _ h => h) (Or.inl ⟨by rfl, ?_⟩) (by assumption) ?_
      rotate_left
      · intro w hSw
        (try dsimp only at hSw)
        first | (go_simp; done) | (go_simp; with_reducible rfl)
      try simp only [List.getElem_toArray, List.getElem_cons_succ, List.getElem_cons_zero, Act.put, List.setIfInBounds_toArray, List.set_cons_zero, List.set_cons_succ]
      refine wpAnyH_take (i := 11) (v := ?_) rfl (by kernel_rfl) (by kernel_rfl) (by kernel_rfl) (fun _ _ _ h => h) (Or.inl ⟨by rfl, ?_⟩) (by assumption) ?_
      rotate_left
      · intro w hSw
        (try dsimp only at hSw)
        first | (go_simp; done) | (go_simp; with_reducible rfl)
      try simp only [List.getElem_toArray, List.getElem_cons_succ, List.getElem_cons_zero, Act.put, List.setIfInBounds_toArray, List.set_cons_zero, List.set_cons_succ]
      refine wpAnyH_ready (rs := [13]) (by kernel_rfl) (by simp) ?_
      refine AllReadyH.cons rfl (fun K hK => ?_) AllReadyH.nil
      have hS6 : Fr (fun k => k = W4.heap.size) w4 (((w4.setCell ⟨W4.heap.size, 0, none⟩ (.int .i64 e.x.head.flow)).setCell ⟨W4.heap.size, 1, none⟩ (.int .i64 e.x.head.len)).setCell ⟨W4.heap.size, 2, none⟩ (.int .i64 e.x.head.mark)) :=
        Fr.setCell (S := fun k => k = W4.heap.size) (a := ⟨W4.heap.size, 2, none⟩) (Fr.setCell (S := fun k => k = W4.heap.size) (a := ⟨W4.heap.size, 1, none⟩) (Fr.setCell (S := fun k => k = W4.heap.size) (a := ⟨W4.heap.size, 0, none⟩) (Fr.refl _ _) (.inl rfl) _) (.inl rfl) _) (.inl rfl) _
      have B8 := ((B7.set 0 (.int .i64 e.x.head.flow)).set 1 (.int .i64 e.x.head.len)).set 2 (.int .i64 e.x.head.mark)
      have hR6 := hR5.fr hS6 fun k hk e' => hSn.1 (by subst e'; exact hk)
      have hrs := (B3'.of_eq ((hp4.2.block _ (Nat.lt_of_lt_of_le B3'.lt hb6.size) hw0n).trans (hb6.block _ B3'.lt))).fr hS6 fun e' => hSn.2.2.2.2 e'.symm
      have hx : Fr F w (((w4.setCell ⟨W4.heap.size, 0, none⟩ (.int .i64 e.x.head.flow)).setCell ⟨W4.heap.size, 1, none⟩ (.int .i64 e.x.head.len)).setCell ⟨W4.heap.size, 2, none⟩ (.int .i64 e.x.head.mark)) :=
        ((hF5.then_below hb6).trans hF6 fun _ _ h => h).trans hS6 fun k hk e' => by exfalso; subst e'; have := hF5.size; omega
      go_simp
      refine hK.out _ _ ⟨hR6.blk.cell 0, ?_, hlk0 _ (by have := hR6.map; rw [setR_ent] at this; exact this)⟩ (fun hHeld => ?_)
      · exact (hS6.cell (o := 1) (Nat.lt_of_lt_of_le hlt55 hF6.size) (fun e' => hSn.2.1 e'.symm)).trans ((hp4.2.cell (o := 1) hlt55 hb5n).trans ((hb6.cell (p := ⟨b5, 1, none⟩) hlt5).trans n1))
      clear hK K
      try simp only [List.getElem_toArray, List.getElem_cons_succ, List.getElem_cons_zero, Act.put, List.setIfInBounds_toArray, List.set_cons_zero, List.set_cons_succ]
      refine wpAnyH_take (i := 14) (v := ?_) rfl (by kernel_rfl) (by kernel_rfl) (by kernel_rfl) (fun _ _ _ h => h) (Or.inl ⟨by rfl, ?_⟩) (by assumption) ?_
      rotate_left
      · intro w hSw
        (try dsimp only at hSw)
        first | (go_simp; done) | (go_simp; with_reducible rfl)
      try simp only [List.getElem_toArray, List.getElem_cons_succ, List.getElem_cons_zero, Act.put, List.setIfInBounds_toArray, List.set_cons_zero, List.set_cons_succ]
      refine wpAnyH_take (i := 15) (v := ?_) rfl (by kernel_rfl) (by kernel_rfl) (by kernel_rfl) (fun _ _ _ h => h) (Or.inl ⟨by rfl, ?_⟩) (by assumption) ?_
      rotate_left
      · intro w hSw
        (try dsimp only at hSw)
        first | (go_simp; done) | (go_simp; with_reducible rfl)
      try simp only [List.getElem_toArray, List.getElem_cons_succ, List.getElem_cons_zero, Act.put, List.setIfInBounds_toArray, List.set_cons_zero, List.set_cons_succ]
      refine wpAnyH_done (by kernel_rfl) ?_ _
      go_wp2_with fail
      go_meet
      have hsz := hF5.size
      have hsz6 := hF6.size
      refine ⟨_, rfl, rfl, ⟨⟨_, hR6.mono (fun k hk => hk.imp id fun hk => ⟨by have := hk.1; have := hb6.size; have := B3'.lt; omega, Nat.lt_of_lt_of_le hk.2 hS6.size⟩) (fun k hk => hk.elim (fun h => Nat.lt_of_lt_of_le (hF k h) hx.size) (fun h => h.2))⟩, hx, B8, hrs, ?_⟩⟩
      have := B3'.lt
      omega
  case rest =>
    obtain ⟨B6, rfl, rfl, st⟩ := hcut
    obtain ⟨G, hRc⟩ := st.sfq
    have hfi : s.first = (e.x.start, e.id) := by unfold SfS.first; rw [← hl]; exact hX
    have hgf : getF s.fs e.id = some e.x := by rw [← hl, getF_pl, hg]; rfl
    have hhd : s.head = e.x.head := by unfold SfS.head; rw [if_neg HE.out, hfi]; simp only [hgf]
    have hsv : s.serve = ⟨e.x.start, max s.most e.x.out, setF s.fs e.id e.x.serve⟩ := by unfold SfS.serve; rw [if_neg HE.out, hfi]; simp only [hgf]
    rw [← hl, ← setR_pl _ _ _ G] at hsv
    have HH := Lib.hid hhd
    have HV := Lib.hid hsv
    have ST := Lib.hid st
    have c2 := hRc.blk.cell 2
    have f2 := hRc.blk.frozen 2
    simp only [List.getElem?_cons_succ, List.getElem?_cons_zero] at c2
    have HRc := Lib.hid hRc
    have hcase : (s.most < e.x.out ∧ max s.most e.x.out = e.x.out) ∨ (e.x.out ≤ s.most ∧ max s.most e.x.out = s.most) := by omega
    clear st hRc hhd hsv hfi hgf hX hX2
    rcases hcase with ⟨hv, hm⟩ | ⟨hv, hm⟩
    · have HM := Lib.hid hm
      clear hm
      go_upto_region 9 with fail
      obtain ⟨hR9, hF9⟩ := HRc.out.setMost e.x.out
      have hbB : b ≠ B6 := by have := hF b HR4.out.hb; have := ST.out.far; omega
      have Bp := ST.out.pk.set_far (a := ⟨b, 2, none⟩) (fun e => hbB e.symm) (.int .u64 e.x.out)
      have Br := ST.out.res.set_far (a := ⟨b, 2, none⟩) (fun e => hbw0 e.symm) (.int .u64 e.x.out)
      have hfr := ST.out.fr.trans hF9 fun k hk h => by
        rcases h with h | h
        · exact h
        · omega
      have hs9 := hF9.size
      generalize wc.setCell ⟨b, 2, none⟩ (.int .u64 e.x.out) = W9 at *
      have x0 := Bp.cell 0
      have x1 := Bp.cell 1
      have x2 := Bp.cell 2
      have y0 := Br.cell 0
      have y1 := Br.cell 1
      have y2 := Br.cell 2
      have q0 := Br.frozen 0
      have q1 := Br.frozen 1
      have q2 := Br.frozen 2
      simp only [Pk.cells, List.getElem?_cons_succ, List.getElem?_cons_zero] at x0 x1 x2 y0 y1 y2
      have HR9 := Lib.hid hR9
      have HFR := Lib.hid hfr
      clear hR9 hF9 hfr Bp Br ST HRc
      go_wp2
      refine bodyPost_ret (v := .tuple #[.agg #[.int .i64 e.x.head.flow, .int .i64 e.x.head.len, .int .i64 e.x.head.mark], .bool true]) (by simp [results, Try.results44, go_sem, y0, y1, y2, q0, q1, q2]) rfl ⟨by rw [HH.out]; rfl, ?_⟩
      rw [HV.out, HM.out]
      have hS6 : Fr (fun k => k = w.heap.size) W9 (((W9.setCell ⟨w.heap.size, 0, none⟩ (.int .i64 e.x.head.flow)).setCell ⟨w.heap.size, 1, none⟩ (.int .i64 e.x.head.len)).setCell ⟨w.heap.size, 2, none⟩ (.int .i64 e.x.head.mark)) :=
        Fr.setCell (S := fun k => k = w.heap.size) (a := ⟨w.heap.size, 2, none⟩) (Fr.setCell (S := fun k => k = w.heap.size) (a := ⟨w.heap.size, 1, none⟩) (Fr.setCell (S := fun k => k = w.heap.size) (a := ⟨w.heap.size, 0, none⟩) (Fr.refl _ _) (.inl rfl) _) (.inl rfl) _) (.inl rfl) _
      have hx : Fr F w (((W9.setCell ⟨w.heap.size, 0, none⟩ (.int .i64 e.x.head.flow)).setCell ⟨w.heap.size, 1, none⟩ (.int .i64 e.x.head.len)).setCell ⟨w.heap.size, 2, none⟩ (.int .i64 e.x.head.mark)) := HFR.out.trans hS6 fun k hk e' => by exfalso; subst e'; omega
      refine ⟨⟨mb, setR l e.id e.x.serve G, rfl, (HR9.out.fr hS6 fun k hk e' => ?_).mono (fun k hk => hk.imp id fun hk => ⟨Nat.le_of_lt hk.1, Nat.lt_of_lt_of_le (Nat.lt_of_lt_of_le hk.2 hs9) hS6.size⟩) (hF.ext hx.size)⟩, hx⟩
      rcases hk with hk | hk
      · have := hF k hk; omega
      · omega
    · have HM := Lib.hid hm
      clear hm
      go_upto_region 9 with fail
      obtain ⟨hR9, hF9⟩ := HRc.out.setMost s.most
      have hbB : b ≠ B6 := by have := hF b HR4.out.hb; have := ST.out.far; omega
      have Bp := ST.out.pk.set_far (a := ⟨b, 2, none⟩) (fun e => hbB e.symm) (.int .u64 s.most)
      have Br := ST.out.res.set_far (a := ⟨b, 2, none⟩) (fun e => hbw0 e.symm) (.int .u64 s.most)
      have hfr := ST.out.fr.trans hF9 fun k hk h => by
        rcases h with h | h
        · exact h
        · omega
      have hs9 := hF9.size
      generalize wc.setCell ⟨b, 2, none⟩ (.int .u64 s.most) = W9 at *
      have x0 := Bp.cell 0
      have x1 := Bp.cell 1
      have x2 := Bp.cell 2
      have y0 := Br.cell 0
      have y1 := Br.cell 1
      have y2 := Br.cell 2
      have q0 := Br.frozen 0
      have q1 := Br.frozen 1
      have q2 := Br.frozen 2
      simp only [Pk.cells, List.getElem?_cons_succ, List.getElem?_cons_zero] at x0 x1 x2 y0 y1 y2
      have HR9 := Lib.hid hR9
      have HFR := Lib.hid hfr
      clear hR9 hF9 hfr Bp Br ST HRc
      go_wp2
      refine bodyPost_ret (v := .tuple #[.agg #[.int .i64 e.x.head.flow, .int .i64 e.x.head.len, .int .i64 e.x.head.mark], .bool true]) (by simp [results, Try.results44, go_sem, y0, y1, y2, q0, q1, q2]) rfl ⟨by rw [HH.out]; rfl, ?_⟩
      rw [HV.out, HM.out]
      have hS6 : Fr (fun k => k = w.heap.size) W9 (((W9.setCell ⟨w.heap.size, 0, none⟩ (.int .i64 e.x.head.flow)).setCell ⟨w.heap.size, 1, none⟩ (.int .i64 e.x.head.len)).setCell ⟨w.heap.size, 2, none⟩ (.int .i64 e.x.head.mark)) :=
        Fr.setCell (S := fun k => k = w.heap.size) (a := ⟨w.heap.size, 2, none⟩) (Fr.setCell (S := fun k => k = w.heap.size) (a := ⟨w.heap.size, 1, none⟩) (Fr.setCell (S := fun k => k = w.heap.size) (a := ⟨w.heap.size, 0, none⟩) (Fr.refl _ _) (.inl rfl) _) (.inl rfl) _) (.inl rfl) _
      have hx : Fr F w (((W9.setCell ⟨w.heap.size, 0, none⟩ (.int .i64 e.x.head.flow)).setCell ⟨w.heap.size, 1, none⟩ (.int .i64 e.x.head.len)).setCell ⟨w.heap.size, 2, none⟩ (.int .i64 e.x.head.mark)) := HFR.out.trans hS6 fun k hk e' => by exfalso; subst e'; omega
      refine ⟨⟨mb, setR l e.id e.x.serve G, rfl, (HR9.out.fr hS6 fun k hk e' => ?_).mono (fun k hk => hk.imp id fun hk => ⟨Nat.le_of_lt hk.1, Nat.lt_of_lt_of_le (Nat.lt_of_lt_of_le hk.2 hs9) hS6.size⟩) (hF.ext hx.size)⟩, hx⟩
      rcases hk with hk | hk
      · have := hF k hk; omega
      · omega
end Go.Proofs.Ytfgfjnlkgadkhaa
