/- The reference's flows: one flow turned; a packet comes. -/
import Derived.Test.YtfgfjnlkgadkhaaRfs
import Derived.Deep.RegionHeld3
namespace Go.Proofs.Ytfgfjnlkgadkhaa
set_option linter.unusedVariables false
set_option linter.unusedSimpArgs false
set_option maxRecDepth 20000
open Go.RowKit Go.Proofs.YtfgfjnlkgadkhaaMem Go.Proofs.YtfgfjnlkgadkhaaMapK

theorem setR_ptrs (l : List FlR) (id : Int) (x : FlS) (G : Nat → Prop) : ptrs (setR l id x G) = ptrs l := by
  unfold setR ptrs
  rw [List.map_map]
  refine List.map_congr_left fun e _ => ?_
  simp only [Function.comp]
  split <;> rfl
theorem setR_length (l : List FlR) (id : Int) (x : FlS) (G : Nat → Prop) : (setR l id x G).length = l.length := by unfold setR; simp
theorem RfR.same {w : World} {b : Nat} {v most : Int} {l : List FlR} {F : Nat → Prop} (h : RfR w b v most l F) {e e' : FlR} (he : e ∈ l) (he' : e' ∈ l) (hi : e.id = e'.id) : e = e' := by
  have : ∀ {l : List FlR}, (l.map (·.id)).Nodup → ∀ e e', e ∈ l → e' ∈ l → e.id = e'.id → e = e' := by
    intro l
    induction l with
    | nil => intro _ e e' h; cases h
    | cons a l ih =>
      intro hn e e' he he' hi
      simp only [List.map_cons, List.nodup_cons] at hn
      rcases List.mem_cons.1 he with h3 | h3 <;> rcases List.mem_cons.1 he' with h4 | h4
      · rw [h3, h4]
      · rw [h3] at hi; exact absurd (List.mem_map.2 ⟨e', h4, hi.symm⟩) hn.1
      · rw [h4] at hi; exact absurd (List.mem_map.2 ⟨e, h3, hi⟩) hn.1
      · exact ih hn.2 e e' h3 h4 hi
  exact this h.ids e e' he he' hi
theorem RfR.apart {w : World} {b : Nat} {v most : Int} {l : List FlR} {F : Nat → Prop} (h : RfR w b v most l F) {e e' : FlR} (he : e ∈ l) (he' : e' ∈ l) (hi : e.id ≠ e'.id) : ∀ k, e.G k → ¬ e'.G k := by
  have : ∀ {l : List FlR}, l.Pairwise (fun e e' => ∀ k, e.G k → ¬ e'.G k) → ∀ e e', e ∈ l → e' ∈ l → e.id ≠ e'.id → ∀ k, e.G k → ¬ e'.G k := by
    intro l hp
    induction hp with
    | nil => intro e e' h; cases h
    | @cons a l h1 h2 ih =>
      intro e e' he he' hi k hk hk'
      rcases List.mem_cons.1 he with h3 | h3 <;> rcases List.mem_cons.1 he' with h4 | h4
      · rw [h3, h4] at hi; exact hi rfl
      · rw [h3] at hk; exact h1 e' h4 k hk hk'
      · rw [h4] at hk'; exact h1 e h3 k hk' hk
      · exact ih e e' h3 h4 hi k hk hk'
  exact this h.disj e e' he he' hi
/-- One flow was turned. -/
theorem RfR.turned {w w' : World} {b : Nat} {v most : Int} {l : List FlR} {F : Nat → Prop} (h : RfR w b v most l F) {e : FlR} (he : e ∈ l) {x : FlS} (hp : RefPost e.b e.id x e.G w w') (hx : x.Ok) :
    RfR w' b v most (setR l e.id x (Ext e.G w w')) (Ext F w w') ∧ Fr F w w' := by
  obtain ⟨hp, hf⟩ := hp
  have hF : Fr F w w' := hf.mono fun k _ hk => (h.sub e he k hk).1
  have hbn : ¬ e.G b := fun hk => (h.sub e he b hk).2 rfl
  have hbl := h.lt b h.hb
  obtain ⟨ao, cap, h1, h2, h3⟩ := h.row
  have hap : ∀ e1 ∈ l, e1.id ≠ e.id → ∀ k, e1.G k → ¬ Ext e.G w w' k := by
    intro e1 h1 hi k hk hk'
    rcases hk' with hk' | hk'
    · exact h.apart h1 he hi k hk hk'
    · have := h.lt k (h.sub e1 h1 k hk).1; omega
  refine ⟨{ row := ⟨ao, cap, ?_, ?_, ?_⟩, flows := ?_, hb := .inl h.hb, sub := ?_, disj := ?_, lt := h.lt.ext hf.size, ok := ?_, rise := ?_ }, hF⟩
  · rw [setR_length]; exact h1.fr hf hbn
  · rw [setR_length, setR_ptrs]
    refine owns_fr h2 hf fun k hk => ?_
    cases ao with
    | none => cases hk
    | some a => cases hk; exact (h3 a rfl).2.2 e he
  · intro a ha
    obtain ⟨h4, h5, h6⟩ := h3 a ha
    have hlt := h.lt _ h4
    refine ⟨.inl h4, h5, fun e1 he1 => ?_⟩
    rcases setR_mem he1 with ⟨e0, h0, hi, rfl⟩ | ⟨h0, hi⟩
    · intro hk
      rcases hk with hk | hk
      · exact h6 e he hk
      · omega
    · exact h6 e1 h0
  · intro e1 h1
    rcases setR_mem h1 with ⟨e0, h0, hi, rfl⟩ | ⟨h0, hi⟩
    · obtain rfl := h.same h0 he hi
      exact hp
    · exact (h.flows e1 h0).fr hf fun k hk hk' => h.apart h0 he hi k hk hk'
  · intro e1 h1 k hk
    rcases setR_mem h1 with ⟨e0, h0, hi, rfl⟩ | ⟨h0, hi⟩
    · rcases hk with hk | hk
      · exact ⟨.inl (h.sub e he k hk).1, (h.sub e he k hk).2⟩
      · exact ⟨.inr hk, by omega⟩
    · exact ⟨.inl (h.sub e1 h0 k hk).1, (h.sub e1 h0 k hk).2⟩
  · have hd := h.disj.and h.rise
    unfold setR
    rw [List.pairwise_map]
    refine List.Pairwise.imp_of_mem ?_ hd
    rintro a c ha hc ⟨h1, h2⟩
    by_cases ha' : a.id = e.id
    · have hc' : c.id ≠ e.id := by omega
      rw [if_pos ha', if_neg hc']
      exact fun k hk hk' => hap c hc hc' k hk' hk
    · rw [if_neg ha']
      by_cases hc' : c.id = e.id
      · rw [if_pos hc']
        exact hap a ha ha'
      · rw [if_neg hc']; exact h1
  · intro e1 h1
    rcases setR_mem h1 with ⟨e0, h0, hi, rfl⟩ | ⟨h0, hi⟩
    · exact hx
    · exact h.ok e1 h0
  · have hd := h.rise
    unfold setR
    rw [List.pairwise_map]
    refine hd.imp fun {a c} h => ?_
    split <;> split <;> exact h

/-- The reference's flows, as plain data. -/
def RfsAt (w : World) (b : Nat) (t : SfS) (F : Nat → Prop) : Prop := ∃ l, l.map FlR.pl = t.fs ∧ RfR w b t.v t.most l F
theorem RfsAt.fr {w w' : World} {b : Nat} {t : SfS} {F S : Nat → Prop} (h : RfsAt w b t F) (hf : Fr S w w') (hn : ∀ k, F k → ¬ S k) : RfsAt w' b t F := let ⟨l, e, h⟩ := h; ⟨l, e, h.fr hf hn⟩
theorem RfsAt.below {w w' : World} {b : Nat} {t : SfS} {F : Nat → Prop} (h : RfsAt w b t F) (hb : Below w.heap.size w w') : RfsAt w' b t F := let ⟨l, e, h⟩ := h; ⟨l, e, h.below hb⟩
theorem RfsAt.lt {w : World} {b : Nat} {t : SfS} {F : Nat → Prop} (h : RfsAt w b t F) : Lt F w := let ⟨_, _, h⟩ := h; h.lt
def RfsPost (b : Nat) (t : SfS) (F : Nat → Prop) (w w' : World) : Prop := RfsAt w' b t (Ext F w w') ∧ Fr F w w'
theorem RfsAt.still {w w' : World} {b : Nat} {t : SfS} {F : Nat → Prop} (h : RfsAt w b t F) (hb : Below w.heap.size w w') : RfsPost b t F w w' := by
  obtain ⟨l, e, h⟩ := h
  exact ⟨⟨l, e, (h.below hb).mono (fun k hk => .inl hk) (h.lt.ext hb.size)⟩, Fr.of_below hb⟩

set_option maxHeartbeats 1000000 in
theorem arriveR_any (b : Nat) (t : SfS) (F : Nat → Prop) (p : Pk) (w : World) (h : RfsAt w b t F) (hv : W64 t.v) (hp : p.Ok) :
    Calls Try.prog 36 #[.pointer (some ⟨b, 0, none⟩), .agg #[.int .i64 p.flow, .int .i64 p.len, .int .i64 p.mark]] w fun e w' => e = .returned (.int .i64 (t.arriveE p)) ∧ RfsPost b (t.arrive p) F w w' := by
  obtain ⟨l, hl, h⟩ := h
  unfold SfS.arrive SfS.arriveE
  rw [← hl, getF_pl]
  have hb1 := below1 w (.cells #[.int .i64 p.flow, .int .i64 p.len, .int .i64 p.mark] 55)
  have h1 := h.below hb1
  have B1 := Blk.new w [.int .i64 p.flow, .int .i64 p.len, .int .i64 p.mark] 55
  have hF := h.lt
  have hlt := B1.lt
  generalize hW1 : w.alloc (.cells #[.int .i64 p.flow, .int .i64 p.len, .int .i64 p.mark] 55) = w1 at *
  have p0 := B1.cell 0
  have p1 := B1.cell 1
  have p2 := B1.cell 2
  simp only [List.getElem?_cons_succ, List.getElem?_cons_zero] at p0 p1 p2
  have hA := at_any b t.v t.most l F p.flow w1 h1
  have H0 := Lib.hid h
  by_cases hpos : posR l p.flow < l.length
  · obtain ⟨e, he, hid, hg⟩ := posR_at hpos
    have hm := List.mem_of_getElem? he
    obtain ⟨ao, cap, c0, c1, c2, hc, hl63, hnil, hat⟩ := h1.cells
    obtain ⟨g, rfl, hgl, cg, ci, heb⟩ := hat _ e he
    have hok := h.ok e hm
    have hA1 : atR l p.flow = posR l p.flow := by unfold atR; rw [if_pos hpos]
    rw [hA1] at hA
    rw [hg]
    have HL := Lib.hid hpos
    have H := Lib.hid h1
    have hnb : ¬ e.G b := fun hk => (h.sub e hm b hk).2 rfl
    have hnp : ¬ e.G w.heap.size := fun hk => by have := h.lt _ (h.sub e hm _ hk).1; omega
    have hng : ¬ e.G g := by
      obtain ⟨ao, cap', r1, -, r3⟩ := h1.row
      have := r1.cell 0
      simp only [List.getElem?_cons_zero] at this
      rw [this] at c0
      cases c0
      exact (r3 _ rfl).2.2 e hm
    have i1 : ((posR l p.flow : Nat) : Int) < (l.length : Int) := by omega
    have i2 : ¬ ((posR l p.flow : Nat) : Int) < 0 := by omega
    generalize posR l p.flow = k at *
    obtain ⟨n, hn⟩ : ∃ n, l.length = n := ⟨_, rfl⟩
    rw [hn] at c0 i1 hc hl63
    simp only [Option.map_some]
    generalize hR9 : (if e.x.full = true then (9 : Int) else 0) = R9
    clear h h1 hat hpos hA1 he hg hn ci heb c2
    go_enter Try.func36, Try.ntmps36
    go_wp2_with fail
    refine hA.mono ?_
    rintro e' w' ⟨rfl, rfl⟩
    go_upto_region 4 with fail
    refine wp_region_held_drew (S := (fun w' => w'.cell? ⟨b, 0, none⟩ = some (.slice (some ⟨g, 0, none⟩) n cap) ∧ w'.cell? ⟨b, 1, none⟩ = some (.int .u64 t.v) ∧ w'.cell? ⟨g, k, none⟩ = some (.pointer (some ⟨e.b, 0, none⟩)) ∧ w'.cell? ⟨w.heap.size, 0, none⟩ = some (.int .i64 p.flow) ∧ w'.cell? ⟨w.heap.size, 1, none⟩ = some (.int .i64 p.len) ∧ w'.cell? ⟨w.heap.size, 2, none⟩ = some (.int .i64 p.mark))) (by kernel_rfl) ?_ (fun hHeld => ?_)
    · exact ⟨c0, c1, cg, p0, p1, p2⟩
    refine wpAnyH_take (i := 0) (v := ?_) rfl (by kernel_rfl) (by kernel_rfl) (by kernel_rfl) (fun _ _ _ h => h) (Or.inl ⟨by rfl, ?_⟩) (by assumption) ?_
    rotate_left
    · intro w hSw
      (try dsimp only at hSw)
      first | (go_simp; done) | (go_simp; with_reducible rfl)
    try simp only [List.getElem_toArray, List.getElem_cons_succ, List.getElem_cons_zero, Act.put, List.setIfInBounds_toArray, List.set_cons_zero, List.set_cons_succ]
    refine wpAnyH_take (i := 1) (v := ?_) rfl (by kernel_rfl) (by kernel_rfl) (by kernel_rfl) (fun _ _ _ h => h) (Or.inl ⟨by rfl, ?_⟩) (by assumption) ?_
    rotate_left
    · intro w hSw
      (try dsimp only at hSw)
      first | (go_simp; done) | (go_simp; with_reducible rfl)
    try simp only [List.getElem_toArray, List.getElem_cons_succ, List.getElem_cons_zero, Act.put, List.setIfInBounds_toArray, List.set_cons_zero, List.set_cons_succ]
    refine wpAnyH_take (i := 2) (v := ?_) rfl (by kernel_rfl) (by kernel_rfl) (by kernel_rfl) (fun _ _ _ h => h) (Or.inl ⟨by rfl, ?_⟩) (by assumption) ?_
    rotate_left
    · intro w hSw
      (try dsimp only at hSw)
      first | (go_simp; done) | (go_simp; with_reducible rfl)
    try simp only [List.getElem_toArray, List.getElem_cons_succ, List.getElem_cons_zero, Act.put, List.setIfInBounds_toArray, List.set_cons_zero, List.set_cons_succ]
    refine wpAnyH_take (i := 3) (v := ?_) rfl (by kernel_rfl) (by kernel_rfl) (by kernel_rfl) (fun _ _ _ h => h) (Or.inl ⟨by rfl, ?_⟩) (by assumption) ?_
    rotate_left
    · intro w hSw
      (try dsimp only at hSw)
      first | (go_simp; done) | (go_simp; with_reducible rfl)
    try simp only [List.getElem_toArray, List.getElem_cons_succ, List.getElem_cons_zero, Act.put, List.setIfInBounds_toArray, List.set_cons_zero, List.set_cons_succ]
    refine wpAnyH_take (i := 4) (v := ?_) rfl (by kernel_rfl) (by kernel_rfl) (by kernel_rfl) (fun _ _ _ h => h) (Or.inl ⟨by rfl, ?_⟩) (by assumption) ?_
    rotate_left
    · intro w hSw
      (try dsimp only at hSw)
      first | (go_simp; done) | (go_simp; with_reducible rfl)
    try simp only [List.getElem_toArray, List.getElem_cons_succ, List.getElem_cons_zero, Act.put, List.setIfInBounds_toArray, List.set_cons_zero, List.set_cons_succ]
    refine wpAnyH_take (i := 5) (v := ?_) rfl (by kernel_rfl) (by kernel_rfl) (by kernel_rfl) (fun _ _ _ h => h) (Or.inl ⟨by rfl, ?_⟩) (by assumption) ?_
    rotate_left
    · intro w hSw
      (try dsimp only at hSw)
      first | (go_simp; done) | (go_simp; with_reducible rfl)
    try simp only [List.getElem_toArray, List.getElem_cons_succ, List.getElem_cons_zero, Act.put, List.setIfInBounds_toArray, List.set_cons_zero, List.set_cons_succ]
    refine wpAnyH_take (i := 6) (v := ?_) rfl (by kernel_rfl) (by kernel_rfl) (by kernel_rfl) (fun _ _ _ h => h) (Or.inl ⟨by rfl, ?_⟩) (by assumption) ?_
    rotate_left
    · intro w hSw
      (try dsimp only at hSw)
      first | (go_simp; done) | (go_simp; with_reducible rfl)
    try simp only [List.getElem_toArray, List.getElem_cons_succ, List.getElem_cons_zero, Act.put, List.setIfInBounds_toArray, List.set_cons_zero, List.set_cons_succ]
    refine wpAnyH_take (i := 7) (v := ?_) rfl (by kernel_rfl) (by kernel_rfl) (by kernel_rfl) (fun _ _ _ h => h) (Or.inl ⟨by rfl, ?_⟩) (by assumption) ?_
    rotate_left
    · intro w hSw
      (try dsimp only at hSw)
      first | (go_simp; done) | (go_simp; with_reducible rfl)
    try simp only [List.getElem_toArray, List.getElem_cons_succ, List.getElem_cons_zero, Act.put, List.setIfInBounds_toArray, List.set_cons_zero, List.set_cons_succ]
    refine wpAnyH_take (i := 8) (v := ?_) rfl (by kernel_rfl) (by kernel_rfl) (by kernel_rfl) (fun _ _ _ h => h) (Or.inl ⟨by rfl, ?_⟩) (by assumption) ?_
    rotate_left
    · intro w hSw
      (try dsimp only at hSw)
      first | (go_simp; done) | (go_simp; with_reducible rfl)
    try simp only [List.getElem_toArray, List.getElem_cons_succ, List.getElem_cons_zero, Act.put, List.setIfInBounds_toArray, List.set_cons_zero, List.set_cons_succ]
    refine wpAnyH_take (i := 9) (v := ?_) rfl (by kernel_rfl) (by kernel_rfl) (by kernel_rfl) (fun _ _ _ h => h) (Or.inl ⟨by rfl, ?_⟩) (by assumption) ?_
    rotate_left
    · intro w hSw
      (try dsimp only at hSw)
      first | (go_simp; done) | (go_simp; with_reducible rfl)
    try simp only [List.getElem_toArray, List.getElem_cons_succ, List.getElem_cons_zero, Act.put, List.setIfInBounds_toArray, List.set_cons_zero, List.set_cons_succ]
    refine wpAnyH_take (i := 10) (v := ?_) rfl (by kernel_rfl) (by kernel_rfl) (by kernel_rfl) (fun _ _ _ h => h) (Or.inl ⟨by rfl, ?_⟩) (by assumption) ?_
    rotate_left
    · intro w hSw
      (try dsimp only at hSw)
      first | (go_simp; done) | (go_simp; with_reducible rfl)
    try simp only [List.getElem_toArray, List.getElem_cons_succ, List.getElem_cons_zero, Act.put, List.setIfInBounds_toArray, List.set_cons_zero, List.set_cons_succ]
    refine wpAnyH_take (i := 11) (v := ?_) rfl (by kernel_rfl) (by kernel_rfl) (by kernel_rfl) (fun _ _ _ h => h) (Or.inl ⟨by rfl, ?_⟩) (by assumption) ?_
    rotate_left
    · intro w hSw
      (try dsimp only at hSw)
      first | (go_simp; done) | (go_simp; with_reducible rfl)
    try simp only [List.getElem_toArray, List.getElem_cons_succ, List.getElem_cons_zero, Act.put, List.setIfInBounds_toArray, List.set_cons_zero, List.set_cons_succ]
    refine wpAnyH_ready (rs := [12]) (by kernel_rfl) (by simp) ?_
    refine AllReadyH.cons rfl (fun K hK => ?_) AllReadyH.nil
    go_simp
    (go_at_call 53; refine (refArrive_any e.b e.id e.x e.G t.v p _ ((H.out.flows e hm).below (Below.refl _ _).drew) hok).mono ?_; rintro e2 w2 ⟨rfl, hp2⟩)
    refine hK.out _ _ ?_ (fun hHeld => ?_)
    · exact ⟨(hp2.2.cell (by exact Nat.lt_of_lt_of_le (hF b H0.out.hb) hb1.size) hnb).trans c0, (hp2.2.cell (by exact Nat.lt_of_lt_of_le (hF b H0.out.hb) hb1.size) hnb).trans c1, (hp2.2.cell (by exact hgl) hng).trans cg, (hp2.2.cell (by exact hlt) hnp).trans p0, (hp2.2.cell (by exact hlt) hnp).trans p1, (hp2.2.cell (by exact hlt) hnp).trans p2⟩
    clear hK K
    try simp only [List.getElem_toArray, List.getElem_cons_succ, List.getElem_cons_zero, Act.put, List.setIfInBounds_toArray, List.set_cons_zero, List.set_cons_succ]
    refine wpAnyH_take (i := 13) (v := ?_) rfl (by kernel_rfl) (by kernel_rfl) (by kernel_rfl) (fun _ _ _ h => h) (Or.inl ⟨by rfl, ?_⟩) (by assumption) ?_
    rotate_left
    · intro w hSw
      (try dsimp only at hSw)
      first | (go_simp; done) | (go_simp; with_reducible rfl)
    try simp only [List.getElem_toArray, List.getElem_cons_succ, List.getElem_cons_zero, Act.put, List.setIfInBounds_toArray, List.set_cons_zero, List.set_cons_succ]
    refine wpAnyH_done (by kernel_rfl) ?_ _
    obtain ⟨hR, hF2⟩ := (H.out.below (Below.refl _ _).drew).turned hm hp2 (FlS.arrive_ok hok hv hp)
    have hfin : RfsPost b { t with fs := setF (l.map FlR.pl) p.flow (e.x.arrive t.v p) } F w w2 := by
      rw [hid] at hR
      exact ⟨⟨_, setR_pl _ _ _ _, hR.mono (fun k hk => hk.imp id fun hk => ⟨Nat.le_trans hb1.size hk.1, hk.2⟩) (hF.ext (Nat.le_trans hb1.size hF2.size))⟩, Fr.after_below hb1.drew hF2⟩
    clear hR hF2 hp2 hHeld
    cases hfu : e.x.full
    · go_wp2
      go_ret
      exact ⟨by rw [← hR9, hfu]; rfl, by simpa only [hl] using hfin⟩
    · go_wp2
      go_ret
      exact ⟨by rw [← hR9, hfu]; rfl, by simpa only [hl] using hfin⟩
  · have hg := posR_none hpos
    have hA1 : atR l p.flow = -1 := by unfold atR; rw [if_neg hpos]
    rw [hA1] at hA
    rw [hg]
    clear h h1 hpos hA1 hg
    simp only [Option.map_none]
    go_enter Try.func36, Try.ntmps36
    go_wp2_with fail
    refine hA.mono ?_
    rintro e' w' ⟨rfl, rfl⟩
    go_wp2
    go_ret
    exact ⟨rfl, RfsAt.still ⟨l, hl, H0.out⟩ hb1⟩
end Go.Proofs.Ytfgfjnlkgadkhaa
