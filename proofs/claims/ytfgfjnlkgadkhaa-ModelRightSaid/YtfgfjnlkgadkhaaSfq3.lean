/- A set of flows: one flow turned, one taken away; a packet comes. -/
import Derived.Test.YtfgfjnlkgadkhaaSfq2
namespace Go.Proofs.Ytfgfjnlkgadkhaa
set_option linter.unusedVariables false
set_option linter.unusedSimpArgs false
set_option maxRecDepth 20000
open Go.RowKit Go.Proofs.YtfgfjnlkgadkhaaMem Go.Proofs.YtfgfjnlkgadkhaaMapK

def setR (l : List FlR) (id : Int) (x : FlS) (G : Nat → Prop) : List FlR := l.map fun e => if e.id = id then ⟨e.id, e.b, x, G⟩ else e
theorem setR_ent (l : List FlR) (id : Int) (x : FlS) (G : Nat → Prop) : (setR l id x G).map FlR.ent = l.map FlR.ent := by
  unfold setR
  rw [List.map_map]
  refine List.map_congr_left fun e _ => ?_
  simp only [Function.comp]
  split <;> rfl
theorem setR_pl (l : List FlR) (id : Int) (x : FlS) (G : Nat → Prop) : (setR l id x G).map FlR.pl = setF (l.map FlR.pl) id x := by
  unfold setR setF
  rw [List.map_map, List.map_map]
  refine List.map_congr_left fun e _ => ?_
  simp only [Function.comp]
  by_cases h : e.id = id
  · simp [FlR.pl, h]
  · simp [FlR.pl, h]
theorem setR_mem {l : List FlR} {id : Int} {x : FlS} {G : Nat → Prop} {e : FlR} (h : e ∈ setR l id x G) : (∃ e0 ∈ l, e0.id = id ∧ e = ⟨e0.id, e0.b, x, G⟩) ∨ (e ∈ l ∧ e.id ≠ id) := by
  unfold setR at h
  obtain ⟨e0, h1, h2⟩ := List.mem_map.1 h
  by_cases hi : e0.id = id
  · rw [if_pos hi] at h2; exact .inl ⟨e0, h1, hi, h2.symm⟩
  · rw [if_neg hi] at h2; subst h2; exact .inr ⟨h1, hi⟩
theorem SfqR.apart {w : World} {b mb : Nat} {v most : Int} {l : List FlR} {F : Nat → Prop} (h : SfqR w b mb v most l F) {e e' : FlR} (he : e ∈ l) (he' : e' ∈ l) (hi : e.id ≠ e'.id) : ∀ k, e.G k → ¬ e'.G k := by
  have : ∀ {l : List FlR}, l.Pairwise (fun e e' => ∀ k, e.G k → ¬ e'.G k) → ∀ e e', e ∈ l → e' ∈ l → e.id ≠ e'.id → ∀ k, e.G k → ¬ e'.G k := by
    intro l hp
    induction hp with
    | nil => intro e e' h; cases h
    | @cons a l h1 h2 ih =>
      intro e e' he he' hi k hk hk'
      rcases List.mem_cons.1 he with h3 | h3 <;> rcases List.mem_cons.1 he' with h4 | h4
      · rw [h3, h4] at hi; exact hi rfl
      · rw [h3] at hk; exact h1 e' h4 k hk hk'
      · rw [h4] at hk'; exact h1 e h3 k hk' hk
      · exact ih e e' h3 h4 hi k hk hk'
  exact this h.disj e e' he he' hi
theorem SfqR.same {w : World} {b mb : Nat} {v most : Int} {l : List FlR} {F : Nat → Prop} (h : SfqR w b mb v most l F) {e e' : FlR} (he : e ∈ l) (he' : e' ∈ l) (hi : e.id = e'.id) : e = e' := by
  have : ∀ {l : List FlR}, (l.map (·.id)).Nodup → ∀ e e', e ∈ l → e' ∈ l → e.id = e'.id → e = e' := by
    intro l
    induction l with
    | nil => intro _ e e' h; cases h
    | cons a l ih =>
      intro hn e e' he he' hi
      simp only [List.map_cons, List.nodup_cons] at hn
      rcases List.mem_cons.1 he with h3 | h3 <;> rcases List.mem_cons.1 he' with h4 | h4
      · rw [h3, h4]
      · rw [h3] at hi; exact absurd (List.mem_map.2 ⟨e', h4, hi.symm⟩) hn.1
      · rw [h4] at hi; exact absurd (List.mem_map.2 ⟨e, h3, hi⟩) hn.1
      · exact ih hn.2 e e' h3 h4 hi
  exact this h.ids e e' he he' hi
/-- One flow was turned. -/
theorem SfqR.turned {w w' : World} {b mb : Nat} {v most : Int} {l : List FlR} {F : Nat → Prop} (h : SfqR w b mb v most l F) {e : FlR} (he : e ∈ l) {x : FlS} (hp : FlowPost e.b x e.G w w') (hx : x.Ok) :
    SfqR w' b mb v most (setR l e.id x (Ext e.G w w')) (Ext F w w') ∧ Fr F w w' := by
  obtain ⟨hp, hf⟩ := hp
  have hF : Fr F w w' := hf.mono fun k _ hk => (h.sub e he k hk).1
  have hbn : ¬ e.G b := fun hk => (h.sub e he b hk).2.1 rfl
  have hmn : ¬ e.G mb := fun hk => (h.sub e he mb hk).2.2 rfl
  have hbl := h.lt b h.hb
  have hml := h.lt mb h.hm
  refine ⟨{ blk := h.blk.fr hf hbn, map := ?_, flows := ?_, hb := .inl h.hb, hm := .inl h.hm, ne := h.ne, sub := ?_, disj := ?_, lt := h.lt.ext hf.size, ok := ?_ }, hF⟩
  · rw [setR_ent]; exact h.map.of_eq (hf.block mb hml hmn)
  · intro e1 h1
    rcases setR_mem h1 with ⟨e0, h0, hi, rfl⟩ | ⟨h0, hi⟩
    · obtain rfl := h.same h0 he hi
      exact hp
    · exact (h.flows e1 h0).fr hf fun k hk hk' => h.apart h0 he hi k hk hk'
  · intro e1 h1 k hk
    rcases setR_mem h1 with ⟨e0, h0, hi, rfl⟩ | ⟨h0, hi⟩
    · rcases hk with hk | hk
      · exact ⟨.inl (h.sub e he k hk).1, (h.sub e he k hk).2⟩
      · exact ⟨.inr hk, by omega, by omega⟩
    · exact ⟨.inl (h.sub e1 h0 k hk).1, (h.sub e1 h0 k hk).2⟩
  · have hap : ∀ e1 ∈ l, e1.id ≠ e.id → ∀ k, e1.G k → ¬ Ext e.G w w' k := by
      intro e1 h1 hi k hk hk'
      rcases hk' with hk' | hk'
      · exact h.apart h1 he hi k hk hk'
      · have := h.lt k (h.sub e1 h1 k hk).1; omega
    have hids := h.ids
    have hd := h.disj
    unfold setR
    rw [List.pairwise_map]
    have hid2 : l.Pairwise fun a c => a.id ≠ c.id := by
      rw [List.Nodup, List.pairwise_map] at hids; exact hids
    have := (hd.and hid2)
    refine List.Pairwise.imp_of_mem ?_ this
    rintro a c ha hc ⟨h1, h2⟩
    by_cases ha' : a.id = e.id
    · have hc' : c.id ≠ e.id := fun e' => h2 (ha'.trans e'.symm)
      rw [if_pos ha', if_neg hc']
      exact fun k hk hk' => hap c hc hc' k hk' hk
    · rw [if_neg ha']
      by_cases hc' : c.id = e.id
      · rw [if_pos hc']
        exact hap a ha ha'
      · rw [if_neg hc']; exact h1
  · intro e1 h1
    rcases setR_mem h1 with ⟨e0, h0, hi, rfl⟩ | ⟨h0, hi⟩
    · exact hx
    · exact h.ok e1 h0
/-- One flow was taken away. -/
theorem SfqR.dropped {w w' : World} {b mb : Nat} {v most : Int} {l : List FlR} {F : Nat → Prop} (h : SfqR w b mb v most l F) {id : Int} (hm : IsMapAt w' mb (Value.int .i64) (delM (l.map FlR.ent) id)) (hg : w.grownBy w' (some mb)) :
    SfqR w' b mb v most (l.filter fun e => decide (e.id ≠ id)) (Ext F w w') ∧ Fr F w w' := by
  have hF : Fr F w w' := (Fr.refl F w).grown hg fun k e => by cases e; exact .inl h.hm
  have hG : Fr (fun k => k = mb) w w' := (Fr.refl _ w).grown hg fun k e => by cases e; exact .inl rfl
  have hd : delM (l.map FlR.ent) id = (l.filter fun e => decide (e.id ≠ id)).map FlR.ent := by
    unfold delM
    rw [List.filter_map]
    rfl
  refine ⟨{ blk := h.blk.grown hg (by intro e; cases e; exact h.ne rfl), map := hd ▸ hm, flows := ?_, hb := .inl h.hb, hm := .inl h.hm, ne := h.ne, sub := ?_, disj := h.disj.sublist List.filter_sublist, lt := h.lt.ext hg.size, ok := ?_ }, hF⟩
  · exact fun e he => (h.flows e ((List.mem_filter.1 he).1)).fr hG fun k hk e' => (h.sub e ((List.mem_filter.1 he).1) k hk).2.2 e'
  · exact fun e he k hk => ⟨.inl (h.sub e ((List.mem_filter.1 he).1) k hk).1, (h.sub e ((List.mem_filter.1 he).1) k hk).2⟩
  · exact fun e he => h.ok e ((List.mem_filter.1 he).1)

set_option maxHeartbeats 1000000 in
theorem removeS_any (b : Nat) (s : SfS) (F : Nat → Prop) (id : Int) (w : World) (h : SfsAt w b s F) :
    Calls Try.prog 42 #[.pointer (some ⟨b, 0, none⟩), .int .i64 id] w fun e w' => e = .returned (.int .i64 (s.removeE id)) ∧ SfsPost b (s.remove id) F w w' := by
  obtain ⟨mb, l, hl, h⟩ := h
  have c0 := h.blk.cell 0
  have hbl := h.blk.lt
  have hlk := h.look id
  simp only [List.getElem?_cons_succ, List.getElem?_cons_zero] at c0
  unfold SfS.remove SfS.removeE
  rw [← hl, getF_pl]
  have H := Lib.hid h
  cases hg : getR l id with
  | none =>
    rw [hg] at hlk
    clear h
    simp only [Option.map_none] at hlk ⊢
    go_enter Try.func42, Try.ntmps42
    go_wp2
    go_ret
    exact ⟨rfl, SfsAt.still ⟨mb, l, hl, H.out⟩ (Below.refl _ _)⟩
  | some e =>
    rw [hg] at hlk
    obtain ⟨hm, hid⟩ := getR_some hg
    have hfl := h.flows e hm
    clear h
    simp only [Option.map_some] at hlk ⊢
    by_cases hx : e.x.l = []
    · have h0 : e.x.l.length = 0 := by rw [hx]; rfl
      rw [if_pos hx, if_pos hx]
      go_enter Try.func42, Try.ntmps42
      go_wp2_with fail
      refine (len_any _ _ _ _ hfl).mono ?_
      rintro e w' ⟨rfl, rfl⟩
      rw [h0]
      obtain ⟨w2, hrun, hm2, hg2⟩ := run_delete intKey under_mapF 0 H.out.map id
      obtain ⟨hR, hF⟩ := H.out.dropped hm2 hg2
      go_wp2
      go_ret
      refine ⟨rfl, ⟨mb, _, ?_, hR⟩, hF⟩
      show _ = (l.map FlR.pl).filter _
      rw [List.filter_map]; rfl
    · have h0 : 0 < e.x.l.length := List.length_pos_iff.2 hx
      have h1 : decide ((e.x.l.length : Int) > 0) = true := decide_eq_true (by omega)
      have h2 : decide ((0 : Int) < e.x.l.length) = true := decide_eq_true (by omega)
      rw [if_neg hx, if_neg hx]
      go_enter Try.func42, Try.ntmps42
      go_wp2_with fail
      refine (len_any _ _ _ _ hfl).mono ?_
      rintro e w' ⟨rfl, rfl⟩
      go_wp2
      go_ret
      exact ⟨rfl, SfsAt.still ⟨mb, l, hl, H.out⟩ (Below.refl _ _)⟩

set_option maxHeartbeats 1000000 in
theorem arriveS_any (b : Nat) (s : SfS) (F : Nat → Prop) (p : Pk) (w : World) (h : SfsAt w b s F) (ok : s.Ok) (hp : p.Ok) :
    Calls Try.prog 43 #[.pointer (some ⟨b, 0, none⟩), .agg #[.int .i64 p.flow, .int .i64 p.len, .int .i64 p.mark]] w fun e w' => e = .returned (.int .i64 (s.arriveE p)) ∧ SfsPost b (s.arrive p) F w w' := by
  obtain ⟨mb, l, hl, h⟩ := h
  have c0 := h.blk.cell 0
  have c1 := h.blk.cell 1
  have hbl := h.blk.lt
  have hv := ok.v
  simp only [List.getElem?_cons_succ, List.getElem?_cons_zero] at c0 c1
  unfold SfS.arrive SfS.arriveE
  rw [← hl, getF_pl]
  have hb1 := below1 w (.cells #[.int .i64 p.flow, .int .i64 p.len, .int .i64 p.mark] 55)
  have h1 := h.below hb1
  have hlk := h1.look p.flow
  have c0 := (hb1.cell (p := ⟨b, 0, none⟩) hbl).trans c0
  have c1 := (hb1.cell (p := ⟨b, 1, none⟩) hbl).trans c1
  generalize hW1 : w.alloc (.cells #[.int .i64 p.flow, .int .i64 p.len, .int .i64 p.mark] 55) = w1 at *
  have cp : ∀ i, i < 3 → w1.cell? ⟨w.heap.size, i, none⟩ = p.cells[i]? := fun i hi => by
    rw [← hW1]; exact (Blk.new w p.cells 55).cell i
  have p0 := cp 0 (by omega)
  have p1 := cp 1 (by omega)
  have p2 := cp 2 (by omega)
  simp only [Pk.cells, List.getElem?_cons_succ, List.getElem?_cons_zero] at p0 p1 p2
  clear cp
  cases hg : getR l p.flow with
  | none =>
    rw [hg] at hlk
    have H := Lib.hid h
    clear h h1
    simp only [Option.map_none] at hlk ⊢
    go_enter Try.func43, Try.ntmps43
    go_upto_region 1 with fail
    refine wp_region_held_drew (S := (fun w' => w'.cell? ⟨b, 0, none⟩ = some (.map (some mb)) ∧ w'.cell? ⟨w.heap.size, 0, none⟩ = some (.int .i64 p.flow) ∧ (Instr.lookup 83 (.map (some mb)) (.int .i64 p.flow) false).run Try.prog w' = .ok (.pointer none) w')) (by kernel_rfl) ?_ (fun hHeld => ?_)
    · exact ⟨c0, p0, ((H.out.below hb1.drew).look p.flow).trans (by rw [hg]; rfl)⟩
    refine wpAnyH_take (i := 0) (v := ?_) rfl (by kernel_rfl) (by kernel_rfl) (by kernel_rfl) (fun _ _ _ h => h) (Or.inl ⟨by rfl, ?_⟩) (by assumption) ?_
    rotate_left
    · intro w hSw
      (try dsimp only at hSw)
      first | (go_simp; done) | (go_simp; with_reducible rfl)
    try simp only [List.getElem_toArray, List.getElem_cons_succ, List.getElem_cons_zero, Act.put, List.setIfInBounds_toArray, List.set_cons_zero, List.set_cons_succ]
    refine wpAnyH_take (i := 1) (v := ?_) rfl (by kernel_rfl) (by kernel_rfl) (by kernel_rfl) (fun _ _ _ h => h) (Or.inl ⟨by rfl, ?_⟩) (by assumption) ?_
    rotate_left
    · intro w hSw
      (try dsimp only at hSw)
      first | (go_simp; done) | (go_simp; with_reducible rfl)
    try simp only [List.getElem_toArray, List.getElem_cons_succ, List.getElem_cons_zero, Act.put, List.setIfInBounds_toArray, List.set_cons_zero, List.set_cons_succ]
    refine wpAnyH_take (i := 2) (v := ?_) rfl (by kernel_rfl) (by kernel_rfl) (by kernel_rfl) (fun _ _ _ h => h) (Or.inl ⟨by rfl, ?_⟩) (by assumption) ?_
    rotate_left
    · intro w hSw
      (try dsimp only at hSw)
      first | (go_simp; done) | (go_simp; with_reducible rfl)
    try simp only [List.getElem_toArray, List.getElem_cons_succ, List.getElem_cons_zero, Act.put, List.setIfInBounds_toArray, List.set_cons_zero, List.set_cons_succ]
    refine wpAnyH_take (i := 3) (v := ?_) rfl (by kernel_rfl) (by kernel_rfl) (by kernel_rfl) (fun _ _ _ h => h) (Or.inl ⟨by rfl, ?_⟩) (by assumption) ?_
    rotate_left
    · intro w hSw
      (try dsimp only at hSw)
      first | (go_simp; done) | (go_simp; with_reducible rfl)
    try simp only [List.getElem_toArray, List.getElem_cons_succ, List.getElem_cons_zero, Act.put, List.setIfInBounds_toArray, List.set_cons_zero, List.set_cons_succ]
    refine wpAnyH_take (i := 4) (v := ?_) rfl (by kernel_rfl) (by kernel_rfl) (by kernel_rfl) (fun _ _ _ h => h) (Or.inl ⟨by rfl, ?_⟩) (by assumption) ?_
    rotate_left
    · intro w hSw
      (try dsimp only at hSw)
      first | (go_simp; done) | (go_simp; with_reducible rfl)
    try simp only [List.getElem_toArray, List.getElem_cons_succ, List.getElem_cons_zero, Act.put, List.setIfInBounds_toArray, List.set_cons_zero, List.set_cons_succ]
    refine wpAnyH_take (i := 5) (v := ?_) rfl (by kernel_rfl) (by kernel_rfl) (by kernel_rfl) (fun _ _ _ h => h) (Or.inl ⟨by rfl, ?_⟩) (by assumption) ?_
    rotate_left
    · intro w hSw
      (try dsimp only at hSw)
      first | (go_simp; done) | (go_simp; with_reducible rfl)
    try simp only [List.getElem_toArray, List.getElem_cons_succ, List.getElem_cons_zero, Act.put, List.setIfInBounds_toArray, List.set_cons_zero, List.set_cons_succ]
    refine wpAnyH_take (i := 6) (v := ?_) rfl (by kernel_rfl) (by kernel_rfl) (by kernel_rfl) (fun _ _ _ h => h) (Or.inl ⟨by rfl, ?_⟩) (by assumption) ?_
    rotate_left
    · intro w hSw
      (try dsimp only at hSw)
      first | (go_simp; done) | (go_simp; with_reducible rfl)
    try simp only [List.getElem_toArray, List.getElem_cons_succ, List.getElem_cons_zero, Act.put, List.setIfInBounds_toArray, List.set_cons_zero, List.set_cons_succ]
    refine wpAnyH_take (i := 7) (v := ?_) rfl (by kernel_rfl) (by kernel_rfl) (by kernel_rfl) (fun _ _ _ h => h) (Or.inl ⟨by rfl, ?_⟩) (by assumption) ?_
    rotate_left
    · intro w hSw
      (try dsimp only at hSw)
      first | (go_simp; done) | (go_simp; with_reducible rfl)
    try simp only [List.getElem_toArray, List.getElem_cons_succ, List.getElem_cons_zero, Act.put, List.setIfInBounds_toArray, List.set_cons_zero, List.set_cons_succ]
    refine wpAnyH_done (by kernel_rfl) ?_ _
    go_wp2
    go_ret
    exact ⟨rfl, SfsAt.still ⟨mb, l, hl, H.out⟩ hb1.drew⟩
  | some e =>
    rw [hg] at hlk
    obtain ⟨hm, hid⟩ := getR_some hg
    have hfl := h1.flows e hm
    have hok := h.ok e hm
    have H := Lib.hid h1
    have hnG : ¬ e.G b := fun hk => (h.sub e hm b hk).2.1 rfl
    have hnG2 : ¬ e.G w.heap.size := fun hk => by have := h.lt _ (h.sub e hm _ hk).1; omega
    have hF := h.lt
    clear h h1
    simp only [Option.map_some] at hlk ⊢
    generalize hR9 : (if e.x.full = true then (9 : Int) else 0) = R9
    go_enter Try.func43, Try.ntmps43
    go_upto_region 1 with fail
    refine wp_region_held_drew (S := (fun w' => w'.cell? ⟨b, 0, none⟩ = some (.map (some mb)) ∧ w'.cell? ⟨w.heap.size, 0, none⟩ = some (.int .i64 p.flow) ∧ (Instr.lookup 83 (.map (some mb)) (.int .i64 p.flow) false).run Try.prog w' = .ok (.pointer (some ⟨e.b, 0, none⟩)) w')) (by kernel_rfl) ?_ (fun hHeld => ?_)
    · exact ⟨c0, p0, ((H.out.below (Below.refl _ _).drew).look p.flow).trans (by rw [hg]; rfl)⟩
    refine wpAnyH_take (i := 0) (v := ?_) rfl (by kernel_rfl) (by kernel_rfl) (by kernel_rfl) (fun _ _ _ h => h) (Or.inl ⟨by rfl, ?_⟩) (by assumption) ?_
    rotate_left
    · intro w hSw
      (try dsimp only at hSw)
      first | (go_simp; done) | (go_simp; with_reducible rfl)
    try simp only [List.getElem_toArray, List.getElem_cons_succ, List.getElem_cons_zero, Act.put, List.setIfInBounds_toArray, List.set_cons_zero, List.set_cons_succ]
    refine wpAnyH_take (i := 1) (v := ?_) rfl (by kernel_rfl) (by kernel_rfl) (by kernel_rfl) (fun _ _ _ h => h) (Or.inl ⟨by rfl, ?_⟩) (by assumption) ?_
    rotate_left
    · intro w hSw
      (try dsimp only at hSw)
      first | (go_simp; done) | (go_simp; with_reducible rfl)
    try simp only [List.getElem_toArray, List.getElem_cons_succ, List.getElem_cons_zero, Act.put, List.setIfInBounds_toArray, List.set_cons_zero, List.set_cons_succ]
    refine wpAnyH_take (i := 2) (v := ?_) rfl (by kernel_rfl) (by kernel_rfl) (by kernel_rfl) (fun _ _ _ h => h) (Or.inl ⟨by rfl, ?_⟩) (by assumption) ?_
    rotate_left
    · intro w hSw
      (try dsimp only at hSw)
      first | (go_simp; done) | (go_simp; with_reducible rfl)
    try simp only [List.getElem_toArray, List.getElem_cons_succ, List.getElem_cons_zero, Act.put, List.setIfInBounds_toArray, List.set_cons_zero, List.set_cons_succ]
    refine wpAnyH_take (i := 3) (v := ?_) rfl (by kernel_rfl) (by kernel_rfl) (by kernel_rfl) (fun _ _ _ h => h) (Or.inl ⟨by rfl, ?_⟩) (by assumption) ?_
    rotate_left
    · intro w hSw
      (try dsimp only at hSw)
      first | (go_simp; done) | (go_simp; with_reducible rfl)
    try simp only [List.getElem_toArray, List.getElem_cons_succ, List.getElem_cons_zero, Act.put, List.setIfInBounds_toArray, List.set_cons_zero, List.set_cons_succ]
    refine wpAnyH_take (i := 4) (v := ?_) rfl (by kernel_rfl) (by kernel_rfl) (by kernel_rfl) (fun _ _ _ h => h) (Or.inl ⟨by rfl, ?_⟩) (by assumption) ?_
    rotate_left
    · intro w hSw
      (try dsimp only at hSw)
      first | (go_simp; done) | (go_simp; with_reducible rfl)
    try simp only [List.getElem_toArray, List.getElem_cons_succ, List.getElem_cons_zero, Act.put, List.setIfInBounds_toArray, List.set_cons_zero, List.set_cons_succ]
    refine wpAnyH_take (i := 5) (v := ?_) rfl (by kernel_rfl) (by kernel_rfl) (by kernel_rfl) (fun _ _ _ h => h) (Or.inl ⟨by rfl, ?_⟩) (by assumption) ?_
    rotate_left
    · intro w hSw
      (try dsimp only at hSw)
      first | (go_simp; done) | (go_simp; with_reducible rfl)
    try simp only [List.getElem_toArray, List.getElem_cons_succ, List.getElem_cons_zero, Act.put, List.setIfInBounds_toArray, List.set_cons_zero, List.set_cons_succ]
    refine wpAnyH_take (i := 6) (v := ?_) rfl (by kernel_rfl) (by kernel_rfl) (by kernel_rfl) (fun _ _ _ h => h) (Or.inl ⟨by rfl, ?_⟩) (by assumption) ?_
    rotate_left
    · intro w hSw
      (try dsimp only at hSw)
      first | (go_simp; done) | (go_simp; with_reducible rfl)
    try simp only [List.getElem_toArray, List.getElem_cons_succ, List.getElem_cons_zero, Act.put, List.setIfInBounds_toArray, List.set_cons_zero, List.set_cons_succ]
    refine wpAnyH_take (i := 7) (v := ?_) rfl (by kernel_rfl) (by kernel_rfl) (by kernel_rfl) (fun _ _ _ h => h) (Or.inl ⟨by rfl, ?_⟩) (by assumption) ?_
    rotate_left
    · intro w hSw
      (try dsimp only at hSw)
      first | (go_simp; done) | (go_simp; with_reducible rfl)
    try simp only [List.getElem_toArray, List.getElem_cons_succ, List.getElem_cons_zero, Act.put, List.setIfInBounds_toArray, List.set_cons_zero, List.set_cons_succ]
    refine wpAnyH_done (by kernel_rfl) ?_ _
    clear hHeld
    have hW : Below w.heap.size w w1.drew := hb1.drew
    have H2 := Lib.hid (H.out.below (Below.refl _ _).drew)
    have c1 : w1.drew.cell? ⟨b, 1, none⟩ = some (.int .u64 s.v) := c1
    have p0 : w1.drew.cell? ⟨w.heap.size, 0, none⟩ = some (.int .i64 p.flow) := p0
    have p1 : w1.drew.cell? ⟨w.heap.size, 1, none⟩ = some (.int .i64 p.len) := p1
    have p2 : w1.drew.cell? ⟨w.heap.size, 2, none⟩ = some (.int .i64 p.mark) := p2
    have hlt : w.heap.size < w1.drew.heap.size := by rw [← hW1]; simp [World.drew]
    generalize w1.drew = W at *
    clear hb1 H hfl hlk hW1
    go_upto_region 4 with fail
    refine wp_region_held_drew (S := (fun w' => w'.cell? ⟨b, 1, none⟩ = some (.int .u64 s.v) ∧ w'.cell? ⟨w.heap.size, 0, none⟩ = some (.int .i64 p.flow) ∧ w'.cell? ⟨w.heap.size, 1, none⟩ = some (.int .i64 p.len) ∧ w'.cell? ⟨w.heap.size, 2, none⟩ = some (.int .i64 p.mark))) (by kernel_rfl) ?_ (fun hHeld => ?_)
    · exact ⟨c1, p0, p1, p2⟩
    refine wpAnyH_take (i := 0) (v := ?_) rfl (by kernel_rfl) (by kernel_rfl) (by kernel_rfl) (fun _ _ _ h => h) (Or.inl ⟨by rfl, ?_⟩) (by assumption) ?_
    rotate_left
    · intro w hSw
      (try dsimp only at hSw)
      first | (go_simp; done) | (go_simp; with_reducible rfl)
    try simp only [List.getElem_toArray, List.getElem_cons_succ, List.getElem_cons_zero, Act.put, List.setIfInBounds_toArray, List.set_cons_zero, List.set_cons_succ]
    refine wpAnyH_take (i := 1) (v := ?_) rfl (by kernel_rfl) (by kernel_rfl) (by kernel_rfl) (fun _ _ _ h => h) (Or.inl ⟨by rfl, ?_⟩) (by assumption) ?_
    rotate_left
    · intro w hSw
      (try dsimp only at hSw)
      first | (go_simp; done) | (go_simp; with_reducible rfl)
    try simp only [List.getElem_toArray, List.getElem_cons_succ, List.getElem_cons_zero, Act.put, List.setIfInBounds_toArray, List.set_cons_zero, List.set_cons_succ]
    refine wpAnyH_take (i := 2) (v := ?_) rfl (by kernel_rfl) (by kernel_rfl) (by kernel_rfl) (fun _ _ _ h => h) (Or.inl ⟨by rfl, ?_⟩) (by assumption) ?_
    rotate_left
    · intro w hSw
      (try dsimp only at hSw)
      first | (go_simp; done) | (go_simp; with_reducible rfl)
    try simp only [List.getElem_toArray, List.getElem_cons_succ, List.getElem_cons_zero, Act.put, List.setIfInBounds_toArray, List.set_cons_zero, List.set_cons_succ]
    refine wpAnyH_take (i := 3) (v := ?_) rfl (by kernel_rfl) (by kernel_rfl) (by kernel_rfl) (fun _ _ _ h => h) (Or.inl ⟨by rfl, ?_⟩) (by assumption) ?_
    rotate_left
    · intro w hSw
      (try dsimp only at hSw)
      first | (go_simp; done) | (go_simp; with_reducible rfl)
    try simp only [List.getElem_toArray, List.getElem_cons_succ, List.getElem_cons_zero, Act.put, List.setIfInBounds_toArray, List.set_cons_zero, List.set_cons_succ]
    refine wpAnyH_take (i := 4) (v := ?_) rfl (by kernel_rfl) (by kernel_rfl) (by kernel_rfl) (fun _ _ _ h => h) (Or.inl ⟨by rfl, ?_⟩) (by assumption) ?_
    rotate_left
    · intro w hSw
      (try dsimp only at hSw)
      first | (go_simp; done) | (go_simp; with_reducible rfl)
    try simp only [List.getElem_toArray, List.getElem_cons_succ, List.getElem_cons_zero, Act.put, List.setIfInBounds_toArray, List.set_cons_zero, List.set_cons_succ]
    refine wpAnyH_take (i := 5) (v := ?_) rfl (by kernel_rfl) (by kernel_rfl) (by kernel_rfl) (fun _ _ _ h => h) (Or.inl ⟨by rfl, ?_⟩) (by assumption) ?_
    rotate_left
    · intro w hSw
      (try dsimp only at hSw)
      first | (go_simp; done) | (go_simp; with_reducible rfl)
    try simp only [List.getElem_toArray, List.getElem_cons_succ, List.getElem_cons_zero, Act.put, List.setIfInBounds_toArray, List.set_cons_zero, List.set_cons_succ]
    refine wpAnyH_ready (rs := [6]) (by kernel_rfl) (by simp) ?_
    refine AllReadyH.cons rfl (fun K hK => ?_) AllReadyH.nil
    go_simp
    (go_at_call 57; refine (arrive_any _ _ e.G _ p _ ((H2.out.flows e hm).below (Below.refl _ _).drew) hok).mono ?_; rintro e2 w2 ⟨rfl, hp2⟩)
    refine hK.out _ _ ?_ (fun hHeld => ?_)
    · exact ⟨(hp2.2.cell (Nat.lt_of_lt_of_le hbl hW.size) hnG).trans c1, (hp2.2.cell hlt hnG2).trans p0, (hp2.2.cell hlt hnG2).trans p1, (hp2.2.cell hlt hnG2).trans p2⟩
    clear hK K
    try simp only [List.getElem_toArray, List.getElem_cons_succ, List.getElem_cons_zero, Act.put, List.setIfInBounds_toArray, List.set_cons_zero, List.set_cons_succ]
    refine wpAnyH_take (i := 7) (v := ?_) rfl (by kernel_rfl) (by kernel_rfl) (by kernel_rfl) (fun _ _ _ h => h) (Or.inl ⟨by rfl, ?_⟩) (by assumption) ?_
    rotate_left
    · intro w hSw
      (try dsimp only at hSw)
      first | (go_simp; done) | (go_simp; with_reducible rfl)
    try simp only [List.getElem_toArray, List.getElem_cons_succ, List.getElem_cons_zero, Act.put, List.setIfInBounds_toArray, List.set_cons_zero, List.set_cons_succ]
    refine wpAnyH_take (i := 8) (v := ?_) rfl (by kernel_rfl) (by kernel_rfl) (by kernel_rfl) (fun _ _ _ h => h) (Or.inl ⟨by rfl, ?_⟩) (by assumption) ?_
    rotate_left
    · intro w hSw
      (try dsimp only at hSw)
      first | (go_simp; done) | (go_simp; with_reducible rfl)
    try simp only [List.getElem_toArray, List.getElem_cons_succ, List.getElem_cons_zero, Act.put, List.setIfInBounds_toArray, List.set_cons_zero, List.set_cons_succ]
    refine wpAnyH_done (by kernel_rfl) ?_ _
    obtain ⟨hR, hF2⟩ := (H2.out.below (Below.refl _ _).drew).turned hm hp2 (FlS.arrive_ok hok hv hp)
    have hfin : SfsPost b { s with fs := setF (l.map FlR.pl) p.flow (e.x.arrive s.v p) } F w w2 := by
      rw [hid] at hR
      exact ⟨⟨mb, _, setR_pl _ _ _ _, hR.mono (fun k hk => hk.imp id fun hk => ⟨Nat.le_trans hW.size hk.1, hk.2⟩) (hF.ext (Nat.le_trans hW.size hF2.size))⟩, Fr.after_below hW.drew hF2⟩
    clear hR hF2 hp2 hHeld
    cases hfu : e.x.full
    · go_wp2
      go_ret
      exact ⟨by rw [← hR9, hfu]; rfl, by simpa only [hl] using hfin⟩
    · go_wp2
      go_ret
      exact ⟨by rw [← hR9, hfu]; rfl, by simpa only [hl] using hfin⟩
end Go.Proofs.Ytfgfjnlkgadkhaa
