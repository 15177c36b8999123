/- A set of flows as plain data; a flow added, taken away; a packet comes. -/
import Derived.Test.YtfgfjnlkgadkhaaSfq
import Derived.Deep.CutRange
import Derived.Deep.RegionHeld3
namespace Go.Proofs.Ytfgfjnlkgadkhaa
set_option linter.unusedVariables false
set_option linter.unusedSimpArgs false
set_option maxRecDepth 20000
open Go.RowKit Go.Proofs.YtfgfjnlkgadkhaaMem Go.Proofs.YtfgfjnlkgadkhaaMapK

/-- Flows as plain data: the virtual time, the greatest finish, the flows by their numbers. -/
structure SfS where
  v : Int
  most : Int
  fs : List (Int × FlS)
structure SfS.Ok (s : SfS) : Prop where
  v : W64 s.v
  most : W64 s.most
  ids : ∀ e ∈ s.fs, I64 e.1
  fs : ∀ e ∈ s.fs, e.2.Ok
def SfS.new : SfS := ⟨0, 0, []⟩
def getF (fs : List (Int × FlS)) (id : Int) : Option FlS := (fs.find? fun e => decide (e.1 = id)).map (·.2)
def SfS.add (s : SfS) (id r most : Int) : SfS := if (getF s.fs id).isSome then s else { s with fs := s.fs ++ [(id, FlS.new r most)] }
def setF (fs : List (Int × FlS)) (id : Int) (x : FlS) : List (Int × FlS) := fs.map fun e => if e.1 = id then (id, x) else e
def SfS.arrive (s : SfS) (p : Pk) : SfS := match getF s.fs p.flow with | none => s | some x => { s with fs := setF s.fs p.flow (x.arrive s.v p) }
def SfS.arriveE (s : SfS) (p : Pk) : Int := match getF s.fs p.flow with | none => 5 | some x => if x.full then 9 else 0
def SfS.remove (s : SfS) (id : Int) : SfS := match getF s.fs id with | none => s | some x => if x.l = [] then { s with fs := s.fs.filter fun e => decide (e.1 ≠ id) } else s
def SfS.removeE (s : SfS) (id : Int) : Int := match getF s.fs id with | none => 5 | some x => if x.l = [] then 0 else 8

def FlR.pl (e : FlR) : Int × FlS := (e.id, e.x)
theorem getF_pl (l : List FlR) (id : Int) : getF (l.map FlR.pl) id = (getR l id).map (·.x) := by
  unfold getF getR
  induction l with
  | nil => rfl
  | cons e l ih =>
    simp only [List.map_cons, List.find?_cons]
    by_cases h : e.id = id
    · simp [FlR.pl, h]
    · have h1 : decide (e.pl.1 = id) = false := decide_eq_false h
      have h2 : decide (e.id = id) = false := decide_eq_false h
      rw [h1, h2]; exact ih
/-- The flows at block b. -/
def SfsAt (w : World) (b : Nat) (s : SfS) (F : Nat → Prop) : Prop := ∃ mb l, l.map FlR.pl = s.fs ∧ SfqR w b mb s.v s.most l F
theorem SfsAt.fr {w w' : World} {b : Nat} {s : SfS} {F S : Nat → Prop} (h : SfsAt w b s F) (hf : Fr S w w') (hn : ∀ k, F k → ¬ S k) : SfsAt w' b s F := let ⟨mb, l, e, h⟩ := h; ⟨mb, l, e, h.fr hf hn⟩
theorem SfsAt.below {w w' : World} {b : Nat} {s : SfS} {F : Nat → Prop} (h : SfsAt w b s F) (hb : Below w.heap.size w w') : SfsAt w' b s F := let ⟨mb, l, e, h⟩ := h; ⟨mb, l, e, h.below hb⟩
theorem SfsAt.lt {w : World} {b : Nat} {s : SfS} {F : Nat → Prop} (h : SfsAt w b s F) : Lt F w := let ⟨_, _, _, h⟩ := h; h.lt
def SfsPost (b : Nat) (s : SfS) (F : Nat → Prop) (w w' : World) : Prop := SfsAt w' b s (Ext F w w') ∧ Fr F w w'
theorem SfsAt.still {w w' : World} {b : Nat} {s : SfS} {F : Nat → Prop} (h : SfsAt w b s F) (hb : Below w.heap.size w w') : SfsPost b s F w w' := by
  obtain ⟨mb, l, e, h⟩ := h
  exact ⟨⟨mb, l, e, (h.below hb).mono (fun k hk => .inl hk) (h.lt.ext hb.size)⟩, Fr.of_below hb⟩

theorem newS_any (w : World) : Calls Try.prog 29 #[] w (MkPost (fun w' b F => SfsAt w' b SfS.new F) w) :=
  by
  refine (sfqNew_any w).mono ?_
  rintro e w' ⟨b, h1, ⟨mb, h2⟩, h3⟩
  exact ⟨b, h1, ⟨mb, [], rfl, h2⟩, h3⟩

/-- A flow was made and laid into the map. -/
theorem SfqR.added {w w1 w2 : World} {b mb c : Nat} {v most id : Int} {x : FlS} {l : List FlR} {F : Nat → Prop} (h : SfqR w b mb v most l F) (hn : getR l id = none) (hx : x.Ok)
    (h1 : FlowAt w1 c x fun k => w.heap.size ≤ k ∧ k < w1.heap.size) (hb : Below w.heap.size w w1) (hm : IsMapAt w2 mb (Value.int .i64) (putM (l.map FlR.ent) id (.pointer (some ⟨c, 0, none⟩)))) (hg : w1.grownBy w2 (some mb)) :
    SfqR w2 b mb v most (l ++ [⟨id, c, x, fun k => w.heap.size ≤ k ∧ k < w1.heap.size⟩]) (Ext F w w2) ∧ Fr F w w2 := by
  have hF1 : Fr F w w1 := Fr.of_below hb
  have hF2 : Fr F w w2 := hF1.grown hg fun k e => by cases e; exact .inl h.hm
  have hG : Fr (fun k => k = mb) w1 w2 := (Fr.refl _ w1).grown hg fun k e => by cases e; exact .inl rfl
  have hs := hg.size
  have hlt := h.lt mb h.hm
  have he : putM (l.map FlR.ent) id (.pointer (some ⟨c, 0, none⟩)) = (l ++ [FlR.mk id c x fun k => w.heap.size ≤ k ∧ k < w1.heap.size]).map FlR.ent := by
    have : getM (l.map FlR.ent) id = none := by rw [getM_ent, hn]; rfl
    unfold putM
    rw [this, List.map_append]; rfl
  have hb1 := h.below hb
  refine ⟨{ blk := hb1.blk.grown hg (by intro e; cases e; exact h.ne rfl), map := he ▸ hm, flows := ?_, hb := .inl h.hb, hm := .inl h.hm, ne := h.ne, sub := ?_, disj := ?_, lt := h.lt.ext (Nat.le_trans hb.size hs), ok := ?_ }, hF2⟩
  · intro e he
    rcases List.mem_append.1 he with he | he
    · exact (hb1.flows e he).fr hG fun k hk e' => (h.sub e he k hk).2.2 e'
    · simp only [List.mem_singleton] at he
      subst he
      exact h1.fr hG fun k hk e' => by subst e'; omega
  · intro e he k hk
    rcases List.mem_append.1 he with he | he
    · exact ⟨.inl (h.sub e he k hk).1, (h.sub e he k hk).2⟩
    · simp only [List.mem_singleton] at he
      subst he
      simp only at hk
      refine ⟨.inr ⟨hk.1, by omega⟩, ?_, by omega⟩
      have := h.lt b h.hb
      omega
  · rw [List.pairwise_append]
    refine ⟨h.disj, by simp, fun e he e' he' k hk hk' => ?_⟩
    simp only [List.mem_singleton] at he'
    subst he'
    have := h.lt k (h.sub e he k hk).1
    simp only at hk'
    omega
  · intro e he
    rcases List.mem_append.1 he with he | he
    · exact h.ok e he
    · simp only [List.mem_singleton] at he
      subst he; exact hx

theorem under_mapF : Try.prog.underlying 83 = some (.map 3 90) := Try.underlying83
theorem zero_ptrF (w : World) : (zeroValue 90).run Try.prog w = .ok (.pointer none) w := by
  have := Try.underlying90
  rfl
theorem SfqR.look {w : World} {b mb : Nat} {v most : Int} {l : List FlR} {F : Nat → Prop} (h : SfqR w b mb v most l F) (id : Int) :
    (Instr.lookup 83 (.map (some mb)) (.int .i64 id) false).run Try.prog w = .ok (.pointer ((getR l id).map fun e => ⟨e.b, 0, none⟩)) w := by
  have := run_lookup intKey under_mapF (zero_ptrF w) h.map id
  rw [getM_ent] at this
  rw [this]
  cases getR l id <;> rfl

set_option maxHeartbeats 1000000 in
theorem addS_any (b : Nat) (s : SfS) (F : Nat → Prop) (id r most : Int) (w : World) (h : SfsAt w b s F) (hr : W64 r) :
    Calls Try.prog 41 #[.pointer (some ⟨b, 0, none⟩), .int .i64 id, .int .u64 r, .int .i64 most] w fun e w' => e = .returned (.bool (!(getF s.fs id).isSome)) ∧ SfsPost b (s.add id r most) F w w' := by
  obtain ⟨mb, l, hl, h⟩ := h
  have c0 := h.blk.cell 0
  have hbl := h.blk.lt
  have hlk := h.look id
  simp only [List.getElem?_cons_succ, List.getElem?_cons_zero] at c0
  unfold SfS.add
  rw [← hl, getF_pl]
  cases hg : getR l id with
  | some e =>
    rw [hg] at hlk
    have H := Lib.hid h
    clear h
    simp only [Option.map_some] at hlk
    go_enter Try.func41, Try.ntmps41
    go_wp2
    go_ret
    exact ⟨rfl, SfsAt.still ⟨mb, l, hl, H.out⟩ (Below.refl _ _)⟩
  | none =>
    rw [hg] at hlk
    simp only [Option.map_none] at hlk
    have H := Lib.hid h
    clear h
    go_enter Try.func41, Try.ntmps41
    go_upto_region 3 with fail
    refine wp_region_held_drew (S := (fun w' => w'.cell? ⟨b, 0, none⟩ = some (.map (some mb)))) (by kernel_rfl) ?_ (fun hHeld => ?_)
    · exact c0
    refine wpAnyH_take (i := 0) (v := ?_) rfl (by kernel_rfl) (by kernel_rfl) (by kernel_rfl) (fun _ _ _ h => h) (Or.inl ⟨by rfl, ?_⟩) (by assumption) ?_
    rotate_left
    · intro w hSw
      (try dsimp only at hSw)
      first | (go_simp; done) | (go_simp; with_reducible rfl)
    try simp only [List.getElem_toArray, List.getElem_cons_succ, List.getElem_cons_zero, Act.put, List.setIfInBounds_toArray, List.set_cons_zero, List.set_cons_succ]
    refine wpAnyH_take (i := 1) (v := ?_) rfl (by kernel_rfl) (by kernel_rfl) (by kernel_rfl) (fun _ _ _ h => h) (Or.inl ⟨by rfl, ?_⟩) (by assumption) ?_
    rotate_left
    · intro w hSw
      (try dsimp only at hSw)
      first | (go_simp; done) | (go_simp; with_reducible rfl)
    try simp only [List.getElem_toArray, List.getElem_cons_succ, List.getElem_cons_zero, Act.put, List.setIfInBounds_toArray, List.set_cons_zero, List.set_cons_succ]
    refine wpAnyH_take (i := 2) (v := ?_) rfl (by kernel_rfl) (by kernel_rfl) (by kernel_rfl) (fun _ _ _ h => h) (Or.inl ⟨by rfl, ?_⟩) (by assumption) ?_
    rotate_left
    · intro w hSw
      (try dsimp only at hSw)
      first | (go_simp; done) | (go_simp; with_reducible rfl)
    try simp only [List.getElem_toArray, List.getElem_cons_succ, List.getElem_cons_zero, Act.put, List.setIfInBounds_toArray, List.set_cons_zero, List.set_cons_succ]
    refine wpAnyH_take (i := 3) (v := ?_) rfl (by kernel_rfl) (by kernel_rfl) (by kernel_rfl) (fun _ _ _ h => h) (Or.inl ⟨by rfl, ?_⟩) (by assumption) ?_
    rotate_left
    · intro w hSw
      (try dsimp only at hSw)
      first | (go_simp; done) | (go_simp; with_reducible rfl)
    try simp only [List.getElem_toArray, List.getElem_cons_succ, List.getElem_cons_zero, Act.put, List.setIfInBounds_toArray, List.set_cons_zero, List.set_cons_succ]
    refine wpAnyH_take (i := 4) (v := ?_) rfl (by kernel_rfl) (by kernel_rfl) (by kernel_rfl) (fun _ _ _ h => h) (Or.inl ⟨by rfl, ?_⟩) (by assumption) ?_
    rotate_left
    · intro w hSw
      (try dsimp only at hSw)
      first | (go_simp; done) | (go_simp; with_reducible rfl)
    try simp only [List.getElem_toArray, List.getElem_cons_succ, List.getElem_cons_zero, Act.put, List.setIfInBounds_toArray, List.set_cons_zero, List.set_cons_succ]
    refine wpAnyH_take (i := 5) (v := ?_) rfl (by kernel_rfl) (by kernel_rfl) (by kernel_rfl) (fun _ _ _ h => h) (Or.inl ⟨by rfl, ?_⟩) (by assumption) ?_
    rotate_left
    · intro w hSw
      (try dsimp only at hSw)
      first | (go_simp; done) | (go_simp; with_reducible rfl)
    try simp only [List.getElem_toArray, List.getElem_cons_succ, List.getElem_cons_zero, Act.put, List.setIfInBounds_toArray, List.set_cons_zero, List.set_cons_succ]
    refine wpAnyH_take (i := 6) (v := ?_) rfl (by kernel_rfl) (by kernel_rfl) (by kernel_rfl) (fun _ _ _ h => h) (Or.inl ⟨by rfl, ?_⟩) (by assumption) ?_
    rotate_left
    · intro w hSw
      (try dsimp only at hSw)
      first | (go_simp; done) | (go_simp; with_reducible rfl)
    try simp only [List.getElem_toArray, List.getElem_cons_succ, List.getElem_cons_zero, Act.put, List.setIfInBounds_toArray, List.set_cons_zero, List.set_cons_succ]
    refine wpAnyH_ready (rs := [7]) (by kernel_rfl) (by simp) ?_
    refine AllReadyH.cons rfl (fun K hK => ?_) AllReadyH.nil
    go_simp
    (go_at_call 55; refine (new_any r most _).mono ?_; rintro e w1 ⟨c, rfl, hf1, hb1⟩; replace hb1 := (Below.refl w.heap.size w).drew.trans hb1)
    refine hK.out _ _ ?_ (fun hHeld => ?_)
    · first | exact (hb1.cell hbl).trans c0 | exact hS2
    clear hK K
    try simp only [List.getElem_toArray, List.getElem_cons_succ, List.getElem_cons_zero, Act.put, List.setIfInBounds_toArray, List.set_cons_zero, List.set_cons_succ]
    refine wpAnyH_ready (rs := [8]) (by kernel_rfl) (by simp) ?_
    refine AllReadyH.cons rfl (fun K hK => ?_) AllReadyH.nil
    (refine step_updateK rfl _ _ _ rfl intKey under_mapF id (.pointer (some ⟨c, 0, none⟩)) rfl rfl rfl (H.out.below hb1).map ?_; intro w2 hm2 hg2; obtain ⟨hR, hF⟩ := H.out.added hg (FlS.new_ok hr) hf1 hb1 hm2 hg2; have hS2 := hR.blk.cell 0)
    refine hK.out _ _ ?_ (fun hHeld => ?_)
    · first | exact (hb1.cell hbl).trans c0 | exact hS2
    clear hK K
    try simp only [List.getElem_toArray, List.getElem_cons_succ, List.getElem_cons_zero, Act.put, List.setIfInBounds_toArray, List.set_cons_zero, List.set_cons_succ]
    refine wpAnyH_done (by kernel_rfl) ?_ _
    go_wp2
    go_ret
    exact ⟨rfl, ⟨mb, _, by rw [List.map_append, hl]; rfl, hR⟩, hF⟩
end Go.Proofs.Ytfgfjnlkgadkhaa
