/- Several texts in one: Sfq Sfq2 Sfq3 Sfq4 Sfq5 Sfq6 Sfq7 Sfq8 Sfq9. -/
import Derived.Test.YtdjooacjjnjfmaaGreatGb
import Derived.Test.YtdjooacjjnjfmaaGreatGa
import Derived.Deep.CutRange
import Derived.Deep.RegionHeld3
import Derived.Deep.RegionWith
-- A set of flows of the program (sfq), as it lies in memory and as plain data; making one, what it tells.
section
namespace Go.Proofs.YtdjooacjjnjfmaaGreat
set_option linter.unusedVariables false
set_option linter.unusedSimpArgs false
set_option maxRecDepth 20000
open Go.RowKit Go.Proofs.YtdjooacjjnjfmaaGreatMem Go.Proofs.YtdjooacjjnjfmaaGreatMapK

/-- A flow in the map: its number, its block, what it is, the blocks that are its own. -/
structure FlR where
  id : Int
  b : Nat
  x : FlS
  G : Nat → Prop
def FlR.ent (e : FlR) : Int × Value := (e.id, .pointer (some ⟨e.b, 0, none⟩))
def getR (l : List FlR) (id : Int) : Option FlR := l.find? fun e => decide (e.id = id)
theorem getR_none {l : List FlR} {id : Int} : getR l id = none ↔ ∀ e ∈ l, e.id ≠ id := by simp [getR]
theorem getR_some {l : List FlR} {id : Int} {e : FlR} (h : getR l id = some e) : e ∈ l ∧ e.id = id :=
  ⟨List.mem_of_find?_eq_some h, by simpa using List.find?_some h⟩
theorem getM_ent (l : List FlR) (id : Int) : getM (l.map FlR.ent) id = (getR l id).map fun e => .pointer (some ⟨e.b, 0, none⟩) := by
  induction l with
  | nil => rfl
  | cons e l ih =>
    simp only [getM, getR, List.map_cons, List.find?_cons] at ih ⊢
    by_cases h : e.id = id
    · simp [FlR.ent, h]
    · have h1 : decide (e.ent.1 = id) = false := decide_eq_false h
      have h2 : decide (e.id = id) = false := decide_eq_false h
      rw [h1, h2]; exact ih

structure SfqR (w : World) (b mb : Nat) (v most : Int) (l : List FlR) (F : Nat → Prop) : Prop where
  blk : Blk w b [.map (some mb), .int .u64 v, .int .u64 most] 138
  map : IsMapAt w mb (Value.int .i64) (l.map FlR.ent)
  flows : ∀ e ∈ l, FlowAt w e.b e.x e.G
  hb : F b
  hm : F mb
  ne : b ≠ mb
  sub : ∀ e ∈ l, ∀ k, e.G k → F k ∧ k ≠ b ∧ k ≠ mb
  disj : l.Pairwise fun e e' => ∀ k, e.G k → ¬ e'.G k
  lt : Lt F w
  ok : ∀ e ∈ l, e.x.Ok
/-- The flows at block b, with the virtual time and the greatest finish. -/
def SfqAt (w : World) (b : Nat) (v most : Int) (l : List FlR) (F : Nat → Prop) : Prop := ∃ mb, SfqR w b mb v most l F
theorem SfqR.fr {w w' : World} {b mb : Nat} {v most : Int} {l : List FlR} {F S : Nat → Prop} (h : SfqR w b mb v most l F) (hf : Fr S w w') (hn : ∀ k, F k → ¬ S k) : SfqR w' b mb v most l F :=
  ⟨h.blk.fr hf (hn b h.hb), h.map.of_eq (hf.block mb (h.lt mb h.hm) (hn mb h.hm)), fun e he => (h.flows e he).fr hf fun k hk => hn k (h.sub e he k hk).1, h.hb, h.hm, h.ne, h.sub, h.disj, h.lt.mono hf.size, h.ok⟩
theorem SfqR.below {w w' : World} {b mb : Nat} {v most : Int} {l : List FlR} {F : Nat → Prop} (h : SfqR w b mb v most l F) (hb : Below w.heap.size w w') : SfqR w' b mb v most l F :=
  h.fr (Fr.of_below (S := fun _ => False) hb) fun _ _ f => f
theorem SfqAt.below {w w' : World} {b : Nat} {v most : Int} {l : List FlR} {F : Nat → Prop} (h : SfqAt w b v most l F) (hb : Below w.heap.size w w') : SfqAt w' b v most l F := let ⟨mb, h⟩ := h; ⟨mb, h.below hb⟩
theorem SfqAt.fr {w w' : World} {b : Nat} {v most : Int} {l : List FlR} {F S : Nat → Prop} (h : SfqAt w b v most l F) (hf : Fr S w w') (hn : ∀ k, F k → ¬ S k) : SfqAt w' b v most l F := let ⟨mb, h⟩ := h; ⟨mb, h.fr hf hn⟩
theorem SfqR.ids {w : World} {b mb : Nat} {v most : Int} {l : List FlR} {F : Nat → Prop} (h : SfqR w b mb v most l F) : (l.map (·.id)).Nodup := by
  obtain ⟨es, clock, hm⟩ := h.map
  have := hm.keys
  simpa [FlR.ent, Function.comp_def] using this
/-- Behind a call that may change it. -/
def SfqPost (b : Nat) (v most : Int) (l : List FlR) (F : Nat → Prop) (w w' : World) : Prop := SfqAt w' b v most l (Ext F w w') ∧ Fr F w w'
theorem SfqR.mono {w : World} {b mb : Nat} {v most : Int} {l : List FlR} {F G : Nat → Prop} (h : SfqR w b mb v most l F) (hF : ∀ k, F k → G k) (hG : Lt G w) : SfqR w b mb v most l G :=
  ⟨h.blk, h.map, h.flows, hF b h.hb, hF mb h.hm, h.ne, fun e he k hk => ⟨hF k (h.sub e he k hk).1, (h.sub e he k hk).2⟩, h.disj, hG, h.ok⟩
theorem SfqAt.still {w w' : World} {b : Nat} {v most : Int} {l : List FlR} {F : Nat → Prop} (h : SfqAt w b v most l F) (hb : Below w.heap.size w w') : SfqPost b v most l F w w' := by
  obtain ⟨mb, h⟩ := h
  exact ⟨⟨mb, (h.below hb).mono (fun k hk => .inl hk) (h.lt.ext hb.size)⟩, Fr.of_below hb⟩

set_option maxHeartbeats 400000 in
theorem sfqNew_any (w : World) : Calls Tryz.prog 61 #[] w (MkPost (fun w' b F => SfqAt w' b 0 0 [] F) w) := by
  go_enter Tryz.func61, Tryz.ntmps61
  have hmm : (Instr.makeMap 136 none).run Tryz.prog w = .ok (.map (some w.heap.size)) (w.alloc (.map #[] 0)) := rfl
  go_wp2
  go_ret
  have e : (w.alloc (.map #[] 0)).heap.size = w.heap.size + 1 := by simp
  refine ⟨w.heap.size + 1, rfl, ⟨w.heap.size, ?_⟩, ((Below.refl w.heap.size w).alloc (Nat.le_refl _) _).alloc (by simp) _⟩
  have hb := Blk.new (w.alloc (.map #[] 0)) [.map (some w.heap.size), .int .u64 0, .int .u64 0] 138
  rw [e] at hb
  refine { blk := hb, map := (IsMapAt.made w _).of_eq ?_, flows := fun e he => (by cases he), hb := ?_, hm := ?_, ne := by omega, sub := fun e he => (by cases he), disj := List.Pairwise.nil, lt := fun k hk => hk.2, ok := fun e he => (by cases he) }
  · exact heap_alloc_old _ _ (by simp)
  · simp
  · simp; omega

set_option maxHeartbeats 400000 in
theorem sfqV_any (b : Nat) (v most : Int) (l : List FlR) (F : Nat → Prop) (w : World) (h : SfqAt w b v most l F) :
    Calls Tryz.prog 103 #[.pointer (some ⟨b, 0, none⟩)] w fun e w' => e = .returned (.int .u64 v) ∧ w = w' := by
  obtain ⟨mb, h⟩ := h
  have c := h.blk.cell 1
  have hl := h.blk.lt
  simp only [List.getElem?_cons_succ, List.getElem?_cons_zero] at c
  clear h
  go_enter Tryz.func103, Tryz.ntmps103
  go_wp2
  go_ret
  exact ⟨rfl, rfl⟩
end Go.Proofs.YtdjooacjjnjfmaaGreat
end

-- A set of flows as plain data; a flow added, taken away; a packet comes.
section
namespace Go.Proofs.YtdjooacjjnjfmaaGreat
set_option linter.unusedVariables false
set_option linter.unusedSimpArgs false
set_option maxRecDepth 20000
open Go.RowKit Go.Proofs.YtdjooacjjnjfmaaGreatMem Go.Proofs.YtdjooacjjnjfmaaGreatMapK

/-- Flows as plain data: the virtual time, the greatest finish, the flows by their numbers. -/
structure SfS where
  v : Int
  most : Int
  fs : List (Int × FlS)
structure SfS.Ok (s : SfS) : Prop where
  v : W64 s.v
  most : W64 s.most
  ids : ∀ e ∈ s.fs, I64 e.1
  fs : ∀ e ∈ s.fs, e.2.Ok
def SfS.new : SfS := ⟨0, 0, []⟩
def getF (fs : List (Int × FlS)) (id : Int) : Option FlS := (fs.find? fun e => decide (e.1 = id)).map (·.2)
def SfS.add (s : SfS) (id r most : Int) : SfS := if (getF s.fs id).isSome then s else { s with fs := s.fs ++ [(id, FlS.new r most)] }
def setF (fs : List (Int × FlS)) (id : Int) (x : FlS) : List (Int × FlS) := fs.map fun e => if e.1 = id then (id, x) else e
def SfS.arrive (s : SfS) (p : Pk) : SfS := match getF s.fs p.flow with | none => s | some x => { s with fs := setF s.fs p.flow (x.arrive s.v p) }
def SfS.arriveE (s : SfS) (p : Pk) : Int := match getF s.fs p.flow with | none => 5 | some x => if x.full then 9 else 0
def SfS.remove (s : SfS) (id : Int) : SfS := match getF s.fs id with | none => s | some x => if x.l = [] then { s with fs := s.fs.filter fun e => decide (e.1 ≠ id) } else s
def SfS.removeE (s : SfS) (id : Int) : Int := match getF s.fs id with | none => 5 | some x => if x.l = [] then 0 else 8

def FlR.pl (e : FlR) : Int × FlS := (e.id, e.x)
theorem getF_pl (l : List FlR) (id : Int) : getF (l.map FlR.pl) id = (getR l id).map (·.x) := by
  unfold getF getR
  induction l with
  | nil => rfl
  | cons e l ih =>
    simp only [List.map_cons, List.find?_cons]
    by_cases h : e.id = id
    · simp [FlR.pl, h]
    · have h1 : decide (e.pl.1 = id) = false := decide_eq_false h
      have h2 : decide (e.id = id) = false := decide_eq_false h
      rw [h1, h2]; exact ih
/-- The flows at block b. -/
def SfsAt (w : World) (b : Nat) (s : SfS) (F : Nat → Prop) : Prop := ∃ mb l, l.map FlR.pl = s.fs ∧ SfqR w b mb s.v s.most l F
theorem SfsAt.fr {w w' : World} {b : Nat} {s : SfS} {F S : Nat → Prop} (h : SfsAt w b s F) (hf : Fr S w w') (hn : ∀ k, F k → ¬ S k) : SfsAt w' b s F := let ⟨mb, l, e, h⟩ := h; ⟨mb, l, e, h.fr hf hn⟩
theorem SfsAt.below {w w' : World} {b : Nat} {s : SfS} {F : Nat → Prop} (h : SfsAt w b s F) (hb : Below w.heap.size w w') : SfsAt w' b s F := let ⟨mb, l, e, h⟩ := h; ⟨mb, l, e, h.below hb⟩
theorem SfsAt.lt {w : World} {b : Nat} {s : SfS} {F : Nat → Prop} (h : SfsAt w b s F) : Lt F w := let ⟨_, _, _, h⟩ := h; h.lt
def SfsPost (b : Nat) (s : SfS) (F : Nat → Prop) (w w' : World) : Prop := SfsAt w' b s (Ext F w w') ∧ Fr F w w'
theorem SfsAt.still {w w' : World} {b : Nat} {s : SfS} {F : Nat → Prop} (h : SfsAt w b s F) (hb : Below w.heap.size w w') : SfsPost b s F w w' := by
  obtain ⟨mb, l, e, h⟩ := h
  exact ⟨⟨mb, l, e, (h.below hb).mono (fun k hk => .inl hk) (h.lt.ext hb.size)⟩, Fr.of_below hb⟩

theorem newS_any (w : World) : Calls Tryz.prog 61 #[] w (MkPost (fun w' b F => SfsAt w' b SfS.new F) w) :=
  by
  refine (sfqNew_any w).mono ?_
  rintro e w' ⟨b, h1, ⟨mb, h2⟩, h3⟩
  exact ⟨b, h1, ⟨mb, [], rfl, h2⟩, h3⟩

/-- A flow was made and laid into the map. -/
theorem SfqR.added {w w1 w2 : World} {b mb c : Nat} {v most id : Int} {x : FlS} {l : List FlR} {F : Nat → Prop} (h : SfqR w b mb v most l F) (hn : getR l id = none) (hx : x.Ok)
    (h1 : FlowAt w1 c x fun k => w.heap.size ≤ k ∧ k < w1.heap.size) (hb : Below w.heap.size w w1) (hm : IsMapAt w2 mb (Value.int .i64) (putM (l.map FlR.ent) id (.pointer (some ⟨c, 0, none⟩)))) (hg : w1.grownBy w2 (some mb)) :
    SfqR w2 b mb v most (l ++ [⟨id, c, x, fun k => w.heap.size ≤ k ∧ k < w1.heap.size⟩]) (Ext F w w2) ∧ Fr F w w2 := by
  have hF1 : Fr F w w1 := Fr.of_below hb
  have hF2 : Fr F w w2 := hF1.grown hg fun k e => by cases e; exact .inl h.hm
  have hG : Fr (fun k => k = mb) w1 w2 := (Fr.refl _ w1).grown hg fun k e => by cases e; exact .inl rfl
  have hs := hg.size
  have hlt := h.lt mb h.hm
  have he : putM (l.map FlR.ent) id (.pointer (some ⟨c, 0, none⟩)) = (l ++ [FlR.mk id c x fun k => w.heap.size ≤ k ∧ k < w1.heap.size]).map FlR.ent := by
    have : getM (l.map FlR.ent) id = none := by rw [getM_ent, hn]; rfl
    unfold putM
    rw [this, List.map_append]; rfl
  have hb1 := h.below hb
  refine ⟨{ blk := hb1.blk.grown hg (by intro e; cases e; exact h.ne rfl), map := he ▸ hm, flows := ?_, hb := .inl h.hb, hm := .inl h.hm, ne := h.ne, sub := ?_, disj := ?_, lt := h.lt.ext (Nat.le_trans hb.size hs), ok := ?_ }, hF2⟩
  · intro e he
    rcases List.mem_append.1 he with he | he
    · exact (hb1.flows e he).fr hG fun k hk e' => (h.sub e he k hk).2.2 e'
    · simp only [List.mem_singleton] at he
      subst he
      exact h1.fr hG fun k hk e' => by subst e'; omega
  · intro e he k hk
    rcases List.mem_append.1 he with he | he
    · exact ⟨.inl (h.sub e he k hk).1, (h.sub e he k hk).2⟩
    · simp only [List.mem_singleton] at he
      subst he
      simp only at hk
      refine ⟨.inr ⟨hk.1, by omega⟩, ?_, by omega⟩
      have := h.lt b h.hb
      omega
  · rw [List.pairwise_append]
    refine ⟨h.disj, by simp, fun e he e' he' k hk hk' => ?_⟩
    simp only [List.mem_singleton] at he'
    subst he'
    have := h.lt k (h.sub e he k hk).1
    simp only at hk'
    omega
  · intro e he
    rcases List.mem_append.1 he with he | he
    · exact h.ok e he
    · simp only [List.mem_singleton] at he
      subst he; exact hx

theorem under_mapF : Tryz.prog.underlying 136 = some (.map 3 153) := Tryz.underlying136
theorem zero_ptrF (w : World) : (zeroValue 153).run Tryz.prog w = .ok (.pointer none) w := by
  have := Tryz.underlying153
  rfl
theorem SfqR.look {w : World} {b mb : Nat} {v most : Int} {l : List FlR} {F : Nat → Prop} (h : SfqR w b mb v most l F) (id : Int) :
    (Instr.lookup 136 (.map (some mb)) (.int .i64 id) false).run Tryz.prog w = .ok (.pointer ((getR l id).map fun e => ⟨e.b, 0, none⟩)) w := by
  have := run_lookup intKey under_mapF (zero_ptrF w) h.map id
  rw [getM_ent] at this
  rw [this]
  cases getR l id <;> rfl

set_option maxHeartbeats 1000000 in
theorem addS_any (b : Nat) (s : SfS) (F : Nat → Prop) (id r most : Int) (w : World) (h : SfsAt w b s F) (hr : W64 r) :
    Calls Tryz.prog 99 #[.pointer (some ⟨b, 0, none⟩), .int .i64 id, .int .u64 r, .int .i64 most] w fun e w' => e = .returned (.bool (!(getF s.fs id).isSome)) ∧ SfsPost b (s.add id r most) F w w' := by
  obtain ⟨mb, l, hl, h⟩ := h
  have c0 := h.blk.cell 0
  have hbl := h.blk.lt
  have hlk := h.look id
  simp only [List.getElem?_cons_succ, List.getElem?_cons_zero] at c0
  unfold SfS.add
  rw [← hl, getF_pl]
  cases hg : getR l id with
  | some e =>
    rw [hg] at hlk
    have H := Lib.hid h
    clear h
    simp only [Option.map_some] at hlk
    go_enter Tryz.func99, Tryz.ntmps99
    go_wp2
    go_ret
    exact ⟨rfl, SfsAt.still ⟨mb, l, hl, H.out⟩ (Below.refl _ _)⟩
  | none =>
    rw [hg] at hlk
    simp only [Option.map_none] at hlk
    have H := Lib.hid h
    clear h
    go_enter Tryz.func99, Tryz.ntmps99
    go_upto_region 3 with fail
    refine wp_region_held_drew (S := (fun w' => w'.cell? ⟨b, 0, none⟩ = some (.map (some mb)))) (by kernel_rfl) ?_ (fun hHeld => ?_)
    · exact c0
    refine wpAnyH_take (i := 0) (v := ?_) rfl (by kernel_rfl) (by kernel_rfl) (by kernel_rfl) (fun _ _ _ h => h) (Or.inl ⟨by rfl, ?_⟩) (by assumption) ?_
    rotate_left
    · intro w hSw
      (try dsimp only at hSw)
      first | (go_simp; done) | (go_simp; with_reducible rfl)
    try simp only [List.getElem_toArray, List.getElem_cons_succ, List.getElem_cons_zero, Act.put, List.setIfInBounds_toArray, List.set_cons_zero, List.set_cons_succ]
    refine wpAnyH_take (i := 1) (v := ?_) rfl (by kernel_rfl) (by kernel_rfl) (by kernel_rfl) (fun _ _ _ h => h) (Or.inl ⟨by rfl, ?_⟩) (by assumption) ?_
    rotate_left
    · intro w hSw
      (try dsimp only at hSw)
      first | (go_simp; done) | (go_simp; with_reducible rfl)
    try simp only [List.getElem_toArray, List.getElem_cons_succ, List.getElem_cons_zero, Act.put, List.setIfInBounds_toArray, List.set_cons_zero, List.set_cons_succ]
    refine wpAnyH_take (i := 2) (v := ?_) rfl (by kernel_rfl) (by kernel_rfl) (by kernel_rfl) (fun _ _ _ h => h) (Or.inl ⟨by rfl, ?_⟩) (by assumption) ?_
    rotate_left
    · intro w hSw
      (try dsimp only at hSw)
      first | (go_simp; done) | (go_simp; with_reducible rfl)
    try simp only [List.getElem_toArray, List.getElem_cons_succ, List.getElem_cons_zero, Act.put, List.setIfInBounds_toArray, List.set_cons_zero, List.set_cons_succ]
    refine wpAnyH_take (i := 3) (v := ?_) rfl (by kernel_rfl) (by kernel_rfl) (by kernel_rfl) (fun _ _ _ h => h) (Or.inl ⟨by rfl, ?_⟩) (by assumption) ?_
    rotate_left
    · intro w hSw
      (try dsimp only at hSw)
      first | (go_simp; done) | (go_simp; with_reducible rfl)
    try simp only [List.getElem_toArray, List.getElem_cons_succ, List.getElem_cons_zero, Act.put, List.setIfInBounds_toArray, List.set_cons_zero, List.set_cons_succ]
    refine wpAnyH_take (i := 4) (v := ?_) rfl (by kernel_rfl) (by kernel_rfl) (by kernel_rfl) (fun _ _ _ h => h) (Or.inl ⟨by rfl, ?_⟩) (by assumption) ?_
    rotate_left
    · intro w hSw
      (try dsimp only at hSw)
      first | (go_simp; done) | (go_simp; with_reducible rfl)
    try simp only [List.getElem_toArray, List.getElem_cons_succ, List.getElem_cons_zero, Act.put, List.setIfInBounds_toArray, List.set_cons_zero, List.set_cons_succ]
    refine wpAnyH_take (i := 5) (v := ?_) rfl (by kernel_rfl) (by kernel_rfl) (by kernel_rfl) (fun _ _ _ h => h) (Or.inl ⟨by rfl, ?_⟩) (by assumption) ?_
    rotate_left
    · intro w hSw
      (try dsimp only at hSw)
      first | (go_simp; done) | (go_simp; with_reducible rfl)
    try simp only [List.getElem_toArray, List.getElem_cons_succ, List.getElem_cons_zero, Act.put, List.setIfInBounds_toArray, List.set_cons_zero, List.set_cons_succ]
    refine wpAnyH_take (i := 6) (v := ?_) rfl (by kernel_rfl) (by kernel_rfl) (by kernel_rfl) (fun _ _ _ h => h) (Or.inl ⟨by rfl, ?_⟩) (by assumption) ?_
    rotate_left
    · intro w hSw
      (try dsimp only at hSw)
      first | (go_simp; done) | (go_simp; with_reducible rfl)
    try simp only [List.getElem_toArray, List.getElem_cons_succ, List.getElem_cons_zero, Act.put, List.setIfInBounds_toArray, List.set_cons_zero, List.set_cons_succ]
    refine wpAnyH_ready (rs := [7]) (by kernel_rfl) (by simp) ?_
    refine AllReadyH.cons rfl (fun K hK => ?_) AllReadyH.nil
    go_simp
    (go_at_call 115; refine (new_any r most _).mono ?_; rintro e w1 ⟨c, rfl, hf1, hb1⟩; replace hb1 := (Below.refl w.heap.size w).drew.trans hb1)
    refine hK.out _ _ ?_ (fun hHeld => ?_)
    · first | exact (hb1.cell hbl).trans c0 | exact hS2
    clear hK K
    try simp only [List.getElem_toArray, List.getElem_cons_succ, List.getElem_cons_zero, Act.put, List.setIfInBounds_toArray, List.set_cons_zero, List.set_cons_succ]
    refine wpAnyH_ready (rs := [8]) (by kernel_rfl) (by simp) ?_
    refine AllReadyH.cons rfl (fun K hK => ?_) AllReadyH.nil
    (refine step_updateK rfl _ _ _ rfl intKey under_mapF id (.pointer (some ⟨c, 0, none⟩)) rfl rfl rfl (H.out.below hb1).map ?_; intro w2 hm2 hg2; obtain ⟨hR, hF⟩ := H.out.added hg (FlS.new_ok hr) hf1 hb1 hm2 hg2; have hS2 := hR.blk.cell 0)
    refine hK.out _ _ ?_ (fun hHeld => ?_)
    · first | exact (hb1.cell hbl).trans c0 | exact hS2
    clear hK K
    try simp only [List.getElem_toArray, List.getElem_cons_succ, List.getElem_cons_zero, Act.put, List.setIfInBounds_toArray, List.set_cons_zero, List.set_cons_succ]
    refine wpAnyH_done (by kernel_rfl) ?_ _
    go_wp2
    go_ret
    exact ⟨rfl, ⟨mb, _, by rw [List.map_append, hl]; rfl, hR⟩, hF⟩
end Go.Proofs.YtdjooacjjnjfmaaGreat
end

-- A set of flows: one flow turned, one taken away; a packet comes.
section
namespace Go.Proofs.YtdjooacjjnjfmaaGreat
set_option linter.unusedVariables false
set_option linter.unusedSimpArgs false
set_option maxRecDepth 20000
open Go.RowKit Go.Proofs.YtdjooacjjnjfmaaGreatMem Go.Proofs.YtdjooacjjnjfmaaGreatMapK

def setR (l : List FlR) (id : Int) (x : FlS) (G : Nat → Prop) : List FlR := l.map fun e => if e.id = id then ⟨e.id, e.b, x, G⟩ else e
theorem setR_ent (l : List FlR) (id : Int) (x : FlS) (G : Nat → Prop) : (setR l id x G).map FlR.ent = l.map FlR.ent := by
  unfold setR
  rw [List.map_map]
  refine List.map_congr_left fun e _ => ?_
  simp only [Function.comp]
  split <;> rfl
theorem setR_pl (l : List FlR) (id : Int) (x : FlS) (G : Nat → Prop) : (setR l id x G).map FlR.pl = setF (l.map FlR.pl) id x := by
  unfold setR setF
  rw [List.map_map, List.map_map]
  refine List.map_congr_left fun e _ => ?_
  simp only [Function.comp]
  by_cases h : e.id = id
  · simp [FlR.pl, h]
  · simp [FlR.pl, h]
theorem setR_mem {l : List FlR} {id : Int} {x : FlS} {G : Nat → Prop} {e : FlR} (h : e ∈ setR l id x G) : (∃ e0 ∈ l, e0.id = id ∧ e = ⟨e0.id, e0.b, x, G⟩) ∨ (e ∈ l ∧ e.id ≠ id) := by
  unfold setR at h
  obtain ⟨e0, h1, h2⟩ := List.mem_map.1 h
  by_cases hi : e0.id = id
  · rw [if_pos hi] at h2; exact .inl ⟨e0, h1, hi, h2.symm⟩
  · rw [if_neg hi] at h2; subst h2; exact .inr ⟨h1, hi⟩
theorem SfqR.apart {w : World} {b mb : Nat} {v most : Int} {l : List FlR} {F : Nat → Prop} (h : SfqR w b mb v most l F) {e e' : FlR} (he : e ∈ l) (he' : e' ∈ l) (hi : e.id ≠ e'.id) : ∀ k, e.G k → ¬ e'.G k := by
  have : ∀ {l : List FlR}, l.Pairwise (fun e e' => ∀ k, e.G k → ¬ e'.G k) → ∀ e e', e ∈ l → e' ∈ l → e.id ≠ e'.id → ∀ k, e.G k → ¬ e'.G k := by
    intro l hp
    induction hp with
    | nil => intro e e' h; cases h
    | @cons a l h1 h2 ih =>
      intro e e' he he' hi k hk hk'
      rcases List.mem_cons.1 he with h3 | h3 <;> rcases List.mem_cons.1 he' with h4 | h4
      · rw [h3, h4] at hi; exact hi rfl
      · rw [h3] at hk; exact h1 e' h4 k hk hk'
      · rw [h4] at hk'; exact h1 e h3 k hk' hk
      · exact ih e e' h3 h4 hi k hk hk'
  exact this h.disj e e' he he' hi
theorem SfqR.same {w : World} {b mb : Nat} {v most : Int} {l : List FlR} {F : Nat → Prop} (h : SfqR w b mb v most l F) {e e' : FlR} (he : e ∈ l) (he' : e' ∈ l) (hi : e.id = e'.id) : e = e' := by
  have : ∀ {l : List FlR}, (l.map (·.id)).Nodup → ∀ e e', e ∈ l → e' ∈ l → e.id = e'.id → e = e' := by
    intro l
    induction l with
    | nil => intro _ e e' h; cases h
    | cons a l ih =>
      intro hn e e' he he' hi
      simp only [List.map_cons, List.nodup_cons] at hn
      rcases List.mem_cons.1 he with h3 | h3 <;> rcases List.mem_cons.1 he' with h4 | h4
      · rw [h3, h4]
      · rw [h3] at hi; exact absurd (List.mem_map.2 ⟨e', h4, hi.symm⟩) hn.1
      · rw [h4] at hi; exact absurd (List.mem_map.2 ⟨e, h3, hi⟩) hn.1
      · exact ih hn.2 e e' h3 h4 hi
  exact this h.ids e e' he he' hi
/-- One flow was turned. -/
theorem SfqR.turned {w w' : World} {b mb : Nat} {v most : Int} {l : List FlR} {F : Nat → Prop} (h : SfqR w b mb v most l F) {e : FlR} (he : e ∈ l) {x : FlS} (hp : FlowPost e.b x e.G w w') (hx : x.Ok) :
    SfqR w' b mb v most (setR l e.id x (Ext e.G w w')) (Ext F w w') ∧ Fr F w w' := by
  obtain ⟨hp, hf⟩ := hp
  have hF : Fr F w w' := hf.mono fun k _ hk => (h.sub e he k hk).1
  have hbn : ¬ e.G b := fun hk => (h.sub e he b hk).2.1 rfl
  have hmn : ¬ e.G mb := fun hk => (h.sub e he mb hk).2.2 rfl
  have hbl := h.lt b h.hb
  have hml := h.lt mb h.hm
  refine ⟨{ blk := h.blk.fr hf hbn, map := ?_, flows := ?_, hb := .inl h.hb, hm := .inl h.hm, ne := h.ne, sub := ?_, disj := ?_, lt := h.lt.ext hf.size, ok := ?_ }, hF⟩
  · rw [setR_ent]; exact h.map.of_eq (hf.block mb hml hmn)
  · intro e1 h1
    rcases setR_mem h1 with ⟨e0, h0, hi, rfl⟩ | ⟨h0, hi⟩
    · obtain rfl := h.same h0 he hi
      exact hp
    · exact (h.flows e1 h0).fr hf fun k hk hk' => h.apart h0 he hi k hk hk'
  · intro e1 h1 k hk
    rcases setR_mem h1 with ⟨e0, h0, hi, rfl⟩ | ⟨h0, hi⟩
    · rcases hk with hk | hk
      · exact ⟨.inl (h.sub e he k hk).1, (h.sub e he k hk).2⟩
      · exact ⟨.inr hk, by omega, by omega⟩
    · exact ⟨.inl (h.sub e1 h0 k hk).1, (h.sub e1 h0 k hk).2⟩
  · have hap : ∀ e1 ∈ l, e1.id ≠ e.id → ∀ k, e1.G k → ¬ Ext e.G w w' k := by
      intro e1 h1 hi k hk hk'
      rcases hk' with hk' | hk'
      · exact h.apart h1 he hi k hk hk'
      · have := h.lt k (h.sub e1 h1 k hk).1; omega
    have hids := h.ids
    have hd := h.disj
    unfold setR
    rw [List.pairwise_map]
    have hid2 : l.Pairwise fun a c => a.id ≠ c.id := by
      rw [List.Nodup, List.pairwise_map] at hids; exact hids
    have := (hd.and hid2)
    refine List.Pairwise.imp_of_mem ?_ this
    rintro a c ha hc ⟨h1, h2⟩
    by_cases ha' : a.id = e.id
    · have hc' : c.id ≠ e.id := fun e' => h2 (ha'.trans e'.symm)
      rw [if_pos ha', if_neg hc']
      exact fun k hk hk' => hap c hc hc' k hk' hk
    · rw [if_neg ha']
      by_cases hc' : c.id = e.id
      · rw [if_pos hc']
        exact hap a ha ha'
      · rw [if_neg hc']; exact h1
  · intro e1 h1
    rcases setR_mem h1 with ⟨e0, h0, hi, rfl⟩ | ⟨h0, hi⟩
    · exact hx
    · exact h.ok e1 h0
/-- One flow was taken away. -/
theorem SfqR.dropped {w w' : World} {b mb : Nat} {v most : Int} {l : List FlR} {F : Nat → Prop} (h : SfqR w b mb v most l F) {id : Int} (hm : IsMapAt w' mb (Value.int .i64) (delM (l.map FlR.ent) id)) (hg : w.grownBy w' (some mb)) :
    SfqR w' b mb v most (l.filter fun e => decide (e.id ≠ id)) (Ext F w w') ∧ Fr F w w' := by
  have hF : Fr F w w' := (Fr.refl F w).grown hg fun k e => by cases e; exact .inl h.hm
  have hG : Fr (fun k => k = mb) w w' := (Fr.refl _ w).grown hg fun k e => by cases e; exact .inl rfl
  have hd : delM (l.map FlR.ent) id = (l.filter fun e => decide (e.id ≠ id)).map FlR.ent := by
    unfold delM
    rw [List.filter_map]
    rfl
  refine ⟨{ blk := h.blk.grown hg (by intro e; cases e; exact h.ne rfl), map := hd ▸ hm, flows := ?_, hb := .inl h.hb, hm := .inl h.hm, ne := h.ne, sub := ?_, disj := h.disj.sublist List.filter_sublist, lt := h.lt.ext hg.size, ok := ?_ }, hF⟩
  · exact fun e he => (h.flows e ((List.mem_filter.1 he).1)).fr hG fun k hk e' => (h.sub e ((List.mem_filter.1 he).1) k hk).2.2 e'
  · exact fun e he k hk => ⟨.inl (h.sub e ((List.mem_filter.1 he).1) k hk).1, (h.sub e ((List.mem_filter.1 he).1) k hk).2⟩
  · exact fun e he => h.ok e ((List.mem_filter.1 he).1)

set_option maxHeartbeats 1000000 in
theorem removeS_any (b : Nat) (s : SfS) (F : Nat → Prop) (id : Int) (w : World) (h : SfsAt w b s F) :
    Calls Tryz.prog 100 #[.pointer (some ⟨b, 0, none⟩), .int .i64 id] w fun e w' => e = .returned (.int .i64 (s.removeE id)) ∧ SfsPost b (s.remove id) F w w' := by
  obtain ⟨mb, l, hl, h⟩ := h
  have c0 := h.blk.cell 0
  have hbl := h.blk.lt
  have hlk := h.look id
  simp only [List.getElem?_cons_succ, List.getElem?_cons_zero] at c0
  unfold SfS.remove SfS.removeE
  rw [← hl, getF_pl]
  have H := Lib.hid h
  cases hg : getR l id with
  | none =>
    rw [hg] at hlk
    clear h
    simp only [Option.map_none] at hlk ⊢
    go_enter Tryz.func100, Tryz.ntmps100
    go_wp2
    go_ret
    exact ⟨rfl, SfsAt.still ⟨mb, l, hl, H.out⟩ (Below.refl _ _)⟩
  | some e =>
    rw [hg] at hlk
    obtain ⟨hm, hid⟩ := getR_some hg
    have hfl := h.flows e hm
    clear h
    simp only [Option.map_some] at hlk ⊢
    by_cases hx : e.x.l = []
    · have h0 : e.x.l.length = 0 := by rw [hx]; rfl
      rw [if_pos hx, if_pos hx]
      go_enter Tryz.func100, Tryz.ntmps100
      go_wp2_with fail
      refine (len_any _ _ _ _ hfl).mono ?_
      rintro e w' ⟨rfl, rfl⟩
      rw [h0]
      obtain ⟨w2, hrun, hm2, hg2⟩ := run_delete intKey under_mapF 0 H.out.map id
      obtain ⟨hR, hF⟩ := H.out.dropped hm2 hg2
      go_wp2
      go_ret
      refine ⟨rfl, ⟨mb, _, ?_, hR⟩, hF⟩
      show _ = (l.map FlR.pl).filter _
      rw [List.filter_map]; rfl
    · have h0 : 0 < e.x.l.length := List.length_pos_iff.2 hx
      have h1 : decide ((e.x.l.length : Int) > 0) = true := decide_eq_true (by omega)
      have h2 : decide ((0 : Int) < e.x.l.length) = true := decide_eq_true (by omega)
      rw [if_neg hx, if_neg hx]
      go_enter Tryz.func100, Tryz.ntmps100
      go_wp2_with fail
      refine (len_any _ _ _ _ hfl).mono ?_
      rintro e w' ⟨rfl, rfl⟩
      go_wp2
      go_ret
      exact ⟨rfl, SfsAt.still ⟨mb, l, hl, H.out⟩ (Below.refl _ _)⟩

set_option maxHeartbeats 1000000 in
theorem arriveS_any (b : Nat) (s : SfS) (F : Nat → Prop) (p : Pk) (w : World) (h : SfsAt w b s F) (ok : s.Ok) (hp : p.Ok) :
    Calls Tryz.prog 101 #[.pointer (some ⟨b, 0, none⟩), .agg #[.int .i64 p.flow, .int .i64 p.len, .int .i64 p.mark]] w fun e w' => e = .returned (.int .i64 (s.arriveE p)) ∧ SfsPost b (s.arrive p) F w w' := by
  obtain ⟨mb, l, hl, h⟩ := h
  have c0 := h.blk.cell 0
  have c1 := h.blk.cell 1
  have hbl := h.blk.lt
  have hv := ok.v
  simp only [List.getElem?_cons_succ, List.getElem?_cons_zero] at c0 c1
  unfold SfS.arrive SfS.arriveE
  rw [← hl, getF_pl]
  have hb1 := below1 w (.cells #[.int .i64 p.flow, .int .i64 p.len, .int .i64 p.mark] 59)
  have h1 := h.below hb1
  have hlk := h1.look p.flow
  have c0 := (hb1.cell (p := ⟨b, 0, none⟩) hbl).trans c0
  have c1 := (hb1.cell (p := ⟨b, 1, none⟩) hbl).trans c1
  generalize hW1 : w.alloc (.cells #[.int .i64 p.flow, .int .i64 p.len, .int .i64 p.mark] 59) = w1 at *
  have cp : ∀ i, i < 3 → w1.cell? ⟨w.heap.size, i, none⟩ = p.cells[i]? := fun i hi => by
    rw [← hW1]; exact (Blk.new w p.cells 59).cell i
  have p0 := cp 0 (by omega)
  have p1 := cp 1 (by omega)
  have p2 := cp 2 (by omega)
  simp only [Pk.cells, List.getElem?_cons_succ, List.getElem?_cons_zero] at p0 p1 p2
  clear cp
  cases hg : getR l p.flow with
  | none =>
    rw [hg] at hlk
    have H := Lib.hid h
    clear h h1
    simp only [Option.map_none] at hlk ⊢
    go_enter Tryz.func101, Tryz.ntmps101
    go_upto_region 1 with fail
    refine wp_region_held_drew (S := (fun w' => w'.cell? ⟨b, 0, none⟩ = some (.map (some mb)) ∧ w'.cell? ⟨w.heap.size, 0, none⟩ = some (.int .i64 p.flow) ∧ (Instr.lookup 136 (.map (some mb)) (.int .i64 p.flow) false).run Tryz.prog w' = .ok (.pointer none) w')) (by kernel_rfl) ?_ (fun hHeld => ?_)
    · exact ⟨c0, p0, ((H.out.below hb1.drew).look p.flow).trans (by rw [hg]; rfl)⟩
    refine wpAnyH_take (i := 0) (v := ?_) rfl (by kernel_rfl) (by kernel_rfl) (by kernel_rfl) (fun _ _ _ h => h) (Or.inl ⟨by rfl, ?_⟩) (by assumption) ?_
    rotate_left
    · intro w hSw
      (try dsimp only at hSw)
      first | (go_simp; done) | (go_simp; with_reducible rfl)
    try simp only [List.getElem_toArray, List.getElem_cons_succ, List.getElem_cons_zero, Act.put, List.setIfInBounds_toArray, List.set_cons_zero, List.set_cons_succ]
    refine wpAnyH_take (i := 1) (v := ?_) rfl (by kernel_rfl) (by kernel_rfl) (by kernel_rfl) (fun _ _ _ h => h) (Or.inl ⟨by rfl, ?_⟩) (by assumption) ?_
    rotate_left
    · intro w hSw
      (try dsimp only at hSw)
      first | (go_simp; done) | (go_simp; with_reducible rfl)
    try simp only [List.getElem_toArray, List.getElem_cons_succ, List.getElem_cons_zero, Act.put, List.setIfInBounds_toArray, List.set_cons_zero, List.set_cons_succ]
    refine wpAnyH_take (i := 2) (v := ?_) rfl (by kernel_rfl) (by kernel_rfl) (by kernel_rfl) (fun _ _ _ h => h) (Or.inl ⟨by rfl, ?_⟩) (by assumption) ?_
    rotate_left
    · intro w hSw
      (try dsimp only at hSw)
      first | (go_simp; done) | (go_simp; with_reducible rfl)
    try simp only [List.getElem_toArray, List.getElem_cons_succ, List.getElem_cons_zero, Act.put, List.setIfInBounds_toArray, List.set_cons_zero, List.set_cons_succ]
    refine wpAnyH_take (i := 3) (v := ?_) rfl (by kernel_rfl) (by kernel_rfl) (by kernel_rfl) (fun _ _ _ h => h) (Or.inl ⟨by rfl, ?_⟩) (by assumption) ?_
    rotate_left
    · intro w hSw
      (try dsimp only at hSw)
      first | (go_simp; done) | (go_simp; with_reducible rfl)
    try simp only [List.getElem_toArray, List.getElem_cons_succ, List.getElem_cons_zero, Act.put, List.setIfInBounds_toArray, List.set_cons_zero, List.set_cons_succ]
    refine wpAnyH_take (i := 4) (v := ?_) rfl (by kernel_rfl) (by kernel_rfl) (by kernel_rfl) (fun _ _ _ h => h) (Or.inl ⟨by rfl, ?_⟩) (by assumption) ?_
    rotate_left
    · intro w hSw
      (try dsimp only at hSw)
      first | (go_simp; done) | (go_simp; with_reducible rfl)
    try simp only [List.getElem_toArray, List.getElem_cons_succ, List.getElem_cons_zero, Act.put, List.setIfInBounds_toArray, List.set_cons_zero, List.set_cons_succ]
    refine wpAnyH_take (i := 5) (v := ?_) rfl (by kernel_rfl) (by kernel_rfl) (by kernel_rfl) (fun _ _ _ h => h) (Or.inl ⟨by rfl, ?_⟩) (by assumption) ?_
    rotate_left
    · intro w hSw
      (try dsimp only at hSw)
      first | (go_simp; done) | (go_simp; with_reducible rfl)
    try simp only [List.getElem_toArray, List.getElem_cons_succ, List.getElem_cons_zero, Act.put, List.setIfInBounds_toArray, List.set_cons_zero, List.set_cons_succ]
    refine wpAnyH_take (i := 6) (v := ?_) rfl (by kernel_rfl) (by kernel_rfl) (by kernel_rfl) (fun _ _ _ h => h) (Or.inl ⟨by rfl, ?_⟩) (by assumption) ?_
    rotate_left
    · intro w hSw
      (try dsimp only at hSw)
      first | (go_simp; done) | (go_simp; with_reducible rfl)
    try simp only [List.getElem_toArray, List.getElem_cons_succ, List.getElem_cons_zero, Act.put, List.setIfInBounds_toArray, List.set_cons_zero, List.set_cons_succ]
    refine wpAnyH_take (i := 7) (v := ?_) rfl (by kernel_rfl) (by kernel_rfl) (by kernel_rfl) (fun _ _ _ h => h) (Or.inl ⟨by rfl, ?_⟩) (by assumption) ?_
    rotate_left
    · intro w hSw
      (try dsimp only at hSw)
      first | (go_simp; done) | (go_simp; with_reducible rfl)
    try simp only [List.getElem_toArray, List.getElem_cons_succ, List.getElem_cons_zero, Act.put, List.setIfInBounds_toArray, List.set_cons_zero, List.set_cons_succ]
    refine wpAnyH_done (by kernel_rfl) ?_ _
    go_wp2
    go_ret
    exact ⟨rfl, SfsAt.still ⟨mb, l, hl, H.out⟩ hb1.drew⟩
  | some e =>
    rw [hg] at hlk
    obtain ⟨hm, hid⟩ := getR_some hg
    have hfl := h1.flows e hm
    have hok := h.ok e hm
    have H := Lib.hid h1
    have hnG : ¬ e.G b := fun hk => (h.sub e hm b hk).2.1 rfl
    have hnG2 : ¬ e.G w.heap.size := fun hk => by have := h.lt _ (h.sub e hm _ hk).1; omega
    have hF := h.lt
    clear h h1
    simp only [Option.map_some] at hlk ⊢
    generalize hR9 : (if e.x.full = true then (9 : Int) else 0) = R9
    go_enter Tryz.func101, Tryz.ntmps101
    go_upto_region 1 with fail
    refine wp_region_held_drew (S := (fun w' => w'.cell? ⟨b, 0, none⟩ = some (.map (some mb)) ∧ w'.cell? ⟨w.heap.size, 0, none⟩ = some (.int .i64 p.flow) ∧ (Instr.lookup 136 (.map (some mb)) (.int .i64 p.flow) false).run Tryz.prog w' = .ok (.pointer (some ⟨e.b, 0, none⟩)) w')) (by kernel_rfl) ?_ (fun hHeld => ?_)
    · exact ⟨c0, p0, ((H.out.below (Below.refl _ _).drew).look p.flow).trans (by rw [hg]; rfl)⟩
    refine wpAnyH_take (i := 0) (v := ?_) rfl (by kernel_rfl) (by kernel_rfl) (by kernel_rfl) (fun _ _ _ h => h) (Or.inl ⟨by rfl, ?_⟩) (by assumption) ?_
    rotate_left
    · intro w hSw
      (try dsimp only at hSw)
      first | (go_simp; done) | (go_simp; with_reducible rfl)
    try simp only [List.getElem_toArray, List.getElem_cons_succ, List.getElem_cons_zero, Act.put, List.setIfInBounds_toArray, List.set_cons_zero, List.set_cons_succ]
    refine wpAnyH_take (i := 1) (v := ?_) rfl (by kernel_rfl) (by kernel_rfl) (by kernel_rfl) (fun _ _ _ h => h) (Or.inl ⟨by rfl, ?_⟩) (by assumption) ?_
    rotate_left
    · intro w hSw
      (try dsimp only at hSw)
      first | (go_simp; done) | (go_simp; with_reducible rfl)
    try simp only [List.getElem_toArray, List.getElem_cons_succ, List.getElem_cons_zero, Act.put, List.setIfInBounds_toArray, List.set_cons_zero, List.set_cons_succ]
    refine wpAnyH_take (i := 2) (v := ?_) rfl (by kernel_rfl) (by kernel_rfl) (by kernel_rfl) (fun _ _ _ h => h) (Or.inl ⟨by rfl, ?_⟩) (by assumption) ?_
    rotate_left
    · intro w hSw
      (try dsimp only at hSw)
      first | (go_simp; done) | (go_simp; with_reducible rfl)
    try simp only [List.getElem_toArray, List.getElem_cons_succ, List.getElem_cons_zero, Act.put, List.setIfInBounds_toArray, List.set_cons_zero, List.set_cons_succ]
    refine wpAnyH_take (i := 3) (v := ?_) rfl (by kernel_rfl) (by kernel_rfl) (by kernel_rfl) (fun _ _ _ h => h) (Or.inl ⟨by rfl, ?_⟩) (by assumption) ?_
    rotate_left
    · intro w hSw
      (try dsimp only at hSw)
      first | (go_simp; done) | (go_simp; with_reducible rfl)
    try simp only [List.getElem_toArray, List.getElem_cons_succ, List.getElem_cons_zero, Act.put, List.setIfInBounds_toArray, List.set_cons_zero, List.set_cons_succ]
    refine wpAnyH_take (i := 4) (v := ?_) rfl (by kernel_rfl) (by kernel_rfl) (by kernel_rfl) (fun _ _ _ h => h) (Or.inl ⟨by rfl, ?_⟩) (by assumption) ?_
    rotate_left
    · intro w hSw
      (try dsimp only at hSw)
      first | (go_simp; done) | (go_simp; with_reducible rfl)
    try simp only [List.getElem_toArray, List.getElem_cons_succ, List.getElem_cons_zero, Act.put, List.setIfInBounds_toArray, List.set_cons_zero, List.set_cons_succ]
    refine wpAnyH_take (i := 5) (v := ?_) rfl (by kernel_rfl) (by kernel_rfl) (by kernel_rfl) (fun _ _ _ h => h) (Or.inl ⟨by rfl, ?_⟩) (by assumption) ?_
    rotate_left
    · intro w hSw
      (try dsimp only at hSw)
      first | (go_simp; done) | (go_simp; with_reducible rfl)
    try simp only [List.getElem_toArray, List.getElem_cons_succ, List.getElem_cons_zero, Act.put, List.setIfInBounds_toArray, List.set_cons_zero, List.set_cons_succ]
    refine wpAnyH_take (i := 6) (v := ?_) rfl (by kernel_rfl) (by kernel_rfl) (by kernel_rfl) (fun _ _ _ h => h) (Or.inl ⟨by rfl, ?_⟩) (by assumption) ?_
    rotate_left
    · intro w hSw
      (try dsimp only at hSw)
      first | (go_simp; done) | (go_simp; with_reducible rfl)
    try simp only [List.getElem_toArray, List.getElem_cons_succ, List.getElem_cons_zero, Act.put, List.setIfInBounds_toArray, List.set_cons_zero, List.set_cons_succ]
    refine wpAnyH_take (i := 7) (v := ?_) rfl (by kernel_rfl) (by kernel_rfl) (by kernel_rfl) (fun _ _ _ h => h) (Or.inl ⟨by rfl, ?_⟩) (by assumption) ?_
    rotate_left
    · intro w hSw
      (try dsimp only at hSw)
      first | (go_simp; done) | (go_simp; with_reducible rfl)
    try simp only [List.getElem_toArray, List.getElem_cons_succ, List.getElem_cons_zero, Act.put, List.setIfInBounds_toArray, List.set_cons_zero, List.set_cons_succ]
    refine wpAnyH_done (by kernel_rfl) ?_ _
    clear hHeld
    have hW : Below w.heap.size w w1.drew := hb1.drew
    have H2 := Lib.hid (H.out.below (Below.refl _ _).drew)
    have c1 : w1.drew.cell? ⟨b, 1, none⟩ = some (.int .u64 s.v) := c1
    have p0 : w1.drew.cell? ⟨w.heap.size, 0, none⟩ = some (.int .i64 p.flow) := p0
    have p1 : w1.drew.cell? ⟨w.heap.size, 1, none⟩ = some (.int .i64 p.len) := p1
    have p2 : w1.drew.cell? ⟨w.heap.size, 2, none⟩ = some (.int .i64 p.mark) := p2
    have hlt : w.heap.size < w1.drew.heap.size := by rw [← hW1]; simp [World.drew]
    generalize w1.drew = W at *
    clear hb1 H hfl hlk hW1
    go_upto_region 4 with fail
    refine wp_region_held_drew (S := (fun w' => w'.cell? ⟨b, 1, none⟩ = some (.int .u64 s.v) ∧ w'.cell? ⟨w.heap.size, 0, none⟩ = some (.int .i64 p.flow) ∧ w'.cell? ⟨w.heap.size, 1, none⟩ = some (.int .i64 p.len) ∧ w'.cell? ⟨w.heap.size, 2, none⟩ = some (.int .i64 p.mark))) (by kernel_rfl) ?_ (fun hHeld => ?_)
    · exact ⟨c1, p0, p1, p2⟩
    refine wpAnyH_take (i := 0) (v := ?_) rfl (by kernel_rfl) (by kernel_rfl) (by kernel_rfl) (fun _ _ _ h => h) (Or.inl ⟨by rfl, ?_⟩) (by assumption) ?_
    rotate_left
    · intro w hSw
      (try dsimp only at hSw)
      first | (go_simp; done) | (go_simp; with_reducible rfl)
    try simp only [List.getElem_toArray, List.getElem_cons_succ, List.getElem_cons_zero, Act.put, List.setIfInBounds_toArray, List.set_cons_zero, List.set_cons_succ]
    refine wpAnyH_take (i := 1) (v := ?_) rfl (by kernel_rfl) (by kernel_rfl) (by kernel_rfl) (fun _ _ _ h => h) (Or.inl ⟨by rfl, ?_⟩) (by assumption) ?_
    rotate_left
    · intro w hSw
      (try dsimp only at hSw)
      first | (go_simp; done) | (go_simp; with_reducible rfl)
    try simp only [List.getElem_toArray, List.getElem_cons_succ, List.getElem_cons_zero, Act.put, List.setIfInBounds_toArray, List.set_cons_zero, List.set_cons_succ]
    refine wpAnyH_take (i := 2) (v := ?_) rfl (by kernel_rfl) (by kernel_rfl) (by kernel_rfl) (fun _ _ _ h => h) (Or.inl ⟨by rfl, ?_⟩) (by assumption) ?_
    rotate_left
    · intro w hSw
      (try dsimp only at hSw)
      first | (go_simp; done) | (go_simp; with_reducible rfl)
    try simp only [List.getElem_toArray, List.getElem_cons_succ, List.getElem_cons_zero, Act.put, List.setIfInBounds_toArray, List.set_cons_zero, List.set_cons_succ]
    refine wpAnyH_take (i := 3) (v := ?_) rfl (by kernel_rfl) (by kernel_rfl) (by kernel_rfl) (fun _ _ _ h => h) (Or.inl ⟨by rfl, ?_⟩) (by assumption) ?_
    rotate_left
    · intro w hSw
      (try dsimp only at hSw)
      first | (go_simp; done) | (go_simp; with_reducible rfl)
    try simp only [List.getElem_toArray, List.getElem_cons_succ, List.getElem_cons_zero, Act.put, List.setIfInBounds_toArray, List.set_cons_zero, List.set_cons_succ]
    refine wpAnyH_take (i := 4) (v := ?_) rfl (by kernel_rfl) (by kernel_rfl) (by kernel_rfl) (fun _ _ _ h => h) (Or.inl ⟨by rfl, ?_⟩) (by assumption) ?_
    rotate_left
    · intro w hSw
      (try dsimp only at hSw)
      first | (go_simp; done) | (go_simp; with_reducible rfl)
    try simp only [List.getElem_toArray, List.getElem_cons_succ, List.getElem_cons_zero, Act.put, List.setIfInBounds_toArray, List.set_cons_zero, List.set_cons_succ]
    refine wpAnyH_take (i := 5) (v := ?_) rfl (by kernel_rfl) (by kernel_rfl) (by kernel_rfl) (fun _ _ _ h => h) (Or.inl ⟨by rfl, ?_⟩) (by assumption) ?_
    rotate_left
    · intro w hSw
      (try dsimp only at hSw)
      first | (go_simp; done) | (go_simp; with_reducible rfl)
    try simp only [List.getElem_toArray, List.getElem_cons_succ, List.getElem_cons_zero, Act.put, List.setIfInBounds_toArray, List.set_cons_zero, List.set_cons_succ]
    refine wpAnyH_ready (rs := [6]) (by kernel_rfl) (by simp) ?_
    refine AllReadyH.cons rfl (fun K hK => ?_) AllReadyH.nil
    go_simp
    (go_at_call 117; refine (arrive_any _ _ e.G _ p _ ((H2.out.flows e hm).below (Below.refl _ _).drew) hok).mono ?_; rintro e2 w2 ⟨rfl, hp2⟩)
    refine hK.out _ _ ?_ (fun hHeld => ?_)
    · exact ⟨(hp2.2.cell (Nat.lt_of_lt_of_le hbl hW.size) hnG).trans c1, (hp2.2.cell hlt hnG2).trans p0, (hp2.2.cell hlt hnG2).trans p1, (hp2.2.cell hlt hnG2).trans p2⟩
    clear hK K
    try simp only [List.getElem_toArray, List.getElem_cons_succ, List.getElem_cons_zero, Act.put, List.setIfInBounds_toArray, List.set_cons_zero, List.set_cons_succ]
    refine wpAnyH_take (i := 7) (v := ?_) rfl (by kernel_rfl) (by kernel_rfl) (by kernel_rfl) (fun _ _ _ h => h) (Or.inl ⟨by rfl, ?_⟩) (by assumption) ?_
    rotate_left
    · intro w hSw
      (try dsimp only at hSw)
      first | (go_simp; done) | (go_simp; with_reducible rfl)
    try simp only [List.getElem_toArray, List.getElem_cons_succ, List.getElem_cons_zero, Act.put, List.setIfInBounds_toArray, List.set_cons_zero, List.set_cons_succ]
    refine wpAnyH_take (i := 8) (v := ?_) rfl (by kernel_rfl) (by kernel_rfl) (by kernel_rfl) (fun _ _ _ h => h) (Or.inl ⟨by rfl, ?_⟩) (by assumption) ?_
    rotate_left
    · intro w hSw
      (try dsimp only at hSw)
      first | (go_simp; done) | (go_simp; with_reducible rfl)
    try simp only [List.getElem_toArray, List.getElem_cons_succ, List.getElem_cons_zero, Act.put, List.setIfInBounds_toArray, List.set_cons_zero, List.set_cons_succ]
    refine wpAnyH_done (by kernel_rfl) ?_ _
    obtain ⟨hR, hF2⟩ := (H2.out.below (Below.refl _ _).drew).turned hm hp2 (FlS.arrive_ok hok hv hp)
    have hfin : SfsPost b { s with fs := setF (l.map FlR.pl) p.flow (e.x.arrive s.v p) } F w w2 := by
      rw [hid] at hR
      exact ⟨⟨mb, _, setR_pl _ _ _ _, hR.mono (fun k hk => hk.imp id fun hk => ⟨Nat.le_trans hW.size hk.1, hk.2⟩) (hF.ext (Nat.le_trans hW.size hF2.size))⟩, Fr.after_below hW.drew hF2⟩
    clear hR hF2 hp2 hHeld
    cases hfu : e.x.full
    · go_wp2
      go_ret
      exact ⟨by rw [← hR9, hfu]; rfl, by simpa only [hl] using hfin⟩
    · go_wp2
      go_ret
      exact ⟨by rw [← hR9, hfu]; rfl, by simpa only [hl] using hfin⟩
end Go.Proofs.YtdjooacjjnjfmaaGreat
end

-- A set of flows: the entries of those that have packets, in the order in which the map gives them.
section
namespace Go.Proofs.YtdjooacjjnjfmaaGreat
set_option linter.unusedVariables false
set_option linter.unusedSimpArgs false
set_option maxRecDepth 20000
open Go.RowKit Go.Proofs.YtdjooacjjnjfmaaGreatMem Go.Proofs.YtdjooacjjnjfmaaGreatMapK

theorem EE : ElT Tryz.prog 156 159 (.agg #[.int .u64 0, .int .i64 0]) 2 := ⟨Tryz.underlying156, ⟨16, by kernel_rfl, by omega⟩, rfl, by omega⟩
/-- Entries: a start, a flow's number. -/
def entC : List (Int × Int) → List Value
  | [] => []
  | e :: l => .int .u64 e.1 :: .int .i64 e.2 :: entC l
theorem entC_append (a c : List (Int × Int)) : entC (a ++ c) = entC a ++ entC c := by induction a with
  | nil => rfl
  | cons e a ih => simp [entC, ih]
theorem entC_length (l : List (Int × Int)) : (entC l).length = l.length * 2 := by
  induction l with
  | nil => rfl
  | cons e l ih => simp only [entC, List.length_cons, ih]; omega
theorem entC_one (l : List (Int × Int)) : ∀ u ∈ entC l, u.oneCell' = true := by
  induction l with
  | nil => intro u hu; cases hu
  | cons e l ih =>
    intro u hu
    simp only [entC, List.mem_cons] at hu
    rcases hu with rfl | rfl | hu
    · rfl
    · rfl
    · exact ih u hu
def entL (fs : List (Int × FlS)) : List (Int × Int) := (fs.filter fun e => e.2.has).map fun e => (e.2.start, e.1)
theorem entL_append (a c : List (Int × FlS)) : entL (a ++ c) = entL a ++ entL c := by simp [entL]
def entR (l : List FlR) : List (Int × Int) := entL (l.map FlR.pl)
theorem entR_append (l : List FlR) (e : FlR) : entR (l ++ [e]) = if e.x.has = true then entR l ++ [(e.x.start, e.id)] else entR l := by
  unfold entR
  rw [List.map_append, entL_append]
  have : entL ([e].map FlR.pl) = if e.x.has = true then [(e.x.start, e.id)] else [] := by
    unfold entL
    simp only [List.map_cons, List.map_nil, FlR.pl]
    by_cases h : e.x.has = true
    · simp [h]
    · simp [h]
  rw [this]
  split <;> simp
theorem entR_le (l : List FlR) : (entR l).length ≤ l.length := by
  unfold entR entL
  rw [List.length_map]
  exact Nat.le_trans (List.length_filter_le _ _) (by simp)
theorem FlS.start0_has {x : FlS} (h : x.has = true) : x.start0 = x.start := by
  unfold FlS.start0
  rw [if_neg]
  intro h0
  unfold FlS.has at h
  rw [h0] at h
  cases h

/-- Under way: the flows d have come. -/
structure EntSt (w wr : World) (mb : Nat) (l : List FlR) (v : Value) (d : List FlR) : Prop where
  sub : ∀ e ∈ d, e ∈ l
  it : IterAt wr w.heap.size mb (Value.int .i64) (l.map FlR.ent) (d.map FlR.ent)
  out : wr.ownsRow (w.heap.size + 1) 159 2 v (entR d).length (entC (entR d))
  bel : Below w.heap.size w wr
  size : w.heap.size + 1 ≤ wr.heap.size

theorem SfqR.perm {w : World} {b mb r : Nat} {v most : Int} {l d : List FlR} {F : Nat → Prop} {w1 : World} (h : SfqR w b mb v most l F) (hs : ∀ e ∈ d, e ∈ l) (hi : IterAt w1 r mb (Value.int .i64) (l.map FlR.ent) (d.map FlR.ent))
    (ha : ∀ p ∈ l.map FlR.ent, p ∈ d.map FlR.ent) : List.Perm d l := by
  obtain ⟨es, clock, seen, h1, h2, h3, h4, h5, h6⟩ := hi
  have n1 : d.Nodup := by
    rw [List.map_map] at h3
    exact List.Pairwise.of_map _ (fun a c hn e => hn (congrArg _ e)) h3
  have n2 : l.Nodup := List.Pairwise.of_map _ (fun a c hn e => hn (congrArg _ e)) h.ids
  refine (List.perm_ext_iff_of_nodup n1 n2).2 fun e => ⟨hs e, fun he => ?_⟩
  obtain ⟨e', he', h0⟩ := List.mem_map.1 (ha e.ent (List.mem_map.2 ⟨e, he, rfl⟩))
  have : e'.id = e.id := congrArg Prod.fst h0
  rw [← h.same (hs e' he') he this]
  exact he'

theorem one2 (a c : Int) : ∀ u ∈ (#[.int .u64 a, .int .i64 c] : Array Value).toList, u.oneCell' = true := by
  intro u hu
  simp at hu
  rcases hu with rfl | rfl <;> rfl

set_option maxHeartbeats 1000000 in
theorem entries_any (b : Nat) (s : SfS) (F : Nat → Prop) (w : World) (h : SfsAt w b s F) (hn : s.fs.length ≤ 1000000) :
    Calls Tryz.prog 118 #[.pointer (some ⟨b, 0, none⟩)] w fun e w' => ∃ v es, e = .returned v ∧ List.Perm es (entL s.fs) ∧ w'.ownsRow w.heap.size 159 2 v es.length (entC es) ∧ Below w.heap.size w w' := by
  obtain ⟨mb, l, hl, h⟩ := h
  have c0 := h.blk.cell 0
  have hbl := h.blk.lt
  have hmb := h.map.lt
  simp only [List.getElem?_cons_succ, List.getElem?_cons_zero] at c0
  obtain ⟨w1, hr1, hi1, hg1, hs1⟩ := iter_start under_mapF h.map
  have hst : EntSt w w1 mb l (.slice none 0 0) [] := ⟨fun e he => (by cases he), hi1, owns_nil _ _ _ _, (Below.refl _ _).grown hg1 (Nat.le_refl _) (by intro q hq; cases hq), by omega⟩
  have hln : l.length ≤ 1000000 := by rw [← hl] at hn; simpa using hn
  have H := Lib.hid h
  rw [← hl]
  clear h hi1 hg1 hn
  go_enter Tryz.func118, Tryz.ntmps118
  go_wp2_with fail
  go_loopw [3] (fun v wr => ∃ d, EntSt w wr mb l v d) (fun _ wr => l.length - (wr.iterSeen w.heap.size).size)
  case atStart => exact ⟨[], hst⟩
  case round =>
    obtain ⟨d, hd⟩ := hrel
    rcases iter_next (P := Tryz.prog) 0 hd.it with ⟨ha, hnx⟩ | ⟨p, hp, hpn, w2, hnx, hen, hi2, hg2, hs2⟩
    · go_wp2_with fail
      go_ret
      exact ⟨_, entR d, rfl, (((H.out.perm hd.sub hd.it ha).map FlR.pl).filter _).map _, owns_base hd.out (Nat.le_succ _), hd.bel⟩
    · obtain ⟨e, he, rfl⟩ := List.mem_map.1 hp
      have hlt := hd.it.some_left hp hpn
      have hseen := hd.it.seen
      have hseen2 := hi2.seen
      simp only [FlR.ent] at hnx hen
      have hb2 : Below w.heap.size w w2 := hd.bel.grown hg2 hd.bel.size (by intro q hq; cases hq; exact Nat.le_refl _)
      have hfl := (H.out.flows e he).below hb2
      have hown2 := owns_grown hd.out hg2 (by intro q hq h0; cases h0; have := (owns_lt hd.out _ hq).1; omega)
      have hsize2 : w.heap.size + 1 ≤ w2.heap.size := by have := hd.size; omega
      have hsub : ∀ e' ∈ d ++ [e], e' ∈ l := by
        intro e' h'
        rcases List.mem_append.1 h' with h' | h'
        · exact hd.sub e' h'
        · simp only [List.mem_singleton] at h'; subst h'; exact he
      have hi3 : IterAt w2 w.heap.size mb (Value.int .i64) (l.map FlR.ent) ((d ++ [e]).map FlR.ent) := by rw [List.map_append]; exact hi2
      have hER := entR_append d e
      have hdl : (entR d).length ≤ d.length := entR_le d
      simp only [List.length_map] at hlt
      have hn2 : (entR d).length + 1 ≤ 1099511627776 := by omega
      have hrb : wr.heap.size ≤ w2.heap.size := by omega
      clear hs2 hs1
      go_wp2_with fail
      refine (start_any _ _ _ _ hfl).mono ?_
      rintro e' w' ⟨rfl, rfl⟩
      cases hx : e.x.has with
      | false =>
        rw [hx, if_neg (by simp)] at hER
        go_wp2
        go_roundw
        case rel => exact ⟨d ++ [e], hsub, hi3, by rw [hER]; exact hown2, hb2, hsize2⟩
        case measure => simp [hseen, hseen2]; omega
      | true =>
        rw [hx, if_pos rfl] at hER
        rw [FlS.start0_has hx]
        go_wp2_with ((at_builtin; refine ap_new w2 #[.int .u64 e.x.start, .int .i64 e.id] EE rfl _ _ rfl (w.heap.size + 1) _ (entR d).length _ rfl hown2 hsize2 1 rfl rfl (one2 _ _) hn2 ?_; intro v' w3 hown3 hg3 hb3 hfr3))
        go_roundw
        case rel =>
          have hmb2 : mb < w2.heap.size := Nat.lt_of_lt_of_le hmb hb2.size
          refine ⟨d ++ [e], hsub, hi3.of_eq (hg3.block mb hmb2 ?_) (hg3.block _ hi3.lt ?_), ?_, hb2.trans (hb3.mono ?_), Nat.le_trans hsize2 hg3.size⟩
          · intro h0; have := (owns_lt hown2 mb h0.symm).1; omega
          · intro h0; have := (owns_lt hown2 _ h0.symm).1; omega
          · rw [hER, entC_append]
            simpa [entC] using hown3
          · omega
        case measure =>
          have := (hi3.of_eq (hg3.block mb (Nat.lt_of_lt_of_le hmb hb2.size) (by intro h0; have := (owns_lt hown2 mb h0.symm).1; omega)) (hg3.block _ hi3.lt (by intro h0; have := (owns_lt hown2 _ h0.symm).1; omega))).seen
          simp [hseen, this]; omega
end Go.Proofs.YtdjooacjjnjfmaaGreat
end

-- A set of flows: entries in order; the least one.
section
namespace Go.Proofs.YtdjooacjjnjfmaaGreat
set_option linter.unusedVariables false
set_option linter.unusedSimpArgs false
set_option maxRecDepth 20000
open Go.RowKit Go.Proofs.YtdjooacjjnjfmaaGreatMem Go.Proofs.YtdjooacjjnjfmaaGreatMapK

def nthE (l : List (Int × Int)) (k : Nat) : Int × Int := l.getD k (0, 0)
theorem entC_at (l : List (Int × Int)) : ∀ k, k < l.length → (entC l)[k * 2]? = some (.int .u64 (nthE l k).1) ∧ (entC l)[k * 2 + 1]? = some (.int .i64 (nthE l k).2) := by
  induction l with
  | nil => intro k hk; simp at hk
  | cons e l ih =>
    intro k hk
    cases k with
    | zero => exact ⟨rfl, rfl⟩
    | succ k =>
      have := ih k (by simpa using hk)
      have h1 : (k + 1) * 2 = k * 2 + 1 + 1 := by omega
      rw [h1]
      simpa [entC, nthE] using this
theorem rds_ent {w : World} {ao : Option Addr} {n cap : Nat} {l : List (Int × Int)} (h : RdS w ao n cap 2 (entC l)) (hl : l.length = n) {k : Nat} (hk : k < n) :
    ∃ b off, ao = some ⟨b, off, none⟩ ∧ b < w.heap.size ∧ ∀ w', Below w.heap.size w w' → w'.cell? ⟨b, off + k * 2, none⟩ = some (.int .u64 (nthE l k).1) ∧ w'.cell? ⟨b, off + k * 2 + 1, none⟩ = some (.int .i64 (nthE l k).2) := by
  obtain ⟨c0, c1⟩ := entC_at l k (by omega)
  obtain ⟨b, off, e, hb, h0⟩ := h.at_ _ _ c0
  obtain ⟨b1, off1, e1, hb1, h1⟩ := h.at_ _ _ c1
  subst e
  simp only [Option.some.injEq, Addr.mk.injEq, and_true] at e1
  obtain ⟨rfl, rfl⟩ := e1
  exact ⟨b, off, rfl, hb, fun w' hbl => ⟨(hbl.cell (p := ⟨b, off + k * 2, none⟩) hb).trans h0, (hbl.cell (p := ⟨b, off + k * 2 + 1, none⟩) hb).trans (by rw [← Nat.add_assoc] at h1; exact h1)⟩⟩

def aheadE (a c : Int × Int) : Bool := aheadB a.1 a.2 c.1 c.2
def orderI (a c : Int × Int) : Int := if aheadE a c = true then -1 else if a = c then 0 else 1
set_option maxHeartbeats 1000000 in
theorem order_any (a c : Int × Int) (w : World) :
    Calls Tryz.prog 120 #[.agg #[.int .u64 a.1, .int .i64 a.2], .agg #[.int .u64 c.1, .int .i64 c.2]] w fun e w' => e = .returned (.int .i64 (orderI a c)) ∧ Below w.heap.size w w' := by
  obtain ⟨k, i⟩ := a
  obtain ⟨l, j⟩ := c
  have hbox : Below w.heap.size w ((w.alloc (.cells #[.int .u64 k, .int .i64 i] 159)).alloc (.cells #[.int .u64 l, .int .i64 j] 159)) := (below1 _ _).alloc (by simp) _
  generalize hR : orderI (k, i) (l, j) = R
  go_enter Tryz.func120, Tryz.ntmps120
  go_wp2_with fail
  refine (ahead_any k i l j _).mono ?_
  rintro e w' ⟨rfl, hb⟩
  have B1 := ((Blk.new w [.int .u64 k, .int .i64 i] 159).alloc (.cells #[.int .u64 l, .int .i64 j] 159)).below hb
  have B2 := (Blk.new (w.alloc (.cells #[.int .u64 k, .int .i64 i] 159)) [.int .u64 l, .int .i64 j] 159).below hb
  rw [show (w.alloc (.cells #[.int .u64 k, .int .i64 i] 159)).heap.size = w.heap.size + 1 by simp] at B2
  have c0 := B1.cell 0
  have c1 := B1.cell 1
  have c2 := B2.cell 0
  have c3 := B2.cell 1
  simp only [List.getElem?_cons_succ, List.getElem?_cons_zero] at c0 c1 c2 c3
  have HB := Lib.hid (hbox.trans (hb.mono hbox.size))
  clear B1 B2 hbox hb
  cases ha : aheadB k i l j with
  | true =>
    have hR1 : R = -1 := by rw [← hR]; unfold orderI aheadE; rw [if_pos ha]
    subst hR1
    clear hR
    go_wp2
    go_ret
    exact ⟨rfl, HB.out⟩
  | false =>
    by_cases he : k = l ∧ i = j
    · obtain ⟨rfl, rfl⟩ := he
      have hR1 : R = 0 := by rw [← hR]; unfold orderI aheadE; rw [if_neg (by rw [ha]; simp), if_pos rfl]
      subst hR1
      clear hR
      go_wp2
      go_ret
      exact ⟨rfl, HB.out⟩
    · have hR1 : R = 1 := by rw [← hR]; unfold orderI aheadE; rw [if_neg (by rw [ha]; simp), if_neg (by simpa using he)]
      subst hR1
      clear hR
      by_cases h1 : k = l
      · have h2 : (i == j) = false := by simp; exact fun h2 => he ⟨h1, h2⟩
        subst h1
        clear he
        go_wp2
        go_ret
        exact ⟨rfl, HB.out⟩
      · have h2 : (k == l) = false := by simpa using h1
        clear he
        go_wp2
        go_ret
        exact ⟨rfl, HB.out⟩

/-- The least of the first k entries. -/
def minK (l : List (Int × Int)) : Nat → Int × Int
  | 0 => nthE l 0
  | k + 1 => if aheadE (nthE l k) (minK l k) = true then nthE l k else minK l k
def MinPost (w : World) (x : Int × Int) (e : Ending) (w' : World) : Prop := e = .returned (.agg #[.int .u64 x.1, .int .i64 x.2]) ∧ Below w.heap.size w w'

theorem aheadE_irrefl (a : Int × Int) : aheadE a a = false := by
  unfold aheadE aheadB
  simp
theorem minK_one (l : List (Int × Int)) : minK l 1 = nthE l 0 := by
  show (if aheadE (nthE l 0) (nthE l 0) = true then nthE l 0 else nthE l 0) = _
  split <;> rfl
theorem orderI_neg {a c : Int × Int} : orderI a c < 0 ↔ aheadE a c = true := by
  unfold orderI
  split
  · rename_i h; simp [h]
  · rename_i h
    split <;> simp [h]

set_option maxHeartbeats 1000000 in
theorem minFunc_any (ao : Option Addr) (n cap : Nat) (l : List (Int × Int)) (w : World) (h : RdS w ao n cap 2 (entC l)) (hl : l.length = n) (hn : 0 < n) :
    Calls Tryz.prog 119 #[.slice ao n cap, .func (.func 120) #[] #[]] w (MinPost w (minK l n)) := by
  have s0 := h.small
  have HL := Lib.hid hl
  have hlt1 : ¬ (n : Int) < 1 := by omega
  have hd1 : decide ((n : Int) < 1) = false := decide_eq_false hlt1
  obtain ⟨b0, o0, rfl, hlt0, hc0⟩ := rds_ent h HL.out (k := 0) hn
  have HC := Lib.hid hc0
  have hk0 := (hc0 _ (below1 w (.cells #[.int .u64 0, .int .i64 0] 159)))
  clear hl hc0
  obtain ⟨k0, k1⟩ := hk0
  simp only [Nat.zero_mul, Nat.add_zero] at k0 k1
  go_enter Tryz.func119, Tryz.ntmps119
  go_wp2_with fail
  go_loopw [6] (fun i wr => ∃ k : Nat, 1 ≤ k ∧ k ≤ n ∧ i = .int .i64 k ∧ Blk wr (w.heap.size + 1) [.int .u64 (minK l k).1, .int .i64 (minK l k).2] 159 ∧ Blk wr w.heap.size [.int .u64 0, .int .i64 0] 159 ∧ Below w.heap.size w wr) (fun i _ => n - (intOf i).toNat)
  case atStart =>
    have B1 := (Blk.new w [.int .u64 0, .int .i64 0] 159).alloc (.cells #[.int .u64 (nthE l 0).1, .int .i64 (nthE l 0).2] 159)
    have B2 := Blk.new (w.alloc (.cells #[.int .u64 0, .int .i64 0] 159)) [.int .u64 (nthE l 0).1, .int .i64 (nthE l 0).2] 159
    rw [show (w.alloc (.cells #[.int .u64 0, .int .i64 0] 159)).heap.size = w.heap.size + 1 by simp] at B2
    exact ⟨1, by omega, by omega, rfl, by rw [minK_one]; exact B2, B1, (below1 _ _).alloc (by simp) _⟩
  case round =>
    obtain ⟨k, hk1, hk, rfl, hB2, hB1, hbr⟩ := hrel
    have c0 := hB2.cell 0
    have c1 := hB2.cell 1
    have z0 := hB2.frozen 0
    have z1 := hB2.frozen 1
    have hlt2 := hB2.lt
    simp only [List.getElem?_cons_succ, List.getElem?_cons_zero] at c0 c1
    by_cases hl : k < n
    · obtain ⟨b1, o1, e1, hlt1', hc1⟩ := rds_ent h HL.out hl
      simp only [Option.some.injEq, Addr.mk.injEq, and_true] at e1
      obtain ⟨rfl, rfl⟩ := e1
      have i1 : (k : Int) < (n : Int) := by omega
      obtain ⟨n0, n1⟩ := hc1 _ hbr
      have HC1 := Lib.hid hc1
      have hM : minK l (k + 1) = if aheadE (nthE l k) (minK l k) = true then nthE l k else minK l k := rfl
      generalize hR : orderI (nthE l k) (minK l k) = R
      have hRn : R < 0 ↔ aheadE (nthE l k) (minK l k) = true := hR ▸ orderI_neg
      have HRn := Lib.hid hRn
      clear hc1 hRn
      go_wp2_with fail
      refine wp_region_held_drew (S := (fun w' => (w'.cell? ⟨b0, o0 + k * 2, none⟩ = some (.int .u64 (nthE l k).1) ∧ w'.cell? ⟨b0, o0 + k * 2 + 1, none⟩ = some (.int .i64 (nthE l k).2)) ∧ w'.cell? ⟨w.heap.size + 1, 0, none⟩ = some (.int .u64 (minK l k).1) ∧ w'.cell? ⟨w.heap.size + 1, 1, none⟩ = some (.int .i64 (minK l k).2))) (by kernel_rfl) ?_ (fun hHeld => ?_)
      · exact ⟨⟨n0, n1⟩, c0, c1⟩
      refine wpAnyH_take (i := 0) (v := ?_) rfl (by kernel_rfl) (by kernel_rfl) (by kernel_rfl) (fun _ _ _ h => h) (Or.inl ⟨by rfl, ?_⟩) (by assumption) ?_
      rotate_left
      · intro w hSw
        (try dsimp only at hSw)
        first | (go_simp; done) | (go_simp; with_reducible rfl)
      try simp only [List.getElem_toArray, List.getElem_cons_succ, List.getElem_cons_zero, Act.put, List.setIfInBounds_toArray, List.set_cons_zero, List.set_cons_succ]
      refine wpAnyH_take (i := 1) (v := ?_) rfl (by kernel_rfl) (by kernel_rfl) (by kernel_rfl) (fun _ _ _ h => h) (Or.inl ⟨by rfl, ?_⟩) (by assumption) ?_
      rotate_left
      · intro w hSw
        (try dsimp only at hSw)
        first | (go_simp; done) | (go_simp; with_reducible rfl)
      try simp only [List.getElem_toArray, List.getElem_cons_succ, List.getElem_cons_zero, Act.put, List.setIfInBounds_toArray, List.set_cons_zero, List.set_cons_succ]
      refine wpAnyH_take (i := 2) (v := ?_) rfl (by kernel_rfl) (by kernel_rfl) (by kernel_rfl) (fun _ _ _ h => h) (Or.inl ⟨by rfl, ?_⟩) (by assumption) ?_
      rotate_left
      · intro w hSw
        (try dsimp only at hSw)
        first | (go_simp; done) | (go_simp; with_reducible rfl)
      try simp only [List.getElem_toArray, List.getElem_cons_succ, List.getElem_cons_zero, Act.put, List.setIfInBounds_toArray, List.set_cons_zero, List.set_cons_succ]
      refine wpAnyH_take (i := 3) (v := ?_) rfl (by kernel_rfl) (by kernel_rfl) (by kernel_rfl) (fun _ _ _ h => h) (Or.inl ⟨by rfl, ?_⟩) (by assumption) ?_
      rotate_left
      · intro w hSw
        (try dsimp only at hSw)
        first | (go_simp; done) | (go_simp; with_reducible rfl)
      try simp only [List.getElem_toArray, List.getElem_cons_succ, List.getElem_cons_zero, Act.put, List.setIfInBounds_toArray, List.set_cons_zero, List.set_cons_succ]
      refine wpAnyH_take (i := 4) (v := ?_) rfl (by kernel_rfl) (by kernel_rfl) (by kernel_rfl) (fun _ _ _ h => h) (Or.inl ⟨by rfl, ?_⟩) (by assumption) ?_
      rotate_left
      · intro w hSw
        (try dsimp only at hSw)
        first | (go_simp; done) | (go_simp; with_reducible rfl)
      try simp only [List.getElem_toArray, List.getElem_cons_succ, List.getElem_cons_zero, Act.put, List.setIfInBounds_toArray, List.set_cons_zero, List.set_cons_succ]
      refine wpAnyH_take (i := 5) (v := ?_) rfl (by kernel_rfl) (by kernel_rfl) (by kernel_rfl) (fun _ _ _ h => h) (Or.inl ⟨by rfl, ?_⟩) (by assumption) ?_
      rotate_left
      · intro w hSw
        (try dsimp only at hSw)
        first | (go_simp; done) | (go_simp; with_reducible rfl)
      try simp only [List.getElem_toArray, List.getElem_cons_succ, List.getElem_cons_zero, Act.put, List.setIfInBounds_toArray, List.set_cons_zero, List.set_cons_succ]
      refine wpAnyH_ready (rs := [6]) (by kernel_rfl) (by simp) ?_
      refine AllReadyH.cons rfl (fun K hK => ?_) AllReadyH.nil
      go_simp
      (go_at_call 120; refine (order_any (nthE l k) (minK l k) _).mono ?_; rw [hR]; rintro e w2 ⟨rfl, hb2⟩)
      refine hK.out _ _ ?_ (fun hHeld => ?_)
      · exact ⟨HC1.out _ (hbr.trans (((Below.refl wr.heap.size wr).drew.trans hb2).mono hbr.size)), ((hB2.drew).below hb2).cell 0, ((hB2.drew).below hb2).cell 1⟩
      clear hK K
      try simp only [List.getElem_toArray, List.getElem_cons_succ, List.getElem_cons_zero, Act.put, List.setIfInBounds_toArray, List.set_cons_zero, List.set_cons_succ]
      refine wpAnyH_take (i := 7) (v := ?_) rfl (by kernel_rfl) (by kernel_rfl) (by kernel_rfl) (fun _ _ _ h => h) (Or.inl ⟨by rfl, ?_⟩) (by assumption) ?_
      rotate_left
      · intro w hSw
        (try dsimp only at hSw)
        first | (go_simp; done) | (go_simp; with_reducible rfl)
      try simp only [List.getElem_toArray, List.getElem_cons_succ, List.getElem_cons_zero, Act.put, List.setIfInBounds_toArray, List.set_cons_zero, List.set_cons_succ]
      refine wpAnyH_done (by kernel_rfl) ?_ _
      obtain ⟨⟨m0, m1⟩, d0, d1⟩ := hHeld
      have hbw : Below wr.heap.size wr w2 := (Below.refl wr.heap.size wr).drew.trans hb2
      have hbr2 := hbr.trans (hbw.mono hbr.size)
      have B2' := hB2.below hbw
      have B1' := hB1.below hbw
      have z0 := B2'.frozen 0
      have z1 := B2'.frozen 1
      have HB := Lib.hid B2'
      have HBB := Lib.hid B1'
      have HM := Lib.hid hM
      clear hb2 hB2 hB1 c0 c1 hM B2' B1'
      by_cases ha : aheadE (nthE l k) (minK l k) = true
      · have hd : decide (R < 0) = true := decide_eq_true (HRn.out.2 ha)
        have hR0 := HRn.out.2 ha
        clear hR
        go_wp2
        go_roundw
        case rel =>
          refine ⟨k + 1, by omega, by omega, by go_num, ?_, ?_, (hbr2.setCell (Nat.le_succ _) _).setCell (Nat.le_succ _) _⟩
          · rw [HM.out, if_pos ha]; exact (HB.out.set 0 (.int .u64 (nthE l k).1)).set 1 (.int .i64 (nthE l k).2)
          · exact (HBB.out.set_far (by simp) _).set_far (by simp) _
        case measure => simp [intOf]; omega
      · have hd : decide (R < 0) = false := decide_eq_false (fun h => ha (HRn.out.1 h))
        have hR0 : ¬ R < 0 := fun h => ha (HRn.out.1 h)
        clear hR
        go_wp2
        go_roundw
        case rel => exact ⟨k + 1, by omega, by omega, by go_num, by rw [HM.out, if_neg ha]; exact HB.out, HBB.out, hbr2⟩
        case measure => simp [intOf]; omega
    · obtain rfl : k = n := by omega
      have y0 := hB1.frozen 0
      have y1 := hB1.frozen 1
      have x0 := hB1.cell 0
      have x1 := hB1.cell 1
      simp only [List.getElem?_cons_succ, List.getElem?_cons_zero] at x0 x1
      have hBel := Lib.hid hbr
      generalize hX : minK l k = X at *
      clear hB1 hB2 hbr
      go_wp2
      refine bodyPost_ret (v := .agg #[.int .u64 X.1, .int .i64 X.2]) (by simp [results, Tryz.results119, go_sem, x0, x1, y0, y1]) rfl ⟨by rfl, ?_⟩
      exact (hBel.out.setCell (Nat.le_refl _) _).setCell (Nat.le_refl _) _
end Go.Proofs.YtdjooacjjnjfmaaGreat
end

-- A set of flows: who is first, whatever the order; one packet served, as plain data.
section
namespace Go.Proofs.YtdjooacjjnjfmaaGreat
set_option linter.unusedVariables false
set_option linter.unusedSimpArgs false
set_option maxRecDepth 20000
open Go.RowKit Go.Proofs.YtdjooacjjnjfmaaGreatMem Go.Proofs.YtdjooacjjnjfmaaGreatMapK

theorem aheadE_total {a c : Int × Int} (h1 : aheadE a c = false) (h2 : aheadE c a = false) : a = c := by
  unfold aheadE aheadB at h1 h2
  simp only [decide_eq_false_iff_not] at h1 h2
  obtain ⟨k, i⟩ := a
  obtain ⟨l, j⟩ := c
  simp only at h1 h2
  have : k = l := by omega
  have : i = j := by omega
  simp [*]
theorem aheadE_trans {a c d : Int × Int} (h1 : aheadE a c = true) (h2 : aheadE c d = true) : aheadE a d = true := by
  unfold aheadE aheadB at *
  simp only [decide_eq_true_eq] at *
  omega
theorem aheadE_negtrans {a c d : Int × Int} (h1 : aheadE a c = true) (h2 : aheadE d c = false) : aheadE d a = false := by
  unfold aheadE aheadB at *
  simp only [decide_eq_true_eq, decide_eq_false_iff_not] at *
  omega
theorem nthE_mem {l : List (Int × Int)} {k : Nat} (hk : k < l.length) : nthE l k ∈ l := by
  unfold nthE
  rw [List.getD_eq_getElem?_getD, List.getElem?_eq_getElem hk]
  exact List.getElem_mem hk
/-- m is the first of l. -/
def IsFirst (l : List (Int × Int)) (m : Int × Int) : Prop := m ∈ l ∧ ∀ e ∈ l, aheadE e m = false
theorem IsFirst.unique {l : List (Int × Int)} {m m' : Int × Int} (h : IsFirst l m) (h' : IsFirst l m') : m = m' := aheadE_total (h'.2 m h.1) (h.2 m' h'.1)
theorem IsFirst.perm {l l' : List (Int × Int)} {m : Int × Int} (h : IsFirst l m) (hp : List.Perm l l') : IsFirst l' m := ⟨hp.mem_iff.1 h.1, fun e he => h.2 e (hp.mem_iff.2 he)⟩
theorem minK_first (l : List (Int × Int)) : ∀ k, k ≤ l.length → 0 < k → minK l k ∈ l ∧ ∀ j, j < k → aheadE (nthE l j) (minK l k) = false
  | 0, _, h => absurd h (Nat.lt_irrefl _)
  | 1, hk, _ => by
    rw [minK_one]
    refine ⟨nthE_mem (by omega), fun j hj => ?_⟩
    obtain rfl : j = 0 := by omega
    exact aheadE_irrefl _
  | k + 2, hk, _ => by
    obtain ⟨h1, h2⟩ := minK_first l (k + 1) (by omega) (by omega)
    have he : minK l (k + 2) = if aheadE (nthE l (k + 1)) (minK l (k + 1)) = true then nthE l (k + 1) else minK l (k + 1) := rfl
    rw [he]
    by_cases ha : aheadE (nthE l (k + 1)) (minK l (k + 1)) = true
    · rw [if_pos ha]
      refine ⟨nthE_mem (by omega), fun j hj => ?_⟩
      by_cases hj' : j = k + 1
      · subst hj'; exact aheadE_irrefl _
      · exact aheadE_negtrans ha (h2 j (by omega))
    · rw [if_neg ha]
      refine ⟨h1, fun j hj => ?_⟩
      by_cases hj' : j = k + 1
      · subst hj'; simpa using ha
      · exact h2 j (by omega)
theorem minK_isFirst {l : List (Int × Int)} (h : l ≠ []) : IsFirst l (minK l l.length) := by
  obtain ⟨h1, h2⟩ := minK_first l l.length (Nat.le_refl _) (List.length_pos_iff.2 h)
  refine ⟨h1, fun e he => ?_⟩
  obtain ⟨j, hj⟩ := List.getElem?_of_mem he
  have hj' : j < l.length := by
    rcases Nat.lt_or_ge j l.length with h | h
    · exact h
    · rw [List.getElem?_eq_none h] at hj; cases hj
  have := h2 j hj'
  unfold nthE at this
  rw [List.getD_eq_getElem?_getD, hj] at this
  exact this
theorem minK_perm {l l' : List (Int × Int)} (hp : List.Perm l l') (h : l ≠ []) : minK l l.length = minK l' l'.length :=
  ((minK_isFirst h).perm hp).unique (minK_isFirst fun e => h (by subst e; exact hp.eq_nil))

def SfS.first (s : SfS) : Int × Int := minK (entL s.fs) (entL s.fs).length
def SfS.serve (s : SfS) : SfS := if entL s.fs = [] then { s with v := max s.v s.most } else match getF s.fs s.first.2 with | none => s | some x => ⟨s.first.1, max s.most x.out, setF s.fs s.first.2 x.serve⟩
def SfS.has (s : SfS) : Bool := !(entL s.fs).isEmpty
def SfS.head (s : SfS) : Pk := if entL s.fs = [] then Pk.zero else match getF s.fs s.first.2 with | none => Pk.zero | some x => x.head
theorem entL_mem {fs : List (Int × FlS)} {p : Int × Int} (h : p ∈ entL fs) : ∃ e ∈ fs, e.2.has = true ∧ p = (e.2.start, e.1) := by
  unfold entL at h
  obtain ⟨e, he, rfl⟩ := List.mem_map.1 h
  obtain ⟨h1, h2⟩ := List.mem_filter.1 he
  exact ⟨e, h1, h2, rfl⟩
/-- Who is first is one of the flows, with a packet. -/
theorem SfqR.first {w : World} {b mb : Nat} {v most : Int} {l : List FlR} {F : Nat → Prop} (h : SfqR w b mb v most l F) (hne : entR l ≠ []) :
    ∃ e ∈ l, e.x.has = true ∧ minK (entR l) (entR l).length = (e.x.start, e.id) ∧ getR l e.id = some e := by
  obtain ⟨q, hq, h1, h2⟩ := entL_mem (minK_isFirst hne).1
  obtain ⟨e, he, rfl⟩ := List.mem_map.1 hq
  refine ⟨e, he, h1, h2, ?_⟩
  cases hg : getR l e.id with
  | none => exact absurd rfl (getR_none.1 hg e he)
  | some e' => obtain ⟨h3, h4⟩ := getR_some hg; rw [h.same h3 he h4]
end Go.Proofs.YtdjooacjjnjfmaaGreat
end

-- A set of flows: one packet served.
section
namespace Go.Proofs.YtdjooacjjnjfmaaGreat
set_option linter.unusedVariables false
set_option linter.unusedSimpArgs false
set_option maxRecDepth 20000
open Go.RowKit Go.Proofs.YtdjooacjjnjfmaaGreatMem Go.Proofs.YtdjooacjjnjfmaaGreatMapK

theorem SfqR.setV {w : World} {b mb : Nat} {v most : Int} {l : List FlR} {F : Nat → Prop} (h : SfqR w b mb v most l F) (x : Int) : SfqR (w.setCell ⟨b, 1, none⟩ (.int .u64 x)) b mb x most l F ∧ Fr F w (w.setCell ⟨b, 1, none⟩ (.int .u64 x)) := by
  have hf : Fr (fun k => k = b) w (w.setCell ⟨b, 1, none⟩ (.int .u64 x)) := Fr.setCell (S := fun k => k = b) (a := ⟨b, 1, none⟩) (Fr.refl _ w) (.inl rfl) _
  refine ⟨{ blk := h.blk.set 1 _, map := h.map.of_eq (hf.block mb (h.lt mb h.hm) (fun e => h.ne e.symm)), flows := fun e he => (h.flows e he).fr hf fun k hk e' => (h.sub e he k hk).2.1 e', hb := h.hb, hm := h.hm, ne := h.ne, sub := h.sub, disj := h.disj, lt := h.lt.mono hf.size, ok := h.ok }, Fr.setCell (S := F) (a := ⟨b, 1, none⟩) (Fr.refl _ w) (.inl h.hb) _⟩
theorem SfqR.setMost {w : World} {b mb : Nat} {v most : Int} {l : List FlR} {F : Nat → Prop} (h : SfqR w b mb v most l F) (x : Int) : SfqR (w.setCell ⟨b, 2, none⟩ (.int .u64 x)) b mb v x l F ∧ Fr F w (w.setCell ⟨b, 2, none⟩ (.int .u64 x)) := by
  have hf : Fr (fun k => k = b) w (w.setCell ⟨b, 2, none⟩ (.int .u64 x)) := Fr.setCell (S := fun k => k = b) (a := ⟨b, 2, none⟩) (Fr.refl _ w) (.inl rfl) _
  refine ⟨{ blk := h.blk.set 2 _, map := h.map.of_eq (hf.block mb (h.lt mb h.hm) (fun e => h.ne e.symm)), flows := fun e he => (h.flows e he).fr hf fun k hk e' => (h.sub e he k hk).2.1 e', hb := h.hb, hm := h.hm, ne := h.ne, sub := h.sub, disj := h.disj, lt := h.lt.mono hf.size, ok := h.ok }, Fr.setCell (S := F) (a := ⟨b, 2, none⟩) (Fr.refl _ w) (.inl h.hb) _⟩

set_option maxHeartbeats 1000000 in
theorem serveS_none (b : Nat) (s : SfS) (F : Nat → Prop) (w : World) (h : SfsAt w b s F) (hn : s.fs.length ≤ 1000000) (he : entL s.fs = []) :
    Calls Tryz.prog 102 #[.pointer (some ⟨b, 0, none⟩)] w fun e w' => e = .returned (.tuple #[Pk.zero.val, .bool false]) ∧ SfsPost b { s with v := max s.v s.most } F w w' := by
  have hcase : (s.v < s.most ∧ max s.v s.most = s.most) ∨ (s.most ≤ s.v ∧ max s.v s.most = s.v) := by omega
  have hs0 := h.below (below1 w (.cells #[.int .i64 0, .int .i64 0, .int .i64 0] 59))
  have HS := Lib.hid hs0
  have hF := h.lt
  have hF9 := h.lt
  have hsz0 : (w.alloc (.cells #[.int .i64 0, .int .i64 0, .int .i64 0] 59)).heap.size = w.heap.size + 1 := by simp
  have B0 := Lib.hid (Blk.new w [.int .i64 0, .int .i64 0, .int .i64 0] 59)
  have hb0 := below1 w (.cells #[.int .i64 0, .int .i64 0, .int .i64 0] 59)
  rcases hcase with ⟨hv, hm⟩ | ⟨hv, hm⟩
  · rw [hm]
    go_enter Tryz.func102, Tryz.ntmps102
    go_wp2_with fail
    refine (entries_any b s F _ HS.out hn).mono ?_
    rintro e w1 ⟨v, es, rfl, hp, hown, hb1⟩
    rw [he] at hp
    obtain rfl := hp.eq_nil
    obtain ⟨a1, c1, rfl⟩ := owns_slice hown
    obtain ⟨mb, l, hl, hR⟩ := (HS.out.below hb1)
    have B1 := B0.out.below hb1
    have HR := Lib.hid hR
    have d1 := hR.blk.cell 1
    have d2 := hR.blk.cell 2
    have z1 := hR.blk.frozen 1
    simp only [List.getElem?_cons_succ, List.getElem?_cons_zero] at d1 d2
    have hbw := hb0.trans (hb1.mono hb0.size)
    have hF := h.lt
    clear hR hown
    go_upto_region 3 with fail
    go_region
    obtain ⟨hR2, hF2⟩ := HR.out.setV s.most
    replace hR2 := hR2.below (Below.refl _ _).drew
    replace hF2 := hF2.drew
    have hz2 : ∀ i : Nat, (w1.setCell ⟨b, 1, none⟩ (.int .u64 s.most)).drew.heap[w.heap.size]? = w1.heap[w.heap.size]? := fun _ => Below.heap_setCell w1 ⟨b, 1, none⟩ _ w.heap.size (by have := hF b HR.out.hb; intro e; simp only at e; omega)
    have B2 := B1.of_eq (hz2 0)
    have hsz2 : w.heap.size < (w1.setCell ⟨b, 1, none⟩ (.int .u64 s.most)).drew.heap.size := B2.lt
    generalize (w1.setCell ⟨b, 1, none⟩ (.int .u64 s.most)).drew = W2 at *
    have y0 := B2.cell 0
    have y1 := B2.cell 1
    have y2 := B2.cell 2
    have x0 := B2.frozen 0
    have x1 := B2.frozen 1
    have x2 := B2.frozen 2
    simp only [List.getElem?_cons_succ, List.getElem?_cons_zero] at y0 y1 y2
    have HR2 := Lib.hid hR2
    clear hR2 B2 hz2 d1 d2 z1 HR
    have HF2 := Lib.hid hF2
    clear hF2
    go_wp2
    refine bodyPost_ret (v := .tuple #[.agg #[.int .i64 0, .int .i64 0, .int .i64 0], .bool false]) (by simp [results, Tryz.results102, go_sem, y0, y1, y2, x0, x1, x2]) rfl ⟨rfl, ?_⟩
    have hS : Fr (fun k => k = w.heap.size) W2 (((W2.setCell ⟨w.heap.size, 0, none⟩ (.int .i64 0)).setCell ⟨w.heap.size, 1, none⟩ (.int .i64 0)).setCell ⟨w.heap.size, 2, none⟩ (.int .i64 0)) :=
      Fr.setCell (S := fun k => k = w.heap.size) (a := ⟨w.heap.size, 2, none⟩) (Fr.setCell (S := fun k => k = w.heap.size) (a := ⟨w.heap.size, 1, none⟩) (Fr.setCell (S := fun k => k = w.heap.size) (a := ⟨w.heap.size, 0, none⟩) (Fr.refl _ _) (.inl rfl) _) (.inl rfl) _) (.inl rfl) _
    have hT : Fr F w (((W2.setCell ⟨w.heap.size, 0, none⟩ (.int .i64 0)).setCell ⟨w.heap.size, 1, none⟩ (.int .i64 0)).setCell ⟨w.heap.size, 2, none⟩ (.int .i64 0)) :=
      (((Fr.after_below hbw HF2.out).setCell (a := ⟨w.heap.size, 0, none⟩) (.inr (Nat.le_refl _)) _).setCell (a := ⟨w.heap.size, 1, none⟩) (.inr (Nat.le_refl _)) _).setCell (a := ⟨w.heap.size, 2, none⟩) (.inr (Nat.le_refl _)) _
    refine ⟨⟨mb, l, hl, (HR2.out.fr hS fun k hk e => ?_).mono (fun k hk => .inl hk) (hF.ext hT.size)⟩, hT⟩
    have := hF k hk
    omega
  · rw [hm]
    go_enter Tryz.func102, Tryz.ntmps102
    go_wp2_with fail
    refine (entries_any b s F _ HS.out hn).mono ?_
    rintro e w1 ⟨v, es, rfl, hp, hown, hb1⟩
    rw [he] at hp
    obtain rfl := hp.eq_nil
    obtain ⟨a1, c1, rfl⟩ := owns_slice hown
    obtain ⟨mb, l, hl, hR⟩ := (HS.out.below hb1)
    have B1 := B0.out.below hb1
    have HR := Lib.hid hR
    have d1 := hR.blk.cell 1
    have d2 := hR.blk.cell 2
    have z1 := hR.blk.frozen 1
    simp only [List.getElem?_cons_succ, List.getElem?_cons_zero] at d1 d2
    have hbw := hb0.trans (hb1.mono hb0.size)
    have hF := h.lt
    clear hR hown
    go_upto_region 3 with fail
    go_region
    obtain ⟨hR2, hF2⟩ := HR.out.setV s.v
    replace hR2 := hR2.below (Below.refl _ _).drew
    replace hF2 := hF2.drew
    have hz2 : ∀ i : Nat, (w1.setCell ⟨b, 1, none⟩ (.int .u64 s.v)).drew.heap[w.heap.size]? = w1.heap[w.heap.size]? := fun _ => Below.heap_setCell w1 ⟨b, 1, none⟩ _ w.heap.size (by have := hF b HR.out.hb; intro e; simp only at e; omega)
    have B2 := B1.of_eq (hz2 0)
    have hsz2 : w.heap.size < (w1.setCell ⟨b, 1, none⟩ (.int .u64 s.v)).drew.heap.size := B2.lt
    generalize (w1.setCell ⟨b, 1, none⟩ (.int .u64 s.v)).drew = W2 at *
    have y0 := B2.cell 0
    have y1 := B2.cell 1
    have y2 := B2.cell 2
    have x0 := B2.frozen 0
    have x1 := B2.frozen 1
    have x2 := B2.frozen 2
    simp only [List.getElem?_cons_succ, List.getElem?_cons_zero] at y0 y1 y2
    have HR2 := Lib.hid hR2
    clear hR2 B2 hz2 d1 d2 z1 HR
    have HF2 := Lib.hid hF2
    clear hF2
    go_wp2
    refine bodyPost_ret (v := .tuple #[.agg #[.int .i64 0, .int .i64 0, .int .i64 0], .bool false]) (by simp [results, Tryz.results102, go_sem, y0, y1, y2, x0, x1, x2]) rfl ⟨rfl, ?_⟩
    have hS : Fr (fun k => k = w.heap.size) W2 (((W2.setCell ⟨w.heap.size, 0, none⟩ (.int .i64 0)).setCell ⟨w.heap.size, 1, none⟩ (.int .i64 0)).setCell ⟨w.heap.size, 2, none⟩ (.int .i64 0)) :=
      Fr.setCell (S := fun k => k = w.heap.size) (a := ⟨w.heap.size, 2, none⟩) (Fr.setCell (S := fun k => k = w.heap.size) (a := ⟨w.heap.size, 1, none⟩) (Fr.setCell (S := fun k => k = w.heap.size) (a := ⟨w.heap.size, 0, none⟩) (Fr.refl _ _) (.inl rfl) _) (.inl rfl) _) (.inl rfl) _
    have hT : Fr F w (((W2.setCell ⟨w.heap.size, 0, none⟩ (.int .i64 0)).setCell ⟨w.heap.size, 1, none⟩ (.int .i64 0)).setCell ⟨w.heap.size, 2, none⟩ (.int .i64 0)) :=
      (((Fr.after_below hbw HF2.out).setCell (a := ⟨w.heap.size, 0, none⟩) (.inr (Nat.le_refl _)) _).setCell (a := ⟨w.heap.size, 1, none⟩) (.inr (Nat.le_refl _)) _).setCell (a := ⟨w.heap.size, 2, none⟩) (.inr (Nat.le_refl _)) _
    refine ⟨⟨mb, l, hl, (HR2.out.fr hS fun k hk e => ?_).mono (fun k hk => .inl hk) (hF.ext hT.size)⟩, hT⟩
    have := hF k hk
    omega
end Go.Proofs.YtdjooacjjnjfmaaGreat
end

-- A set of flows: one packet served, next.
section
namespace Go.Proofs.YtdjooacjjnjfmaaGreat
set_option linter.unusedVariables false
set_option linter.unusedSimpArgs false
set_option maxRecDepth 20000
open Go.RowKit Go.Proofs.YtdjooacjjnjfmaaGreatMem Go.Proofs.YtdjooacjjnjfmaaGreatMapK

/-- Behind the flow's own serving: the packet lies in a block of its own. -/
structure SrvSt (w wx : World) (b mb : Nat) (v most : Int) (l : List FlR) (F : Nat → Prop) (e : FlR) (B6 : Nat) : Prop where
  sfq : ∃ G, SfqR wx b mb v most (setR l e.id e.x.serve G) fun k => F k ∨ (w.heap.size < k ∧ k < wx.heap.size)
  fr : Fr F w wx
  pk : Blk wx B6 e.x.head.cells 59
  res : Blk wx w.heap.size [.int .i64 0, .int .i64 0, .int .i64 0] 59
  far : w.heap.size < B6

set_option maxHeartbeats 2000000 in
theorem serveS_some (b : Nat) (s : SfS) (F : Nat → Prop) (w : World) (h : SfsAt w b s F) (ok : s.Ok) (hn : s.fs.length ≤ 1000000) (he : entL s.fs ≠ []) :
    Calls Tryz.prog 102 #[.pointer (some ⟨b, 0, none⟩)] w fun e w' => e = .returned (.tuple #[s.head.val, .bool true]) ∧ SfsPost b s.serve F w w' := by
  have hs0 := h.below (below1 w (.cells #[.int .i64 0, .int .i64 0, .int .i64 0] 59))
  have HS := Lib.hid hs0
  have hF := h.lt
  have hsz0 : (w.alloc (.cells #[.int .i64 0, .int .i64 0, .int .i64 0] 59)).heap.size = w.heap.size + 1 := by simp
  have B0 := Lib.hid (Blk.new w [.int .i64 0, .int .i64 0, .int .i64 0] 59)
  have hb0 := below1 w (.cells #[.int .i64 0, .int .i64 0, .int .i64 0] 59)
  have HE := Lib.hid he
  clear he h hs0
  go_enter Tryz.func102, Tryz.ntmps102
  go_wp2_with fail
  refine (entries_any b s F _ HS.out hn).mono ?_
  rintro e w1 ⟨v, es, rfl, hp, hown, hb1⟩
  obtain ⟨a1, c1, rfl⟩ := owns_slice hown
  obtain ⟨mb, l, hl, hR⟩ := (HS.out.below hb1)
  have hne : es ≠ [] := fun h0 => HE.out (by subst h0; exact hp.symm.eq_nil)
  have hnl : entR l ≠ [] := by unfold entR; rw [hl]; exact HE.out
  obtain ⟨e, hel, hhas, hX, hg⟩ := hR.first hnl
  have hX2 : minK es es.length = (e.x.start, e.id) := by rw [minK_perm hp hne, ← hl]; exact hX
  have hlen : 0 < es.length := List.length_pos_iff.2 hne
  have e1 : ((es.length : Int) == 0) = false := by simp; omega
  have hrd := owns_rdS hown (entC_one es)
  have B1 := B0.out.below hb1
  have hbw := hb0.trans (hb1.mono hb0.size)
  have HR := Lib.hid hR
  clear hR hown hp hne hnl
  go_upto_region 5 with fail
  go_wp2_with fail
  refine (minFunc_any _ _ _ es w1 hrd rfl hlen).mono ?_
  unfold MinPost
  rw [hX2]
  rintro e' w2 ⟨rfl, hb2⟩
  go_upto_region 6 with fail
  have hb3 := below1 w2 (.cells #[.int .u64 e.x.start, .int .i64 e.id] 159)
  have hR3 := (HR.out.below hb2).below hb3
  have B5 := Blk.new w2 [.int .u64 e.x.start, .int .i64 e.id] 159
  have B3 := (B1.below hb2).below hb3
  have hbw3 := (hbw.trans (hb2.mono hbw.size)).trans (hb3.mono (Nat.le_trans hbw.size hb2.size))
  have hb5 : w.heap.size < w2.heap.size := (B1.below hb2).lt
  generalize w2.heap.size = b5 at *
  generalize w2.alloc (.cells #[.int .u64 e.x.start, .int .i64 e.id] 159) = W3 at *
  have k0 := B5.cell 0
  have k1 := B5.cell 1
  have z1 := hR3.blk.frozen 1
  have z0 := hR3.blk.cell 1
  simp only [List.getElem?_cons_succ, List.getElem?_cons_zero] at z0 k0 k1
  have HR3 := Lib.hid hR3
  clear hR3
  go_upto_region 7 with fail
  obtain ⟨hR4, hF4⟩ := HR3.out.setV e.x.start
  have hbn : b ≠ b5 := by have := hF b HR3.out.hb; omega
  have hbw0 : b ≠ w.heap.size := by have := hF b HR3.out.hb; omega
  have B5' := B5.set_far (a := ⟨b, 1, none⟩) (fun e => hbn e.symm) (.int .u64 e.x.start)
  have B3' := B3.set_far (a := ⟨b, 1, none⟩) (fun e => hbw0 e.symm) (.int .u64 e.x.start)
  have hF5 := Fr.after_below hbw3 hF4
  generalize W3.setCell ⟨b, 1, none⟩ (.int .u64 e.x.start) = W4 at *
  have m0 := hR4.blk.cell 0
  have n1 := B5'.cell 1
  simp only [List.getElem?_cons_succ, List.getElem?_cons_zero] at m0 n1
  have HR4 := Lib.hid hR4
  have hbl := HR4.out.blk.lt
  have hlt5 := B5'.lt
  have hEX := HR4.out.ok e hel
  clear hR4 B5 B3 z0 z1 k0 k1 HR3
  go_cut [6, 7, 8] from 34 to 45 (fun s6 s7 s8 wx => ∃ B6, s6 = .pointer (some ⟨B6, 0, none⟩) ∧ s7 = .int .u64 e.x.out ∧ SrvSt w wx b mb e.x.start s.most l F e B6)
  case first =>
    have hlk0 : ∀ w', IsMapAt w' mb (Value.int .i64) (l.map FlR.ent) → (Instr.lookup 136 (.map (some mb)) (.int .i64 e.id) false).run Tryz.prog w' = .ok (.pointer (some ⟨e.b, 0, none⟩)) w' := fun w' hm => by
      have := run_lookup intKey under_mapF (zero_ptrF w') hm e.id
      rw [getM_ent, hg] at this
      exact this
    refine wp_region_held_drew (S := fun w' => w'.cell? ⟨b, 0, none⟩ = some (.map (some mb)) ∧ w'.cell? ⟨b5, 1, none⟩ = some (.int .i64 e.id) ∧ (Instr.lookup 136 (.map (some mb)) (.int .i64 e.id) false).run Tryz.prog w' = .ok (.pointer (some ⟨e.b, 0, none⟩)) w') (by kernel_rfl) ?_ (fun hHeld => ?_)
    · exact ⟨m0, n1, hlk0 W4.drew (HR4.out.below (Below.refl _ _).drew).map⟩
    refine wpAnyH_take (i := 0) (v := ?_) rfl (by kernel_rfl) (by kernel_rfl) (by kernel_rfl) (fun _ _ _ h => h) (Or.inl ⟨by rfl, ?_⟩) (by assumption) ?_
    rotate_left
    · intro w hSw
      (try dsimp only at hSw)
      first | (go_simp; done) | (go_simp; with_reducible rfl)
    try simp only [List.getElem_toArray, List.getElem_cons_succ, List.getElem_cons_zero, Act.put, List.setIfInBounds_toArray, List.set_cons_zero, List.set_cons_succ]
    refine wpAnyH_take (i := 1) (v := ?_) rfl (by kernel_rfl) (by kernel_rfl) (by kernel_rfl) (fun _ _ _ h => h) (Or.inl ⟨by rfl, ?_⟩) (by assumption) ?_
    rotate_left
    · intro w hSw
      (try dsimp only at hSw)
      first | (go_simp; done) | (go_simp; with_reducible rfl)
    try simp only [List.getElem_toArray, List.getElem_cons_succ, List.getElem_cons_zero, Act.put, List.setIfInBounds_toArray, List.set_cons_zero, List.set_cons_succ]
    refine wpAnyH_take (i := 2) (v := ?_) rfl (by kernel_rfl) (by kernel_rfl) (by kernel_rfl) (fun _ _ _ h => h) (Or.inl ⟨by rfl, ?_⟩) (by assumption) ?_
    rotate_left
    · intro w hSw
      (try dsimp only at hSw)
      first | (go_simp; done) | (go_simp; with_reducible rfl)
    try simp only [List.getElem_toArray, List.getElem_cons_succ, List.getElem_cons_zero, Act.put, List.setIfInBounds_toArray, List.set_cons_zero, List.set_cons_succ]
    refine wpAnyH_take (i := 3) (v := ?_) rfl (by kernel_rfl) (by kernel_rfl) (by kernel_rfl) (fun _ _ _ h => h) (Or.inl ⟨by rfl, ?_⟩) (by assumption) ?_
    rotate_left
    · intro w hSw
      (try dsimp only at hSw)
      first | (go_simp; done) | (go_simp; with_reducible rfl)
    try simp only [List.getElem_toArray, List.getElem_cons_succ, List.getElem_cons_zero, Act.put, List.setIfInBounds_toArray, List.set_cons_zero, List.set_cons_succ]
    refine wpAnyH_take (i := 4) (v := ?_) rfl (by kernel_rfl) (by kernel_rfl) (by kernel_rfl) (fun _ _ _ h => h) (Or.inl ⟨by rfl, ?_⟩) (by assumption) ?_
    rotate_left
    · intro w hSw
      (try dsimp only at hSw)
      first | (go_simp; done) | (go_simp; with_reducible rfl)
    try simp only [List.getElem_toArray, List.getElem_cons_succ, List.getElem_cons_zero, Act.put, List.setIfInBounds_toArray, List.set_cons_zero, List.set_cons_succ]
    refine wpAnyH_take (i := 5) (v := ?_) rfl (by kernel_rfl) (by kernel_rfl) (by kernel_rfl) (fun _ _ _ h => h) (Or.inl ⟨by rfl, ?_⟩) (by assumption) ?_
    rotate_left
    · intro w hSw
      (try dsimp only at hSw)
      first | (go_simp; done) | (go_simp; with_reducible rfl)
    try simp only [List.getElem_toArray, List.getElem_cons_succ, List.getElem_cons_zero, Act.put, List.setIfInBounds_toArray, List.set_cons_zero, List.set_cons_succ]
    refine wpAnyH_take (i := 6) (v := ?_) rfl (by kernel_rfl) (by kernel_rfl) (by kernel_rfl) (fun _ _ _ h => h) (Or.inl ⟨by rfl, ?_⟩) (by assumption) ?_
    rotate_left
    · intro w hSw
      (try dsimp only at hSw)
      first | (go_simp; done) | (go_simp; with_reducible rfl)
    try simp only [List.getElem_toArray, List.getElem_cons_succ, List.getElem_cons_zero, Act.put, List.setIfInBounds_toArray, List.set_cons_zero, List.set_cons_succ]
    refine wpAnyH_ready (rs := [7, 12]) (by kernel_rfl) (by simp) ?_
    refine AllReadyH.cons rfl (fun K hK => ?_) (AllReadyH.cons rfl (fun K hK => ?_) AllReadyH.nil)
    · go_simp
      go_at_call 121
      refine (serve_any e.b e.x e.G _ ((HR4.out.flows e hel).below (Below.refl _ _).drew) hEX).mono ?_
      unfold Pk.val
      rintro e2 w4 ⟨rfl, hp4⟩
      obtain ⟨hR5, hF6⟩ := (HR4.out.below (Below.refl _ _).drew).turned hel hp4 (FlS.serve_ok hEX)
      have hb5n : ¬ e.G b5 := fun hk => by have := hF _ (HR4.out.sub e hel _ hk).1; omega
      have hw0n : ¬ e.G w.heap.size := fun hk => by have := hF _ (HR4.out.sub e hel _ hk).1; omega
      have hK4 : ∀ w', Below w4.heap.size w4 w' → w'.cell? ⟨b, 0, none⟩ = some (.map (some mb)) ∧ w'.cell? ⟨b5, 1, none⟩ = some (.int .i64 e.id) ∧ (Instr.lookup 136 (.map (some mb)) (.int .i64 e.id) false).run Tryz.prog w' = .ok (.pointer (some ⟨e.b, 0, none⟩)) w' := fun w' hw =>
        ⟨(hR5.below hw).blk.cell 0, ((hw.cell (p := ⟨b5, 1, none⟩) (Nat.lt_of_lt_of_le hlt5 hF6.size)).trans (hp4.2.cell (o := 1) hlt5 hb5n)).trans n1, hlk0 w' (by have := (hR5.below hw).map; rw [setR_ent] at this; exact this)⟩
      refine hK.out _ _ (hK4 _ (Below.refl _ _)) (fun hHeld => ?_)
      clear hK K
      try simp only [List.getElem_toArray, List.getElem_cons_succ, List.getElem_cons_zero, Act.put, List.setIfInBounds_toArray, List.set_cons_zero, List.set_cons_succ]
      refine wpAnyH_take (i := 8) (v := ?_) rfl (by kernel_rfl) (by kernel_rfl) (by kernel_rfl) (fun _ _ _ h => h) (Or.inl ⟨by rfl, ?_⟩) (by assumption) ?_
      rotate_left
      · intro w hSw
        (try dsimp only at hSw)
        first | (go_simp; done) | (go_simp; with_reducible rfl)
      try simp only [List.getElem_toArray, List.getElem_cons_succ, List.getElem_cons_zero, Act.put, List.setIfInBounds_toArray, List.set_cons_zero, List.set_cons_succ]
      refine wpAnyH_take (i := 9) (v := ?_) rfl (by kernel_rfl) (by kernel_rfl) (by kernel_rfl) (fun _ _ _ h => h) (Or.inl ⟨by rfl, ?_⟩) (by assumption) ?_
      rotate_left
      · intro w hSw
        (try dsimp only at hSw)
        first | (go_simp; done) | (go_simp; with_reducible rfl)
      try simp only [List.getElem_toArray, List.getElem_cons_succ, List.getElem_cons_zero, Act.put, List.setIfInBounds_toArray, List.set_cons_zero, List.set_cons_succ]
      refine wpAnyH_take (i := 10) (v := ?_) rfl (by kernel_rfl) (by kernel_rfl) (by kernel_rfl) (fun _ _ _ h => h) (Or.inl ⟨by rfl, ?_⟩) (by assumption) ?_
      rotate_left
      · intro w hSw
        (try dsimp only at hSw)
        first | (go_simp; done) | (go_simp; with_reducible rfl)
      try simp only [List.getElem_toArray, List.getElem_cons_succ, List.getElem_cons_zero, Act.put, List.setIfInBounds_toArray, List.set_cons_zero, List.set_cons_succ]
      refine wpAnyH_take (i := 11) (v := ?_) rfl (by kernel_rfl) (by kernel_rfl) (by kernel_rfl) (fun _ _ _ h => h) (Or.inl ⟨by rfl, ?_⟩) (by assumption) ?_
      rotate_left
      · intro w hSw
        (try dsimp only at hSw)
        first | (go_simp; done) | (go_simp; with_reducible rfl)
      try simp only [List.getElem_toArray, List.getElem_cons_succ, List.getElem_cons_zero, Act.put, List.setIfInBounds_toArray, List.set_cons_zero, List.set_cons_succ]
      refine wpAnyH_ready (rs := [12]) (by kernel_rfl) (by simp) ?_
      refine AllReadyH.cons rfl (fun K hK => ?_) AllReadyH.nil
      go_simp
      refine hK.out _ _ (hK4 _ (below1 _ _)) (fun hHeld => ?_)
      clear hK K
      try simp only [List.getElem_toArray, List.getElem_cons_succ, List.getElem_cons_zero, Act.put, List.setIfInBounds_toArray, List.set_cons_zero, List.set_cons_succ]
      refine wpAnyH_ready (rs := [13]) (by kernel_rfl) (by simp) ?_
      refine AllReadyH.cons rfl (fun K hK => ?_) AllReadyH.nil
      go_simp
      refine hK.out _ _ (hK4 _ (below1 _ _)) (fun hHeld => ?_)
      clear hK K
      try simp only [List.getElem_toArray, List.getElem_cons_succ, List.getElem_cons_zero, Act.put, List.setIfInBounds_toArray, List.set_cons_zero, List.set_cons_succ]
      refine wpAnyH_take (i := 14) (v := ?_) rfl (by kernel_rfl) (by kernel_rfl) (by kernel_rfl) (fun _ _ _ h => h) (Or.inl ⟨by rfl, ?_⟩) (by assumption) ?_
      rotate_left
      · intro w hSw
        (try dsimp only at hSw)
        first | (go_simp; done) | (go_simp; with_reducible rfl)
      try simp only [List.getElem_toArray, List.getElem_cons_succ, List.getElem_cons_zero, Act.put, List.setIfInBounds_toArray, List.set_cons_zero, List.set_cons_succ]
      refine wpAnyH_take (i := 15) (v := ?_) rfl (by kernel_rfl) (by kernel_rfl) (by kernel_rfl) (fun _ _ _ h => h) (Or.inl ⟨by rfl, ?_⟩) (by assumption) ?_
      rotate_left
      · intro w hSw
        (try dsimp only at hSw)
        first | (go_simp; done) | (go_simp; with_reducible rfl)
      try simp only [List.getElem_toArray, List.getElem_cons_succ, List.getElem_cons_zero, Act.put, List.setIfInBounds_toArray, List.set_cons_zero, List.set_cons_succ]
      refine wpAnyH_done (by kernel_rfl) ?_ _
      go_wp2_with fail
      go_meet
      have hsz := hF5.size
      have hsz6 := hF6.size
      have hx : Fr F w (w4.alloc (.cells #[.int .i64 e.x.head.flow, .int .i64 e.x.head.len, .int .i64 e.x.head.mark] 59)) := (hF5.drew.trans hF6 fun _ _ h => h).alloc _
      refine ⟨_, rfl, rfl, ⟨⟨_, (hR5.below (below1 _ _)).mono (fun k hk => hk.imp id fun hk => ⟨Nat.lt_of_lt_of_le B3'.lt hk.1, Nat.lt_of_lt_of_le hk.2 (by simp)⟩) (fun k hk => hk.elim (fun h => Nat.lt_of_lt_of_le (hF k h) hx.size) (fun h => h.2))⟩, hx, Blk.new w4 e.x.head.cells _, (B3'.of_eq (hp4.2.block _ B3'.lt hw0n)).alloc _, ?_⟩⟩
      have := B3'.lt
      have h6 : W4.heap.size ≤ w4.heap.size := hsz6
      omega
    · go_simp
      have hb6 : Below W4.heap.size W4 (W4.alloc (.cells #[.int .i64 0, .int .i64 0, .int .i64 0] 59)).drew := (below1 _ _).drew
      have B6 := (Blk.new W4 [.int .i64 0, .int .i64 0, .int .i64 0] 59).drew
      have hR45 := HR4.out.below hb6
      refine hK.out _ _ ⟨hR45.blk.cell 0, (hb6.cell (p := ⟨b5, 1, none⟩) hlt5).trans n1, hlk0 _ hR45.map⟩ (fun hHeld => ?_)
      clear hK K
      try simp only [List.getElem_toArray, List.getElem_cons_succ, List.getElem_cons_zero, Act.put, List.setIfInBounds_toArray, List.set_cons_zero, List.set_cons_succ]
      have hsz56 : W4.heap.size < (W4.alloc (.cells #[.int .i64 0, .int .i64 0, .int .i64 0] 59)).drew.heap.size := B6.lt
      refine wpAnyH_ready (rs := [7]) (by kernel_rfl) (by simp) ?_
      refine AllReadyH.cons rfl (fun K hK => ?_) AllReadyH.nil
      go_simp
      generalize (W4.alloc (.cells #[.int .i64 0, .int .i64 0, .int .i64 0] 59)).drew = W5 at *
      go_at_call 121
      refine (serve_any e.b e.x e.G _ (hR45.flows e hel) hEX).mono ?_
      unfold Pk.val
      rintro e2 w4 ⟨rfl, hp4⟩
      obtain ⟨hR5, hF6⟩ := hR45.turned hel hp4 (FlS.serve_ok hEX)
      have hb5n : ¬ e.G b5 := fun hk => by have := hF _ (HR4.out.sub e hel _ hk).1; omega
      have hw0n : ¬ e.G w.heap.size := fun hk => by have := hF _ (HR4.out.sub e hel _ hk).1; omega
      have hw6n : ¬ e.G W4.heap.size := fun hk => by have h1 := hF _ (HR4.out.sub e hel _ hk).1; have h2 := B3'.lt; omega
      have hlt55 : b5 < W5.heap.size := by omega
      have B7 := B6.of_eq (hp4.2.block _ B6.lt hw6n)
      have q0 := B7.cell 0
      have q1 := B7.cell 1
      have q2 := B7.cell 2
      have p0 := B7.frozen 0
      have p1 := B7.frozen 1
      have p2 := B7.frozen 2
      simp only [List.getElem?_cons_succ, List.getElem?_cons_zero] at q0 q1 q2
      have hSn : ¬ Ext F W5 w4 W4.heap.size ∧ W4.heap.size ≠ b5 ∧ W4.heap.size ≠ b ∧ W4.heap.size ≠ mb ∧ W4.heap.size ≠ w.heap.size := by
        have h1 := B3'.lt
        have h2 := HR4.out.map.lt
        refine ⟨fun hk => ?_, by omega, by omega, by omega, by omega⟩
        rcases hk with hk | hk
        · have := hF _ hk; omega
        · omega
      refine hK.out _ _ ⟨hR5.blk.cell 0, (hp4.2.cell (o := 1) hlt55 hb5n).trans ((hb6.cell (p := ⟨b5, 1, none⟩) hlt5).trans n1), hlk0 _ (by have := hR5.map; rw [setR_ent] at this; exact this)⟩ (fun hHeld => ?_)
      clear hK K
      try simp only [List.getElem_toArray, List.getElem_cons_succ, List.getElem_cons_zero, Act.put, List.setIfInBounds_toArray, List.set_cons_zero, List.set_cons_succ]
      refine wpAnyH_take (i := 8) (v := ?_) rfl (by kernel_rfl) (by kernel_rfl) (by kernel_rfl) (fun _ _ _ h => h) (Or.inl ⟨by rfl, ?_⟩) (by assumption) ?_
      rotate_left
      · intro w hSw
        (try dsimp only at hSw)
        first | (go_simp; done) | (go_simp; with_reducible rfl)
      try simp only [List.getElem_toArray, List.getElem_cons_succ, List.getElem_cons_zero, Act.put, List.setIfInBounds_toArray, List.set_cons_zero, List.set_cons_succ]
      refine wpAnyH_take (i := 9) (v := ?_) rfl (by kernel_rfl) (by kernel_rfl) (by kernel_rfl) (fun _ _ _ h => h) (Or.inl ⟨by rfl, ?_⟩) (by assumption) ?_
      rotate_left
      · intro w hSw
        (try dsimp only at hSw)
        first | (go_simp; done) | (go_simp; with_reducible rfl)
      try simp only [List.getElem_toArray, List.getElem_cons_succ, List.getElem_cons_zero, Act.put, List.setIfInBounds_toArray, List.set_cons_zero, List.set_cons_succ]
      refine wpAnyH_take (i := 10) (v := ?_) rfl (by kernel_rfl) (by kernel_rfl) (by kernel_rfl) (fun _ _ _ h => h) (Or.inl ⟨by rfl, ?_⟩) (by assumption) ?_
      rotate_left
      · intro w hSw
        (try dsimp only at hSw)
        first | (go_simp; done) | (go_simp; with_reducible rfl)
      try simp only [List.getElem_toArray, List.getElem_cons_succ, List.getElem_cons_zero, Act.put, List.setIfInBounds_toArray, List.set_cons_zero, List.set_cons_succ]
      refine wpAnyH_take (i := 11) (v := ?_) rfl (by kernel_rfl) (by kernel_rfl) (by kernel_rfl) (fun _ _ _ h => h) (Or.inl ⟨by rfl, ?_⟩) (by assumption) ?_
      rotate_left
      · intro w hSw
        (try dsimp only at hSw)
        first | (go_simp; done) | (go_simp; with_reducible rfl)
      try simp only [List.getElem_toArray, List.getElem_cons_succ, List.getElem_cons_zero, Act.put, List.setIfInBounds_toArray, List.set_cons_zero, List.set_cons_succ]
      refine wpAnyH_ready (rs := [13]) (by kernel_rfl) (by simp) ?_
      refine AllReadyH.cons rfl (fun K hK => ?_) AllReadyH.nil
      have hS6 : Fr (fun k => k = W4.heap.size) w4 (((w4.setCell ⟨W4.heap.size, 0, none⟩ (.int .i64 e.x.head.flow)).setCell ⟨W4.heap.size, 1, none⟩ (.int .i64 e.x.head.len)).setCell ⟨W4.heap.size, 2, none⟩ (.int .i64 e.x.head.mark)) :=
        Fr.setCell (S := fun k => k = W4.heap.size) (a := ⟨W4.heap.size, 2, none⟩) (Fr.setCell (S := fun k => k = W4.heap.size) (a := ⟨W4.heap.size, 1, none⟩) (Fr.setCell (S := fun k => k = W4.heap.size) (a := ⟨W4.heap.size, 0, none⟩) (Fr.refl _ _) (.inl rfl) _) (.inl rfl) _) (.inl rfl) _
      have B8 := ((B7.set 0 (.int .i64 e.x.head.flow)).set 1 (.int .i64 e.x.head.len)).set 2 (.int .i64 e.x.head.mark)
      have hR6 := hR5.fr hS6 fun k hk e' => hSn.1 (by subst e'; exact hk)
      have hrs := (B3'.of_eq ((hp4.2.block _ (Nat.lt_of_lt_of_le B3'.lt hb6.size) hw0n).trans (hb6.block _ B3'.lt))).fr hS6 fun e' => hSn.2.2.2.2 e'.symm
      have hx : Fr F w (((w4.setCell ⟨W4.heap.size, 0, none⟩ (.int .i64 e.x.head.flow)).setCell ⟨W4.heap.size, 1, none⟩ (.int .i64 e.x.head.len)).setCell ⟨W4.heap.size, 2, none⟩ (.int .i64 e.x.head.mark)) :=
        ((hF5.then_below hb6).trans hF6 fun _ _ h => h).trans hS6 fun k hk e' => by exfalso; subst e'; have := hF5.size; omega
      go_simp
      refine hK.out _ _ ⟨hR6.blk.cell 0, ?_, hlk0 _ (by have := hR6.map; rw [setR_ent] at this; exact this)⟩ (fun hHeld => ?_)
      · exact (hS6.cell (o := 1) (Nat.lt_of_lt_of_le hlt55 hF6.size) (fun e' => hSn.2.1 e'.symm)).trans ((hp4.2.cell (o := 1) hlt55 hb5n).trans ((hb6.cell (p := ⟨b5, 1, none⟩) hlt5).trans n1))
      clear hK K
      try simp only [List.getElem_toArray, List.getElem_cons_succ, List.getElem_cons_zero, Act.put, List.setIfInBounds_toArray, List.set_cons_zero, List.set_cons_succ]
      refine wpAnyH_take (i := 14) (v := ?_) rfl (by kernel_rfl) (by kernel_rfl) (by kernel_rfl) (fun _ _ _ h => h) (Or.inl ⟨by rfl, ?_⟩) (by assumption) ?_
      rotate_left
      · intro w hSw
        (try dsimp only at hSw)
        first | (go_simp; done) | (go_simp; with_reducible rfl)
      try simp only [List.getElem_toArray, List.getElem_cons_succ, List.getElem_cons_zero, Act.put, List.setIfInBounds_toArray, List.set_cons_zero, List.set_cons_succ]
      refine wpAnyH_take (i := 15) (v := ?_) rfl (by kernel_rfl) (by kernel_rfl) (by kernel_rfl) (fun _ _ _ h => h) (Or.inl ⟨by rfl, ?_⟩) (by assumption) ?_
      rotate_left
      · intro w hSw
        (try dsimp only at hSw)
        first | (go_simp; done) | (go_simp; with_reducible rfl)
      try simp only [List.getElem_toArray, List.getElem_cons_succ, List.getElem_cons_zero, Act.put, List.setIfInBounds_toArray, List.set_cons_zero, List.set_cons_succ]
      refine wpAnyH_done (by kernel_rfl) ?_ _
      go_wp2_with fail
      go_meet
      have hsz := hF5.size
      have hsz6 := hF6.size
      refine ⟨_, rfl, rfl, ⟨⟨_, hR6.mono (fun k hk => hk.imp id fun hk => ⟨by have := hk.1; have := hb6.size; have := B3'.lt; omega, Nat.lt_of_lt_of_le hk.2 hS6.size⟩) (fun k hk => hk.elim (fun h => Nat.lt_of_lt_of_le (hF k h) hx.size) (fun h => h.2))⟩, hx, B8, hrs, ?_⟩⟩
      have := B3'.lt
      omega
  case rest =>
    obtain ⟨B6, rfl, rfl, st⟩ := hcut
    obtain ⟨G, hRc⟩ := st.sfq
    have hfi : s.first = (e.x.start, e.id) := by unfold SfS.first; rw [← hl]; exact hX
    have hgf : getF s.fs e.id = some e.x := by rw [← hl, getF_pl, hg]; rfl
    have hhd : s.head = e.x.head := by unfold SfS.head; rw [if_neg HE.out, hfi]; simp only [hgf]
    have hsv : s.serve = ⟨e.x.start, max s.most e.x.out, setF s.fs e.id e.x.serve⟩ := by unfold SfS.serve; rw [if_neg HE.out, hfi]; simp only [hgf]
    rw [← hl, ← setR_pl _ _ _ G] at hsv
    have HH := Lib.hid hhd
    have HV := Lib.hid hsv
    have ST := Lib.hid st
    have c2 := hRc.blk.cell 2
    have f2 := hRc.blk.frozen 2
    simp only [List.getElem?_cons_succ, List.getElem?_cons_zero] at c2
    have HRc := Lib.hid hRc
    have hcase : (s.most < e.x.out ∧ max s.most e.x.out = e.x.out) ∨ (e.x.out ≤ s.most ∧ max s.most e.x.out = s.most) := by omega
    clear st hRc hhd hsv hfi hgf hX hX2
    rcases hcase with ⟨hv, hm⟩ | ⟨hv, hm⟩
    · have HM := Lib.hid hm
      clear hm
      go_upto_region 9 with fail
      obtain ⟨hR9, hF9⟩ := HRc.out.setMost e.x.out
      have hbB : b ≠ B6 := by have := hF b HR4.out.hb; have := ST.out.far; omega
      have Bp := ST.out.pk.set_far (a := ⟨b, 2, none⟩) (fun e => hbB e.symm) (.int .u64 e.x.out)
      have Br := ST.out.res.set_far (a := ⟨b, 2, none⟩) (fun e => hbw0 e.symm) (.int .u64 e.x.out)
      have hfr := ST.out.fr.trans hF9 fun k hk h => by
        rcases h with h | h
        · exact h
        · omega
      have hs9 := hF9.size
      generalize wc.setCell ⟨b, 2, none⟩ (.int .u64 e.x.out) = W9 at *
      have x0 := Bp.cell 0
      have x1 := Bp.cell 1
      have x2 := Bp.cell 2
      have y0 := Br.cell 0
      have y1 := Br.cell 1
      have y2 := Br.cell 2
      have q0 := Br.frozen 0
      have q1 := Br.frozen 1
      have q2 := Br.frozen 2
      simp only [Pk.cells, List.getElem?_cons_succ, List.getElem?_cons_zero] at x0 x1 x2 y0 y1 y2
      have HR9 := Lib.hid hR9
      have HFR := Lib.hid hfr
      clear hR9 hF9 hfr Bp Br ST HRc
      go_wp2
      refine bodyPost_ret (v := .tuple #[.agg #[.int .i64 e.x.head.flow, .int .i64 e.x.head.len, .int .i64 e.x.head.mark], .bool true]) (by simp [results, Tryz.results102, go_sem, y0, y1, y2, q0, q1, q2]) rfl ⟨by rw [HH.out]; rfl, ?_⟩
      rw [HV.out, HM.out]
      have hS6 : Fr (fun k => k = w.heap.size) W9 (((W9.setCell ⟨w.heap.size, 0, none⟩ (.int .i64 e.x.head.flow)).setCell ⟨w.heap.size, 1, none⟩ (.int .i64 e.x.head.len)).setCell ⟨w.heap.size, 2, none⟩ (.int .i64 e.x.head.mark)) :=
        Fr.setCell (S := fun k => k = w.heap.size) (a := ⟨w.heap.size, 2, none⟩) (Fr.setCell (S := fun k => k = w.heap.size) (a := ⟨w.heap.size, 1, none⟩) (Fr.setCell (S := fun k => k = w.heap.size) (a := ⟨w.heap.size, 0, none⟩) (Fr.refl _ _) (.inl rfl) _) (.inl rfl) _) (.inl rfl) _
      have hx : Fr F w (((W9.setCell ⟨w.heap.size, 0, none⟩ (.int .i64 e.x.head.flow)).setCell ⟨w.heap.size, 1, none⟩ (.int .i64 e.x.head.len)).setCell ⟨w.heap.size, 2, none⟩ (.int .i64 e.x.head.mark)) := HFR.out.trans hS6 fun k hk e' => by exfalso; subst e'; omega
      refine ⟨⟨mb, setR l e.id e.x.serve G, rfl, (HR9.out.fr hS6 fun k hk e' => ?_).mono (fun k hk => hk.imp id fun hk => ⟨Nat.le_of_lt hk.1, Nat.lt_of_lt_of_le (Nat.lt_of_lt_of_le hk.2 hs9) hS6.size⟩) (hF.ext hx.size)⟩, hx⟩
      rcases hk with hk | hk
      · have := hF k hk; omega
      · omega
    · have HM := Lib.hid hm
      clear hm
      go_upto_region 9 with fail
      obtain ⟨hR9, hF9⟩ := HRc.out.setMost s.most
      have hbB : b ≠ B6 := by have := hF b HR4.out.hb; have := ST.out.far; omega
      have Bp := ST.out.pk.set_far (a := ⟨b, 2, none⟩) (fun e => hbB e.symm) (.int .u64 s.most)
      have Br := ST.out.res.set_far (a := ⟨b, 2, none⟩) (fun e => hbw0 e.symm) (.int .u64 s.most)
      have hfr := ST.out.fr.trans hF9 fun k hk h => by
        rcases h with h | h
        · exact h
        · omega
      have hs9 := hF9.size
      generalize wc.setCell ⟨b, 2, none⟩ (.int .u64 s.most) = W9 at *
      have x0 := Bp.cell 0
      have x1 := Bp.cell 1
      have x2 := Bp.cell 2
      have y0 := Br.cell 0
      have y1 := Br.cell 1
      have y2 := Br.cell 2
      have q0 := Br.frozen 0
      have q1 := Br.frozen 1
      have q2 := Br.frozen 2
      simp only [Pk.cells, List.getElem?_cons_succ, List.getElem?_cons_zero] at x0 x1 x2 y0 y1 y2
      have HR9 := Lib.hid hR9
      have HFR := Lib.hid hfr
      clear hR9 hF9 hfr Bp Br ST HRc
      go_wp2
      refine bodyPost_ret (v := .tuple #[.agg #[.int .i64 e.x.head.flow, .int .i64 e.x.head.len, .int .i64 e.x.head.mark], .bool true]) (by simp [results, Tryz.results102, go_sem, y0, y1, y2, q0, q1, q2]) rfl ⟨by rw [HH.out]; rfl, ?_⟩
      rw [HV.out, HM.out]
      have hS6 : Fr (fun k => k = w.heap.size) W9 (((W9.setCell ⟨w.heap.size, 0, none⟩ (.int .i64 e.x.head.flow)).setCell ⟨w.heap.size, 1, none⟩ (.int .i64 e.x.head.len)).setCell ⟨w.heap.size, 2, none⟩ (.int .i64 e.x.head.mark)) :=
        Fr.setCell (S := fun k => k = w.heap.size) (a := ⟨w.heap.size, 2, none⟩) (Fr.setCell (S := fun k => k = w.heap.size) (a := ⟨w.heap.size, 1, none⟩) (Fr.setCell (S := fun k => k = w.heap.size) (a := ⟨w.heap.size, 0, none⟩) (Fr.refl _ _) (.inl rfl) _) (.inl rfl) _) (.inl rfl) _
      have hx : Fr F w (((W9.setCell ⟨w.heap.size, 0, none⟩ (.int .i64 e.x.head.flow)).setCell ⟨w.heap.size, 1, none⟩ (.int .i64 e.x.head.len)).setCell ⟨w.heap.size, 2, none⟩ (.int .i64 e.x.head.mark)) := HFR.out.trans hS6 fun k hk e' => by exfalso; subst e'; omega
      refine ⟨⟨mb, setR l e.id e.x.serve G, rfl, (HR9.out.fr hS6 fun k hk e' => ?_).mono (fun k hk => hk.imp id fun hk => ⟨Nat.le_of_lt hk.1, Nat.lt_of_lt_of_le (Nat.lt_of_lt_of_le hk.2 hs9) hS6.size⟩) (hF.ext hx.size)⟩, hx⟩
      rcases hk with hk | hk
      · have := hF k hk; omega
      · omega
end Go.Proofs.YtdjooacjjnjfmaaGreat
end

-- A set of flows: serving, both ways; what is right stays right.
section
namespace Go.Proofs.YtdjooacjjnjfmaaGreat
set_option linter.unusedVariables false
set_option linter.unusedSimpArgs false
set_option maxRecDepth 20000
open Go.RowKit Go.Proofs.YtdjooacjjnjfmaaGreatMem Go.Proofs.YtdjooacjjnjfmaaGreatMapK

theorem serveS_any (b : Nat) (s : SfS) (F : Nat → Prop) (w : World) (h : SfsAt w b s F) (ok : s.Ok) (hn : s.fs.length ≤ 1000000) :
    Calls Tryz.prog 102 #[.pointer (some ⟨b, 0, none⟩)] w fun e w' => e = .returned (.tuple #[s.head.val, .bool s.has]) ∧ SfsPost b s.serve F w w' := by
  by_cases he : entL s.fs = []
  · have h1 : s.head = Pk.zero := by unfold SfS.head; rw [if_pos he]
    have h2 : s.has = false := by unfold SfS.has; rw [he]; rfl
    have h3 : s.serve = { s with v := max s.v s.most } := by unfold SfS.serve; rw [if_pos he]
    rw [h1, h2, h3]
    exact serveS_none b s F w h hn he
  · have h2 : s.has = true := by unfold SfS.has; cases hx : entL s.fs with
      | nil => exact absurd hx he
      | cons _ _ => rfl
    rw [h2]
    exact serveS_some b s F w h ok hn he
theorem getF_mem {fs : List (Int × FlS)} {id : Int} {x : FlS} (h : getF fs id = some x) : (id, x) ∈ fs := by
  unfold getF at h
  obtain ⟨e, he, rfl⟩ := Option.map_eq_some_iff.1 h
  have h1 := List.mem_of_find?_eq_some he
  have h2 : e.1 = id := by simpa using List.find?_some he
  rw [← h2]; exact h1
theorem setF_mem {fs : List (Int × FlS)} {id : Int} {x : FlS} {e : Int × FlS} (h : e ∈ setF fs id x) : e = (id, x) ∨ e ∈ fs := by
  unfold setF at h
  obtain ⟨e0, h1, h2⟩ := List.mem_map.1 h
  by_cases hi : e0.1 = id
  · rw [if_pos hi] at h2; exact .inl h2.symm
  · rw [if_neg hi] at h2; subst h2; exact .inr h1
theorem setF_length (fs : List (Int × FlS)) (id : Int) (x : FlS) : (setF fs id x).length = fs.length := by unfold setF; simp
theorem SfS.new_ok : SfS.new.Ok := ⟨by show W64 0; unfold W64; omega, by show W64 0; unfold W64; omega, (fun e he => by cases he), (fun e he => by cases he)⟩
theorem SfS.add_ok {s : SfS} (ok : s.Ok) {id r most : Int} (hi : I64 id) (hr : W64 r) : (s.add id r most).Ok := by
  unfold SfS.add
  split
  · exact ok
  · refine ⟨ok.v, ok.most, fun e he => ?_, fun e he => ?_⟩
    · rcases List.mem_append.1 he with he | he
      · exact ok.ids e he
      · simp only [List.mem_singleton] at he; subst he; exact hi
    · rcases List.mem_append.1 he with he | he
      · exact ok.fs e he
      · simp only [List.mem_singleton] at he; subst he; exact FlS.new_ok hr
theorem SfS.arrive_ok {s : SfS} (ok : s.Ok) {p : Pk} (hp : p.Ok) : (s.arrive p).Ok := by
  unfold SfS.arrive
  cases hg : getF s.fs p.flow with
  | none => exact ok
  | some x =>
    refine ⟨ok.v, ok.most, fun e he => ?_, fun e he => ?_⟩
    · rcases setF_mem he with rfl | he
      · exact ok.ids (p.flow, x) (getF_mem hg)
      · exact ok.ids e he
    · rcases setF_mem he with rfl | he
      · exact FlS.arrive_ok (ok.fs _ (getF_mem hg)) ok.v hp
      · exact ok.fs e he
theorem SfS.remove_ok {s : SfS} (ok : s.Ok) {id : Int} : (s.remove id).Ok := by
  unfold SfS.remove
  cases hg : getF s.fs id with
  | none => exact ok
  | some x =>
    simp only
    split
    · exact ⟨ok.v, ok.most, fun e he => ok.ids e (List.mem_filter.1 he).1, fun e he => ok.fs e (List.mem_filter.1 he).1⟩
    · exact ok
theorem max_w64 {a c : Int} (ha : W64 a) (hc : W64 c) : W64 (max a c) := by unfold W64 at *; omega
theorem FlS.out_w64 {x : FlS} (ok : x.Ok) : W64 x.out := by
  unfold FlS.out
  split
  · unfold W64; omega
  · exact FlS.fin_w64 ok _
theorem SfS.serve_ok {s : SfS} (ok : s.Ok) : s.serve.Ok := by
  unfold SfS.serve
  split
  · exact ⟨max_w64 ok.v ok.most, ok.most, ok.ids, ok.fs⟩
  · rename_i hne
    cases hg : getF s.fs s.first.2 with
    | none => exact ok
    | some x =>
      have hm := getF_mem hg
      obtain ⟨e, he, h1, h2⟩ := entL_mem (minK_isFirst hne).1
      refine ⟨?_, max_w64 ok.most (FlS.out_w64 (ok.fs _ hm)), fun e he => ?_, fun e he => ?_⟩
      · show W64 s.first.1
        unfold SfS.first
        rw [h2]
        exact (ok.fs e he).start
      · rcases setF_mem he with rfl | he
        · exact ok.ids (s.first.2, x) hm
        · exact ok.ids e he
      · rcases setF_mem he with rfl | he
        · exact FlS.serve_ok (ok.fs _ hm)
        · exact ok.fs e he
end Go.Proofs.YtdjooacjjnjfmaaGreat
end
