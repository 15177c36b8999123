/- A set of flows of the program (sfq), as it lies in memory and as plain data; making one, what it tells. -/
import Derived.Test.YtfgfjnlkgadkhaaFlow6
import Derived.Test.YtfgfjnlkgadkhaaMapD
import Derived.Test.YtfgfjnlkgadkhaaIntKey
namespace Go.Proofs.Ytfgfjnlkgadkhaa
set_option linter.unusedVariables false
set_option linter.unusedSimpArgs false
set_option maxRecDepth 20000
open Go.RowKit Go.Proofs.YtfgfjnlkgadkhaaMem Go.Proofs.YtfgfjnlkgadkhaaMapK

/-- A flow in the map: its number, its block, what it is, the blocks that are its own. -/
structure FlR where
  id : Int
  b : Nat
  x : FlS
  G : Nat → Prop
def FlR.ent (e : FlR) : Int × Value := (e.id, .pointer (some ⟨e.b, 0, none⟩))
def getR (l : List FlR) (id : Int) : Option FlR := l.find? fun e => decide (e.id = id)
theorem getR_none {l : List FlR} {id : Int} : getR l id = none ↔ ∀ e ∈ l, e.id ≠ id := by simp [getR]
theorem getR_some {l : List FlR} {id : Int} {e : FlR} (h : getR l id = some e) : e ∈ l ∧ e.id = id :=
  ⟨List.mem_of_find?_eq_some h, by simpa using List.find?_some h⟩
theorem getM_ent (l : List FlR) (id : Int) : getM (l.map FlR.ent) id = (getR l id).map fun e => .pointer (some ⟨e.b, 0, none⟩) := by
  induction l with
  | nil => rfl
  | cons e l ih =>
    simp only [getM, getR, List.map_cons, List.find?_cons] at ih ⊢
    by_cases h : e.id = id
    · simp [FlR.ent, h]
    · have h1 : decide (e.ent.1 = id) = false := decide_eq_false h
      have h2 : decide (e.id = id) = false := decide_eq_false h
      rw [h1, h2]; exact ih

structure SfqR (w : World) (b mb : Nat) (v most : Int) (l : List FlR) (F : Nat → Prop) : Prop where
  blk : Blk w b [.map (some mb), .int .u64 v, .int .u64 most] 85
  map : IsMapAt w mb (Value.int .i64) (l.map FlR.ent)
  flows : ∀ e ∈ l, FlowAt w e.b e.x e.G
  hb : F b
  hm : F mb
  ne : b ≠ mb
  sub : ∀ e ∈ l, ∀ k, e.G k → F k ∧ k ≠ b ∧ k ≠ mb
  disj : l.Pairwise fun e e' => ∀ k, e.G k → ¬ e'.G k
  lt : Lt F w
  ok : ∀ e ∈ l, e.x.Ok
/-- The flows at block b, with the virtual time and the greatest finish. -/
def SfqAt (w : World) (b : Nat) (v most : Int) (l : List FlR) (F : Nat → Prop) : Prop := ∃ mb, SfqR w b mb v most l F
theorem SfqR.fr {w w' : World} {b mb : Nat} {v most : Int} {l : List FlR} {F S : Nat → Prop} (h : SfqR w b mb v most l F) (hf : Fr S w w') (hn : ∀ k, F k → ¬ S k) : SfqR w' b mb v most l F :=
  ⟨h.blk.fr hf (hn b h.hb), h.map.of_eq (hf.block mb (h.lt mb h.hm) (hn mb h.hm)), fun e he => (h.flows e he).fr hf fun k hk => hn k (h.sub e he k hk).1, h.hb, h.hm, h.ne, h.sub, h.disj, h.lt.mono hf.size, h.ok⟩
theorem SfqR.below {w w' : World} {b mb : Nat} {v most : Int} {l : List FlR} {F : Nat → Prop} (h : SfqR w b mb v most l F) (hb : Below w.heap.size w w') : SfqR w' b mb v most l F :=
  h.fr (Fr.of_below (S := fun _ => False) hb) fun _ _ f => f
theorem SfqAt.below {w w' : World} {b : Nat} {v most : Int} {l : List FlR} {F : Nat → Prop} (h : SfqAt w b v most l F) (hb : Below w.heap.size w w') : SfqAt w' b v most l F := let ⟨mb, h⟩ := h; ⟨mb, h.below hb⟩
theorem SfqAt.fr {w w' : World} {b : Nat} {v most : Int} {l : List FlR} {F S : Nat → Prop} (h : SfqAt w b v most l F) (hf : Fr S w w') (hn : ∀ k, F k → ¬ S k) : SfqAt w' b v most l F := let ⟨mb, h⟩ := h; ⟨mb, h.fr hf hn⟩
theorem SfqR.ids {w : World} {b mb : Nat} {v most : Int} {l : List FlR} {F : Nat → Prop} (h : SfqR w b mb v most l F) : (l.map (·.id)).Nodup := by
  obtain ⟨es, clock, hm⟩ := h.map
  have := hm.keys
  simpa [FlR.ent, Function.comp_def] using this
/-- Behind a call that may change it. -/
def SfqPost (b : Nat) (v most : Int) (l : List FlR) (F : Nat → Prop) (w w' : World) : Prop := SfqAt w' b v most l (Ext F w w') ∧ Fr F w w'
theorem SfqR.mono {w : World} {b mb : Nat} {v most : Int} {l : List FlR} {F G : Nat → Prop} (h : SfqR w b mb v most l F) (hF : ∀ k, F k → G k) (hG : Lt G w) : SfqR w b mb v most l G :=
  ⟨h.blk, h.map, h.flows, hF b h.hb, hF mb h.hm, h.ne, fun e he k hk => ⟨hF k (h.sub e he k hk).1, (h.sub e he k hk).2⟩, h.disj, hG, h.ok⟩
theorem SfqAt.still {w w' : World} {b : Nat} {v most : Int} {l : List FlR} {F : Nat → Prop} (h : SfqAt w b v most l F) (hb : Below w.heap.size w w') : SfqPost b v most l F w w' := by
  obtain ⟨mb, h⟩ := h
  exact ⟨⟨mb, (h.below hb).mono (fun k hk => .inl hk) (h.lt.ext hb.size)⟩, Fr.of_below hb⟩

set_option maxHeartbeats 400000 in
theorem sfqNew_any (w : World) : Calls Try.prog 29 #[] w (MkPost (fun w' b F => SfqAt w' b 0 0 [] F) w) := by
  go_enter Try.func29, Try.ntmps29
  have hmm : (Instr.makeMap 83 none).run Try.prog w = .ok (.map (some w.heap.size)) (w.alloc (.map #[] 0)) := rfl
  go_wp2
  go_ret
  have e : (w.alloc (.map #[] 0)).heap.size = w.heap.size + 1 := by simp
  refine ⟨w.heap.size + 1, rfl, ⟨w.heap.size, ?_⟩, ((Below.refl w.heap.size w).alloc (Nat.le_refl _) _).alloc (by simp) _⟩
  have hb := Blk.new (w.alloc (.map #[] 0)) [.map (some w.heap.size), .int .u64 0, .int .u64 0] 85
  rw [e] at hb
  refine { blk := hb, map := (IsMapAt.made w _).of_eq ?_, flows := fun e he => (by cases he), hb := ?_, hm := ?_, ne := by omega, sub := fun e he => (by cases he), disj := List.Pairwise.nil, lt := fun k hk => hk.2, ok := fun e he => (by cases he) }
  · exact heap_alloc_old _ _ (by simp)
  · simp
  · simp; omega

set_option maxHeartbeats 400000 in
theorem sfqV_any (b : Nat) (v most : Int) (l : List FlR) (F : Nat → Prop) (w : World) (h : SfqAt w b v most l F) :
    Calls Try.prog 30 #[.pointer (some ⟨b, 0, none⟩)] w fun e w' => e = .returned (.int .u64 v) ∧ w = w' := by
  obtain ⟨mb, h⟩ := h
  have c := h.blk.cell 1
  have hl := h.blk.lt
  simp only [List.getElem?_cons_succ, List.getElem?_cons_zero] at c
  clear h
  go_enter Try.func30, Try.ntmps30
  go_wp2
  go_ret
  exact ⟨rfl, rfl⟩
end Go.Proofs.Ytfgfjnlkgadkhaa
