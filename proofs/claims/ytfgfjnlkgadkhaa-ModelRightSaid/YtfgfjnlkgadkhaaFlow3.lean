/- A flow of the program, next: a packet that comes. -/
import Derived.Test.YtfgfjnlkgadkhaaFlow2
import Derived.Deep.RegionLaw
import Derived.BigRegion
namespace Go.Proofs.Ytfgfjnlkgadkhaa
set_option linter.unusedVariables false
set_option linter.unusedSimpArgs false
open Go.RowKit Go.Proofs.YtfgfjnlkgadkhaaMem

/-- What a call on a flow leaves: the flow as it is then, and all else as it was. -/
def FlowPost (b : Nat) (x' : FlS) (F : Nat → Prop) (w w' : World) : Prop := FlowAt w' b x' (Ext F w w') ∧ Fr F w w'

theorem own_ne {ao : Option Addr} {n c b : Nat} {F : Nat → Prop} (h : ∀ a, ao = some a → F a.block ∧ a.block ≠ b) : (Value.slice ao n c).ownBlock ≠ some b := by
  cases ao with
  | none => intro e; cases e
  | some a => intro e; cases e; exact (h a rfl).2 rfl

theorem pk_cells (p : Pk) : (#[.int .i64 p.flow, .int .i64 p.len, .int .i64 p.mark] : Array Value).toList = p.cells := rfl
theorem put_post {w W1 w3 : World} {b : Nat} {x : FlS} {F : Nat → Prop} {p : Pk} {ao a' : Option Addr} {cap c' : Nat} {st : Int}
    (B3 : Blk w3 b [.int .u64 x.r, .int .i64 x.most, .slice ao x.l.length cap, .int .u64 st, .int .u64 x.finish] 115)
    (hown : w3.ownsRow 0 55 3 (.slice a' (x.l.length + 1) c') (x.l.length + 1) (pks x.l ++ p.cells)) (hfr : FreshOr W1 (.slice ao x.l.length cap) (.slice a' (x.l.length + 1) c')) (hW : w.heap.size ≤ W1.heap.size)
    (hf : Fr F w w3) (hFb : F b) (hFa : ∀ a, ao = some a → F a.block ∧ a.block ≠ b) (hF : Lt F w) :
    FlowPost b { x with start := st, l := x.l ++ [p] } F w (w3.setCell ⟨b, 2, none⟩ (.slice a' (x.l.length + 1) c')) := by
  have hbl : b < w.heap.size := hF b hFb
  have hne : ∀ a, a' = some a → (F a.block ∨ (w.heap.size ≤ a.block ∧ a.block < w3.heap.size)) ∧ a.block ≠ b := by
    intro a ha
    subst ha
    have hlt := (hown.lt a.block rfl).2
    rcases hfr with h | h
    · cases ao with
      | none => cases h
      | some a0 =>
        simp only [Value.ownBlock, Option.some.injEq] at h
        rw [h]; exact ⟨.inl (hFa a0 rfl).1, (hFa a0 rfl).2⟩
    · have := h a.block rfl
      exact ⟨.inr ⟨by omega, hlt⟩, by omega⟩
  have hs : (w3.setCell ⟨b, 2, none⟩ (.slice a' (x.l.length + 1) c')).heap.size = w3.heap.size := by simp [World.setCell]
  refine ⟨⟨a', c', ?_, ?_, .inl hFb, ?_, ?_⟩, hf.setCell (.inl hFb) _⟩
  · have := B3.set 2 (.slice a' (x.l.length + 1) c')
    simpa using this
  · have : ({ x with start := st, l := x.l ++ [p] } : FlS).l.length = x.l.length + 1 := by simp
    rw [this]
    show (w3.setCell ⟨b, 2, none⟩ _).ownsRow 0 _ 3 _ _ (pks (x.l ++ [p]))
    rw [pks_append, show pks [p] = p.cells by simp [pks]]
    refine owns_fr (S := fun k => k = b) hown (Fr.setCell (S := fun k => k = b) (a := ⟨b, 2, none⟩) (Fr.refl _ _) (.inl rfl) _) fun k hk => ?_
    intro e
    cases a' with
    | none => cases hk
    | some a => cases hk; exact (hne a rfl).2 e
  · intro a ha
    have := hne a ha
    exact ⟨by unfold Ext; rw [hs]; exact this.1, this.2⟩
  · exact hF.ext (by rw [hs]; exact hf.size)

set_option maxHeartbeats 1000000 in
theorem arrive_full (b : Nat) (x : FlS) (F : Nat → Prop) (v : Int) (p : Pk) (w : World) (h : FlowAt w b x F) (hf : x.full = true) :
    Calls Try.prog 57 #[.pointer (some ⟨b, 0, none⟩), .int .u64 v, .agg #[.int .i64 p.flow, .int .i64 p.len, .int .i64 p.mark]] w fun e w' => e = .returned (.bool false) ∧ Below w.heap.size w w' := by
  have hlt : b < w.heap.size := by obtain ⟨ao, cap, hb, -⟩ := h; exact hb.lt
  obtain ⟨ao, cap, hb, ho, -⟩ := h
  have c1 := hb.cell 1
  have c2 := hb.cell 2
  simp only [List.getElem?_cons_succ, List.getElem?_cons_zero] at c1 c2
  have e1 : ((x.l.length : Int) == x.most) = true := by simpa [FlS.full] using hf
  clear hf hb ho
  go_enter Try.func57, Try.ntmps57
  go_wp2
  go_ret
  exact ⟨rfl, below1 _ _⟩

set_option maxHeartbeats 1000000 in
theorem arrive_more (b : Nat) (x : FlS) (F : Nat → Prop) (v : Int) (p : Pk) (w : World) (h : FlowAt w b x F) (ok : x.Ok) (hf : x.full = false) (hl : x.l ≠ []) :
    Calls Try.prog 57 #[.pointer (some ⟨b, 0, none⟩), .int .u64 v, .agg #[.int .i64 p.flow, .int .i64 p.len, .int .i64 p.mark]] w fun e w' => e = .returned (.bool true) ∧ FlowPost b (x.put v p) F w w' := by
  have hlt : b < w.heap.size := by obtain ⟨ao, cap, hb, -⟩ := h; exact hb.lt
  obtain ⟨ao, cap, hb, ho, hFb, hFa, hF⟩ := h
  have n8 : x.l.length ≤ 8 := by have := ok.len; have := ok.m8; omega
  have e1 : ((x.l.length : Int) == x.most) = false := by simpa [FlS.full] using hf
  have e2 : ((x.l.length : Int) == 0) = false := by
    have : x.l.length ≠ 0 := fun h0 => hl (List.eq_nil_of_length_eq_zero h0)
    simp; omega
  have HL := Lib.hid hl
  clear hf hl
  have c1 := hb.cell 1
  have c2 := hb.cell 2
  have fz := hb.frozen 2
  simp only [List.getElem?_cons_succ, List.getElem?_cons_zero] at c1 c2
  have HB := Lib.hid hb
  have hn2 : x.l.length + 1 ≤ 1099511627776 := by omega
  clear hb
  go_enter Try.func57, Try.ntmps57
  go_wp2_with fail
  go_region_law (refine step_ap_new (w.alloc (.cells #[.int .i64 p.flow, .int .i64 p.len, .int .i64 p.mark] 55)) _ EP (by rfl) _ _ (by rfl) 0 _ x.l.length _ (by rfl) (ho.alloc _) (by omega) 1 (by simp [Act.eval, Act.put]) (by rfl) (by simp [Value.oneCell']) hn2 ?_; intro v' w3 hown3 hg3 hb3 hfr3; obtain ⟨a', c', rfl⟩ := owns_slice hown3; have B3 := Lib.hid ((HB.out.alloc (.cells #[.int .i64 p.flow, .int .i64 p.len, .int .i64 p.mark] 55)).grown hg3 (own_ne hFa)); have d2 := B3.out.cell 2; have dz := B3.out.frozen 2; simp only [List.getElem?_cons_succ, List.getElem?_cons_zero] at d2)
  all_goals
    go_wp2
    go_ret
    refine ⟨rfl, ?_⟩
    have e : x.put v p = { x with start := x.start, l := x.l ++ [p] } := by unfold FlS.put; rw [if_neg HL.out]
    rw [e]
    have hfr : Fr F w w3 := ((Fr.refl F w).alloc _).grown hg3 fun k hk => by
      cases ao with
      | none => cases hk
      | some a => cases hk; exact .inl (hFa a rfl).1
    exact put_post B3.out hown3 hfr3 (by simp) hfr hFb hFa hF

set_option maxHeartbeats 2000000 in
theorem arrive_first (b : Nat) (x : FlS) (F : Nat → Prop) (v : Int) (p : Pk) (w : World) (h : FlowAt w b x F) (ok : x.Ok) (hl : x.l = []) :
    Calls Try.prog 57 #[.pointer (some ⟨b, 0, none⟩), .int .u64 v, .agg #[.int .i64 p.flow, .int .i64 p.len, .int .i64 p.mark]] w fun e w' => e = .returned (.bool true) ∧ FlowPost b (x.put v p) F w w' := by
  have hlt : b < w.heap.size := by obtain ⟨ao, cap, hb, -⟩ := h; exact hb.lt
  obtain ⟨ao, cap, hb, ho, hFb, hFa, hF⟩ := h
  have hz : x.l.length = 0 := by rw [hl]; rfl
  have e1 : ((x.l.length : Int) == x.most) = false := by have := ok.m1; rw [hz]; simp; omega
  have e2 : ((x.l.length : Int) == 0) = true := by rw [hz]; rfl
  have HL := Lib.hid hl
  have HZ := Lib.hid hz
  clear hz hl
  have c1 := hb.cell 1
  have c2 := hb.cell 2
  have c3 := hb.cell 3
  have c4 := hb.cell 4
  have fz := hb.frozen 3
  simp only [List.getElem?_cons_succ, List.getElem?_cons_zero] at c1 c2 c3 c4
  have HB := Lib.hid hb
  have hn2 : x.l.length + 1 ≤ 1099511627776 := by rw [HZ.out]; omega
  clear hb
  have hcase : (v < x.finish ∧ x.put v p = { x with start := x.finish, l := x.l ++ [p] }) ∨ (x.finish ≤ v ∧ x.put v p = { x with start := v, l := x.l ++ [p] }) := by
    unfold FlS.put; rw [if_pos HL.out]
    by_cases h : v < x.finish
    · left; exact ⟨h, by congr 1; omega⟩
    · right; exact ⟨by omega, by congr 1; omega⟩
  rcases hcase with ⟨hv, he⟩ | ⟨hv, he⟩
  · have HE := Lib.hid he
    clear he
    let W1 := (w.setCell ⟨b, 3, none⟩ (.int .u64 x.finish)).alloc (.cells #[.int .i64 p.flow, .int .i64 p.len, .int .i64 p.mark] 55)
    have hsz : w.heap.size ≤ W1.heap.size := by simp [W1, World.setCell]
    have hfr1 : Fr F w W1 := ((Fr.refl F w).setCell (a := ⟨b, 3, none⟩) (.inl hFb) _).alloc _
    have hB1 : Blk W1 b [.int .u64 x.r, .int .i64 x.most, .slice ao x.l.length cap, .int .u64 x.finish, .int .u64 x.finish] 115 := by
      have := (HB.out.set 3 (.int .u64 x.finish)).alloc (.cells #[.int .i64 p.flow, .int .i64 p.len, .int .i64 p.mark] 55)
      simpa using this
    have ho1 : W1.ownsRow 0 55 3 (.slice ao x.l.length cap) x.l.length (pks x.l) := by
      refine World.ownsRow.alloc (owns_fr (S := fun k => k = b) ho (Fr.setCell (S := fun k => k = b) (a := ⟨b, 3, none⟩) (Fr.refl _ _) (.inl rfl) _) fun k hk => ?_) _
      cases ao with
      | none => cases hk
      | some a => cases hk; exact (hFa a rfl).2
    go_enter Try.func57, Try.ntmps57
    go_wp2_with fail
    go_region_law (refine step_ap_new W1 _ EP (by rfl) _ _ (by rfl) 0 _ x.l.length _ (by rfl) ho1 (by omega) 1 (by simp [W1, Act.eval, Act.put]) (by rfl) (by simp [Value.oneCell']) hn2 ?_; intro v' w3 hown3 hg3 hb3 hfr3; obtain ⟨a', c', rfl⟩ := owns_slice hown3; have B3 := Lib.hid (hB1.grown hg3 (own_ne hFa)); have d2 := B3.out.cell 2; have dz := B3.out.frozen 2; simp only [List.getElem?_cons_succ, List.getElem?_cons_zero] at d2)
    all_goals
      go_wp2
      go_ret
      refine ⟨rfl, ?_⟩
      rw [HE.out]
      have hfr : Fr F w w3 := hfr1.grown hg3 fun k hk => by
        cases ao with
        | none => cases hk
        | some a => cases hk; exact .inl (hFa a rfl).1
      exact put_post B3.out hown3 hfr3 hsz hfr hFb hFa hF
  · have HE := Lib.hid he
    clear he
    let W1 := (w.setCell ⟨b, 3, none⟩ (.int .u64 v)).alloc (.cells #[.int .i64 p.flow, .int .i64 p.len, .int .i64 p.mark] 55)
    have hsz : w.heap.size ≤ W1.heap.size := by simp [W1, World.setCell]
    have hfr1 : Fr F w W1 := ((Fr.refl F w).setCell (a := ⟨b, 3, none⟩) (.inl hFb) _).alloc _
    have hB1 : Blk W1 b [.int .u64 x.r, .int .i64 x.most, .slice ao x.l.length cap, .int .u64 v, .int .u64 x.finish] 115 := by
      have := (HB.out.set 3 (.int .u64 v)).alloc (.cells #[.int .i64 p.flow, .int .i64 p.len, .int .i64 p.mark] 55)
      simpa using this
    have ho1 : W1.ownsRow 0 55 3 (.slice ao x.l.length cap) x.l.length (pks x.l) := by
      refine World.ownsRow.alloc (owns_fr (S := fun k => k = b) ho (Fr.setCell (S := fun k => k = b) (a := ⟨b, 3, none⟩) (Fr.refl _ _) (.inl rfl) _) fun k hk => ?_) _
      cases ao with
      | none => cases hk
      | some a => cases hk; exact (hFa a rfl).2
    go_enter Try.func57, Try.ntmps57
    go_wp2_with fail
    go_region_law (refine step_ap_new W1 _ EP (by rfl) _ _ (by rfl) 0 _ x.l.length _ (by rfl) ho1 (by omega) 1 (by simp [W1, Act.eval, Act.put]) (by rfl) (by simp [Value.oneCell']) hn2 ?_; intro v' w3 hown3 hg3 hb3 hfr3; obtain ⟨a', c', rfl⟩ := owns_slice hown3; have B3 := Lib.hid (hB1.grown hg3 (own_ne hFa)); have d2 := B3.out.cell 2; have dz := B3.out.frozen 2; simp only [List.getElem?_cons_succ, List.getElem?_cons_zero] at d2)
    all_goals
      go_wp2
      go_ret
      refine ⟨rfl, ?_⟩
      rw [HE.out]
      have hfr : Fr F w w3 := hfr1.grown hg3 fun k hk => by
        cases ao with
        | none => cases hk
        | some a => cases hk; exact .inl (hFa a rfl).1
      exact put_post B3.out hown3 hfr3 hsz hfr hFb hFa hF
end Go.Proofs.Ytfgfjnlkgadkhaa
