/- A flow of the reference, as it lies in memory: the same plain data. -/
import Derived.Test.YtfgfjnlkgadkhaaFlow6
namespace Go.Proofs.Ytfgfjnlkgadkhaa
set_option linter.unusedVariables false
set_option maxRecDepth 20000
set_option linter.unusedSimpArgs false
open Go.RowKit Go.Proofs.YtfgfjnlkgadkhaaMem

/-- A flow of the reference at block b. -/
def RefAt (w : World) (b : Nat) (id : Int) (x : FlS) (F : Nat → Prop) : Prop :=
  ∃ ao cap, Blk w b [.int .i64 id, .int .i64 x.most, .int .u64 x.r, .slice ao x.l.length cap, .int .u64 x.start, .int .u64 x.finish] 100 ∧ w.ownsRow 0 55 3 (.slice ao x.l.length cap) x.l.length (pks x.l) ∧
    F b ∧ (∀ a, ao = some a → F a.block ∧ a.block ≠ b) ∧ Lt F w
theorem RefAt.fr {w w' : World} {b : Nat} {id : Int} {x : FlS} {F S : Nat → Prop} (h : RefAt w b id x F) (hf : Fr S w w') (hn : ∀ k, F k → ¬ S k) : RefAt w' b id x F := by
  obtain ⟨ao, cap, hb, ho, h1, h2, h3⟩ := h
  refine ⟨ao, cap, hb.fr hf (hn b h1), owns_fr ho hf fun k hk => ?_, h1, h2, h3.mono hf.size⟩
  cases ao with
  | none => cases hk
  | some a => cases hk; exact hn _ (h2 a rfl).1
theorem RefAt.below {w w' : World} {b : Nat} {id : Int} {x : FlS} {F : Nat → Prop} (h : RefAt w b id x F) (hb : Below w.heap.size w w') : RefAt w' b id x F := h.fr (Fr.of_below (S := fun _ => False) hb) (fun _ _ f => f)
theorem RefAt.mono {w : World} {b : Nat} {id : Int} {x : FlS} {F G : Nat → Prop} (h : RefAt w b id x F) (hF : ∀ k, F k → G k) (hG : Lt G w) : RefAt w b id x G := by
  obtain ⟨ao, cap, hb, ho, h1, h2, h3⟩ := h
  exact ⟨ao, cap, hb, ho, hF b h1, fun a ha => ⟨hF _ (h2 a ha).1, (h2 a ha).2⟩, hG⟩
theorem RefAt.lt {w : World} {b : Nat} {id : Int} {x : FlS} {F : Nat → Prop} (h : RefAt w b id x F) : Lt F w := by obtain ⟨_, _, _, _, _, _, h3⟩ := h; exact h3
theorem FlowAt.lt {w : World} {b : Nat} {x : FlS} {F : Nat → Prop} (h : FlowAt w b x F) : Lt F w := by obtain ⟨_, _, _, _, _, _, h3⟩ := h; exact h3

def RefPost (b : Nat) (id : Int) (x' : FlS) (F : Nat → Prop) (w w' : World) : Prop := RefAt w' b id x' (Ext F w w') ∧ Fr F w w'
theorem ext_trans {F : Nat → Prop} {w w1 w2 : World} (s1 : w.heap.size ≤ w1.heap.size) (s2 : w1.heap.size ≤ w2.heap.size) : ∀ i, Ext (Ext F w w1) w1 w2 i → Ext F w w2 i := by
  intro i hi
  rcases hi with (hi | hi) | hi
  · exact .inl hi
  · exact .inr ⟨hi.1, by omega⟩
  · exact .inr ⟨by omega, hi.2⟩
theorem fr_trans {F : Nat → Prop} {w w1 w2 : World} (h : Fr F w w1) (k : Fr (Ext F w w1) w1 w2) : Fr F w w2 := h.trans k fun i hi s => by
  rcases s with s | s
  · exact s
  · omega
theorem RefPost.trans {b : Nat} {id : Int} {x1 x2 : FlS} {F : Nat → Prop} {w w1 w2 : World} (h : RefPost b id x1 F w w1) (k : RefPost b id x2 (Ext F w w1) w1 w2) : RefPost b id x2 F w w2 := by
  have s1 := h.2.size
  have s2 := k.2.size
  refine ⟨k.1.mono (ext_trans s1 s2) ?_, fr_trans h.2 k.2⟩
  have hl1 : Lt (Ext F w w1) w1 := h.1.lt
  intro i hi
  rcases hi with hi | hi
  · have := hl1 i (.inl hi); omega
  · exact hi.2
theorem RefPost.of_below {b : Nat} {id : Int} {x : FlS} {F : Nat → Prop} {w w1 : World} (h : RefAt w b id x F) (hb : Below w.heap.size w w1) : RefPost b id x F w w1 :=
  ⟨(h.below hb).mono (fun k hk => .inl hk) (h.lt.ext hb.size), Fr.of_below hb⟩
theorem RefPost.refl {b : Nat} {id : Int} {x : FlS} {F : Nat → Prop} {w : World} (h : RefAt w b id x F) : RefPost b id x F w w := RefPost.of_below h (Below.refl _ _)
theorem RefPost.after_below {b : Nat} {id : Int} {x : FlS} {F : Nat → Prop} {w w1 w2 : World} (hF : Lt F w) (hb : Below w.heap.size w w1) (h : RefPost b id x F w1 w2) : RefPost b id x F w w2 := by
  have s1 := hb.size
  have s2 := h.2.size
  refine ⟨h.1.mono (fun k hk => ?_) (hF.ext (by omega)), Fr.after_below hb h.2⟩
  rcases hk with hk | hk
  · exact .inl hk
  · exact .inr ⟨by omega, hk.2⟩

/-- The cells of the first packet. -/
theorem RefAt.first {w : World} {b : Nat} {id : Int} {x : FlS} {F : Nat → Prop} {p : Pk} {rest : List Pk} (h : RefAt w b id x F) (hl : x.l = p :: rest) :
    ∃ g cap, Blk w b [.int .i64 id, .int .i64 x.most, .int .u64 x.r, .slice (some ⟨g, 0, none⟩) (rest.length + 1) cap, .int .u64 x.start, .int .u64 x.finish] 100 ∧ w.ownsRow 0 55 3 (.slice (some ⟨g, 0, none⟩) (rest.length + 1) cap) (rest.length + 1) (p.cells ++ pks rest) ∧ F b ∧ F g ∧ g ≠ b ∧ Lt F w ∧
      rest.length + 1 ≤ cap ∧ w.cell? ⟨g, 0, none⟩ = some (.int .i64 p.flow) ∧ w.cell? ⟨g, 1, none⟩ = some (.int .i64 p.len) ∧ w.cell? ⟨g, 2, none⟩ = some (.int .i64 p.mark) := by
  obtain ⟨ao, cap, hb, ho, h1, h2, h3⟩ := h
  rw [hl] at hb ho
  simp only [List.length_cons] at hb ho
  obtain ⟨g, cap', hv, _, hlt⟩ := ho.form (by omega)
  simp only [Value.slice.injEq] at hv
  obtain ⟨rfl, _, rfl⟩ := hv
  rw [pks_cons] at ho
  have hc := (owns_cap ho).2.1
  refine ⟨g, cap, hb, ho, h1, (h2 _ rfl).1, (h2 _ rfl).2, h3, hc, ?_, ?_, ?_⟩
  · rw [ho.cellAt 0 (by omega)]; rfl
  · rw [ho.cellAt 1 (by omega)]; rfl
  · rw [ho.cellAt 2 (by omega)]; rfl

set_option maxHeartbeats 400000 in
theorem refNew_any (id r most : Int) (w : World) :
    Calls Try.prog 67 #[.int .i64 id, .int .u64 r, .int .i64 most] w (MkPost (fun w' b F => RefAt w' b id (FlS.new r most) F) w) := by
  have hm : (most < 1 ∧ FlS.new r most = ⟨r, 1, 0, 0, []⟩) ∨ (1 ≤ most ∧ most ≤ 8 ∧ FlS.new r most = ⟨r, most, 0, 0, []⟩) ∨ (8 < most ∧ FlS.new r most = ⟨r, 8, 0, 0, []⟩) := by
    unfold FlS.new
    by_cases h1 : most < 1
    · left; exact ⟨h1, by congr 1; omega⟩
    · by_cases h2 : most ≤ 8
      · right; left; exact ⟨by omega, h2, by congr 1; omega⟩
      · right; right; exact ⟨by omega, by congr 1; omega⟩
  rcases hm with ⟨h1, he⟩ | ⟨h1, h2, he⟩ | ⟨h1, he⟩
  all_goals
    have E := Lib.hid he
    clear he
    go_enter Try.func67, Try.ntmps67
    go_wp2
    go_ret
    refine ⟨w.heap.size, rfl, ?_, below1 _ _⟩
    rw [E.out]
    exact ⟨none, 0, Blk.new w _ _, owns_nil _ _ _ _, ⟨Nat.le_refl _, by simp⟩, (fun a h => by cases h), fun k hk => hk.2⟩

/-- Another row of packets is stored; it may be that the start was ahead of that. -/
theorem rl_post {w w1 : World} {b : Nat} {id : Int} {x : FlS} {F : Nat → Prop} {l' : List Pk} {v' : Value} (hltF : Lt F w) (h1 : F b) (hb : Fr F w w1) (hB : ∃ u, Blk w1 b [.int .i64 id, .int .i64 x.most, .int .u64 x.r, u, .int .u64 x.start, .int .u64 x.finish] 100)
    (hown : w1.ownsRow w.heap.size 55 3 v' l'.length (pks l')) :
    RefPost b id { x with l := l' } F w (w1.setCell ⟨b, 3, none⟩ v') := by
  obtain ⟨u, hB⟩ := hB
  obtain ⟨a', c', rfl⟩ := owns_slice hown
  have hbl := hltF b h1
  have hne : ∀ a, a' = some a → (w.heap.size ≤ a.block ∧ a.block < w1.heap.size) := fun a ha => by subst ha; exact hown.lt a.block rfl
  have hs : (w1.setCell ⟨b, 3, none⟩ (.slice a' l'.length c')).heap.size = w1.heap.size := by simp [World.setCell]
  refine ⟨⟨a', c', ?_, ?_, .inl h1, ?_, hltF.ext (by rw [hs]; exact hb.size)⟩, hb.setCell (.inl h1) _⟩
  · simpa using hB.set 3 (.slice a' l'.length c')
  · refine owns_base (owns_fr (S := fun k => k = b) hown (Fr.setCell (S := fun k => k = b) (a := ⟨b, 3, none⟩) (Fr.refl _ _) (.inl rfl) _) fun k hk => ?_) (Nat.zero_le _)
    cases a' with
    | none => cases hk
    | some a => cases hk; intro e; have := hne a rfl; omega
  · intro a ha
    have := hne a ha
    exact ⟨.inr ⟨this.1, by rw [hs]; exact this.2⟩, by omega⟩

end Go.Proofs.Ytfgfjnlkgadkhaa
