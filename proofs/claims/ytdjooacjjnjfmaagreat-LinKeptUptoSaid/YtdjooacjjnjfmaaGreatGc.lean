/- Several texts in one: Ref Ref2 Ref3. -/
import Derived.Test.YtdjooacjjnjfmaaGreatGb
import Derived.Test.YtdjooacjjnjfmaaGreatGa
import Derived.StillTailTactics
-- A flow of the reference, as it lies in memory: the same plain data.
section
namespace Go.Proofs.YtdjooacjjnjfmaaGreat
set_option linter.unusedVariables false
set_option maxRecDepth 20000
set_option linter.unusedSimpArgs false
open Go.RowKit Go.Proofs.YtdjooacjjnjfmaaGreatMem

/-- A flow of the reference at block b. -/
def RefAt (w : World) (b : Nat) (id : Int) (x : FlS) (F : Nat → Prop) : Prop :=
  ∃ ao cap, Blk w b [.int .i64 id, .int .i64 x.most, .int .u64 x.r, .slice ao x.l.length cap, .int .u64 x.start, .int .u64 x.finish] 120 ∧ w.ownsRow 0 59 3 (.slice ao x.l.length cap) x.l.length (pks x.l) ∧
    F b ∧ (∀ a, ao = some a → F a.block ∧ a.block ≠ b) ∧ Lt F w
theorem RefAt.fr {w w' : World} {b : Nat} {id : Int} {x : FlS} {F S : Nat → Prop} (h : RefAt w b id x F) (hf : Fr S w w') (hn : ∀ k, F k → ¬ S k) : RefAt w' b id x F := by
  obtain ⟨ao, cap, hb, ho, h1, h2, h3⟩ := h
  refine ⟨ao, cap, hb.fr hf (hn b h1), owns_fr ho hf fun k hk => ?_, h1, h2, h3.mono hf.size⟩
  cases ao with
  | none => cases hk
  | some a => cases hk; exact hn _ (h2 a rfl).1
theorem RefAt.below {w w' : World} {b : Nat} {id : Int} {x : FlS} {F : Nat → Prop} (h : RefAt w b id x F) (hb : Below w.heap.size w w') : RefAt w' b id x F := h.fr (Fr.of_below (S := fun _ => False) hb) (fun _ _ f => f)
theorem RefAt.mono {w : World} {b : Nat} {id : Int} {x : FlS} {F G : Nat → Prop} (h : RefAt w b id x F) (hF : ∀ k, F k → G k) (hG : Lt G w) : RefAt w b id x G := by
  obtain ⟨ao, cap, hb, ho, h1, h2, h3⟩ := h
  exact ⟨ao, cap, hb, ho, hF b h1, fun a ha => ⟨hF _ (h2 a ha).1, (h2 a ha).2⟩, hG⟩
theorem RefAt.lt {w : World} {b : Nat} {id : Int} {x : FlS} {F : Nat → Prop} (h : RefAt w b id x F) : Lt F w := by obtain ⟨_, _, _, _, _, _, h3⟩ := h; exact h3
theorem FlowAt.lt {w : World} {b : Nat} {x : FlS} {F : Nat → Prop} (h : FlowAt w b x F) : Lt F w := by obtain ⟨_, _, _, _, _, _, h3⟩ := h; exact h3

def RefPost (b : Nat) (id : Int) (x' : FlS) (F : Nat → Prop) (w w' : World) : Prop := RefAt w' b id x' (Ext F w w') ∧ Fr F w w'
theorem ext_trans {F : Nat → Prop} {w w1 w2 : World} (s1 : w.heap.size ≤ w1.heap.size) (s2 : w1.heap.size ≤ w2.heap.size) : ∀ i, Ext (Ext F w w1) w1 w2 i → Ext F w w2 i := by
  intro i hi
  rcases hi with (hi | hi) | hi
  · exact .inl hi
  · exact .inr ⟨hi.1, by omega⟩
  · exact .inr ⟨by omega, hi.2⟩
theorem fr_trans {F : Nat → Prop} {w w1 w2 : World} (h : Fr F w w1) (k : Fr (Ext F w w1) w1 w2) : Fr F w w2 := h.trans k fun i hi s => by
  rcases s with s | s
  · exact s
  · omega
theorem RefPost.trans {b : Nat} {id : Int} {x1 x2 : FlS} {F : Nat → Prop} {w w1 w2 : World} (h : RefPost b id x1 F w w1) (k : RefPost b id x2 (Ext F w w1) w1 w2) : RefPost b id x2 F w w2 := by
  have s1 := h.2.size
  have s2 := k.2.size
  refine ⟨k.1.mono (ext_trans s1 s2) ?_, fr_trans h.2 k.2⟩
  have hl1 : Lt (Ext F w w1) w1 := h.1.lt
  intro i hi
  rcases hi with hi | hi
  · have := hl1 i (.inl hi); omega
  · exact hi.2
theorem RefPost.of_below {b : Nat} {id : Int} {x : FlS} {F : Nat → Prop} {w w1 : World} (h : RefAt w b id x F) (hb : Below w.heap.size w w1) : RefPost b id x F w w1 :=
  ⟨(h.below hb).mono (fun k hk => .inl hk) (h.lt.ext hb.size), Fr.of_below hb⟩
theorem RefPost.refl {b : Nat} {id : Int} {x : FlS} {F : Nat → Prop} {w : World} (h : RefAt w b id x F) : RefPost b id x F w w := RefPost.of_below h (Below.refl _ _)
theorem RefPost.after_below {b : Nat} {id : Int} {x : FlS} {F : Nat → Prop} {w w1 w2 : World} (hF : Lt F w) (hb : Below w.heap.size w w1) (h : RefPost b id x F w1 w2) : RefPost b id x F w w2 := by
  have s1 := hb.size
  have s2 := h.2.size
  refine ⟨h.1.mono (fun k hk => ?_) (hF.ext (by omega)), Fr.after_below hb h.2⟩
  rcases hk with hk | hk
  · exact .inl hk
  · exact .inr ⟨by omega, hk.2⟩

/-- The cells of the first packet. -/
theorem RefAt.first {w : World} {b : Nat} {id : Int} {x : FlS} {F : Nat → Prop} {p : Pk} {rest : List Pk} (h : RefAt w b id x F) (hl : x.l = p :: rest) :
    ∃ g cap, Blk w b [.int .i64 id, .int .i64 x.most, .int .u64 x.r, .slice (some ⟨g, 0, none⟩) (rest.length + 1) cap, .int .u64 x.start, .int .u64 x.finish] 120 ∧ w.ownsRow 0 59 3 (.slice (some ⟨g, 0, none⟩) (rest.length + 1) cap) (rest.length + 1) (p.cells ++ pks rest) ∧ F b ∧ F g ∧ g ≠ b ∧ Lt F w ∧
      rest.length + 1 ≤ cap ∧ w.cell? ⟨g, 0, none⟩ = some (.int .i64 p.flow) ∧ w.cell? ⟨g, 1, none⟩ = some (.int .i64 p.len) ∧ w.cell? ⟨g, 2, none⟩ = some (.int .i64 p.mark) := by
  obtain ⟨ao, cap, hb, ho, h1, h2, h3⟩ := h
  rw [hl] at hb ho
  simp only [List.length_cons] at hb ho
  obtain ⟨g, cap', hv, _, hlt⟩ := ho.form (by omega)
  simp only [Value.slice.injEq] at hv
  obtain ⟨rfl, _, rfl⟩ := hv
  rw [pks_cons] at ho
  have hc := (owns_cap ho).2.1
  refine ⟨g, cap, hb, ho, h1, (h2 _ rfl).1, (h2 _ rfl).2, h3, hc, ?_, ?_, ?_⟩
  · rw [ho.cellAt 0 (by omega)]; rfl
  · rw [ho.cellAt 1 (by omega)]; rfl
  · rw [ho.cellAt 2 (by omega)]; rfl

set_option maxHeartbeats 400000 in
theorem refNew_any (id r most : Int) (w : World) :
    Calls Tryz.prog 108 #[.int .i64 id, .int .u64 r, .int .i64 most] w (MkPost (fun w' b F => RefAt w' b id (FlS.new r most) F) w) := by
  have hm : (most < 1 ∧ FlS.new r most = ⟨r, 1, 0, 0, []⟩) ∨ (1 ≤ most ∧ most ≤ 8 ∧ FlS.new r most = ⟨r, most, 0, 0, []⟩) ∨ (8 < most ∧ FlS.new r most = ⟨r, 8, 0, 0, []⟩) := by
    unfold FlS.new
    by_cases h1 : most < 1
    · left; exact ⟨h1, by congr 1; omega⟩
    · by_cases h2 : most ≤ 8
      · right; left; exact ⟨by omega, h2, by congr 1; omega⟩
      · right; right; exact ⟨by omega, by congr 1; omega⟩
  rcases hm with ⟨h1, he⟩ | ⟨h1, h2, he⟩ | ⟨h1, he⟩
  all_goals
    have E := Lib.hid he
    clear he
    go_enter Tryz.func108, Tryz.ntmps108
    go_wp2
    go_ret
    refine ⟨w.heap.size, rfl, ?_, below1 _ _⟩
    rw [E.out]
    exact ⟨none, 0, Blk.new w _ _, owns_nil _ _ _ _, ⟨Nat.le_refl _, by simp⟩, (fun a h => by cases h), fun k hk => hk.2⟩

/-- Another row of packets is stored; it may be that the start was ahead of that. -/
theorem rl_post {w w1 : World} {b : Nat} {id : Int} {x : FlS} {F : Nat → Prop} {l' : List Pk} {v' : Value} (hltF : Lt F w) (h1 : F b) (hb : Fr F w w1) (hB : ∃ u, Blk w1 b [.int .i64 id, .int .i64 x.most, .int .u64 x.r, u, .int .u64 x.start, .int .u64 x.finish] 120)
    (hown : w1.ownsRow w.heap.size 59 3 v' l'.length (pks l')) :
    RefPost b id { x with l := l' } F w (w1.setCell ⟨b, 3, none⟩ v') := by
  obtain ⟨u, hB⟩ := hB
  obtain ⟨a', c', rfl⟩ := owns_slice hown
  have hbl := hltF b h1
  have hne : ∀ a, a' = some a → (w.heap.size ≤ a.block ∧ a.block < w1.heap.size) := fun a ha => by subst ha; exact hown.lt a.block rfl
  have hs : (w1.setCell ⟨b, 3, none⟩ (.slice a' l'.length c')).heap.size = w1.heap.size := by simp [World.setCell]
  refine ⟨⟨a', c', ?_, ?_, .inl h1, ?_, hltF.ext (by rw [hs]; exact hb.size)⟩, hb.setCell (.inl h1) _⟩
  · simpa using hB.set 3 (.slice a' l'.length c')
  · refine owns_base (owns_fr (S := fun k => k = b) hown (Fr.setCell (S := fun k => k = b) (a := ⟨b, 3, none⟩) (Fr.refl _ _) (.inl rfl) _) fun k hk => ?_) (Nat.zero_le _)
    cases a' with
    | none => cases hk
    | some a => cases hk; intro e; have := hne a rfl; omega
  · intro a ha
    have := hne a ha
    exact ⟨.inr ⟨this.1, by rw [hs]; exact this.2⟩, by omega⟩

set_option maxHeartbeats 1000000 in
theorem refCopy_any (b : Nat) (id : Int) (x : FlS) (F : Nat → Prop) (w : World) (h : RefAt w b id x F) (ok : x.Ok) :
    Calls Tryz.prog 125 #[.pointer (some ⟨b, 0, none⟩)] w (MkPost (fun w' b F => RefAt w' b id x F) w) := by
  obtain ⟨ao, cap, hb, ho, hFb, hFa, hF⟩ := h
  have hlt := hb.lt
  have n8 : x.l.length ≤ 8 := by have := ok.len; have := ok.m8; omega
  have R := owns_rdS ho (pks_one _)
  have c0 := hb.cell 0
  have c1 := hb.cell 1
  have c2 := hb.cell 2
  have c3 := hb.cell 3
  have c4 := hb.cell 4
  have c5 := hb.cell 5
  simp only [List.getElem?_cons_succ, List.getElem?_cons_zero] at c0 c1 c2 c3 c4 c5
  have B0 := Blk.new w [.int .i64 id, .int .i64 x.most, .int .u64 x.r, .slice ao x.l.length cap, .int .u64 x.start, .int .u64 x.finish] 120
  have HB := Lib.hid B0
  have HR := Lib.hid (R.below (below1 w (.cells #[.int .i64 id, .int .i64 x.most, .int .u64 x.r, .slice ao x.l.length cap, .int .u64 x.start, .int .u64 x.finish] 120)))
  clear hb ho B0 R ok
  go_enter Tryz.func125, Tryz.ntmps125
  go_wp2_with ((at_builtin; refine ap_src (w.alloc (.cells #[.int .i64 id, .int .i64 x.most, .int .u64 x.r, .slice ao x.l.length cap, .int .u64 x.start, .int .u64 x.finish] 120)) EP rfl _ _ rfl (w.heap.size + 1) _ 0 [] rfl (World.ownsRow_nil _ _ _ _) (by simp) ao x.l.length cap (pks x.l) rfl HR.out.nil (pks_length _) (fun j u hu => by obtain ⟨b, off, e, hlt, hc⟩ := HR.out.at_ j u hu; exact ⟨b, off, e, hc⟩) (pks_one _) (by omega) ?_; intro v' w3 hown3 hg3 hb3 hfr3; obtain ⟨a', c', rfl⟩ := owns_slice hown3; have B1 := HB.out.grown hg3 (by intro e; cases e); have d2 := B1.cell 3; have fz := B1.frozen 3; have hl1 := B1.lt; simp only [List.getElem?_cons_succ, List.getElem?_cons_zero] at d2))
  go_ret
  have hb2 : Below w.heap.size w w3 := (below1 w _).trans (hb3.mono (by omega))
  have hs : (w3.setCell ⟨w.heap.size, 3, none⟩ (.slice a' (0 + x.l.length) c')).heap.size = w3.heap.size := by simp [World.setCell]
  have hown2 := owns_base hown3 (Nat.zero_le _)
  have hlo : ∀ a, a' = some a → w.heap.size < a.block ∧ a.block < w3.heap.size := fun a ha => by
    subst ha
    have := hown3.lt a.block rfl
    omega
  simp only [Nat.zero_add, List.nil_append] at hown2 hs ⊢
  refine ⟨w.heap.size, rfl, ⟨a', c', ?_, ?_, ⟨Nat.le_refl _, by rw [hs]; exact hl1⟩, fun a ha => ⟨⟨by have := hlo a ha; omega, by rw [hs]; exact (hlo a ha).2⟩, by have := hlo a ha; omega⟩, fun k hk => hk.2⟩, hb2.setCell (by simp) _⟩
  · simpa using B1.set 3 (.slice a' x.l.length c')
  · refine owns_fr (S := fun k => k = w.heap.size) hown2 (Fr.setCell (S := fun k => k = w.heap.size) (a := ⟨w.heap.size, 3, none⟩) (Fr.refl _ _) (.inl rfl) _) fun k hk => ?_
    cases a' with
    | none => cases hk
    | some a => cases hk; intro e; have := (hlo a rfl).1; omega
end Go.Proofs.YtdjooacjjnjfmaaGreat
end

-- A flow of the reference, next: a packet that comes, the first one served.
section
namespace Go.Proofs.YtdjooacjjnjfmaaGreat
set_option linter.unusedVariables false
set_option maxRecDepth 20000
set_option linter.unusedSimpArgs false
open Go.RowKit Go.Proofs.YtdjooacjjnjfmaaGreatMem

set_option maxHeartbeats 1000000 in
theorem refArrive_full (b : Nat) (id : Int) (x : FlS) (F : Nat → Prop) (v : Int) (p : Pk) (w : World) (h : RefAt w b id x F) (ok : x.Ok) (hf : x.full = true) :
    Calls Tryz.prog 84 #[.pointer (some ⟨b, 0, none⟩), .int .u64 v, .agg #[.int .i64 p.flow, .int .i64 p.len, .int .i64 p.mark]] w fun e w' => e = .returned (.bool false) ∧ Below w.heap.size w w' := by
  obtain ⟨ao, cap, hb, ho, -⟩ := h
  have hlt := hb.lt
  have c1 := hb.cell 1
  have c3 := hb.cell 3
  simp only [List.getElem?_cons_succ, List.getElem?_cons_zero] at c1 c3
  have e1 : x.most ≤ (x.l.length : Int) := by have : (x.l.length : Int) = x.most := by simpa [FlS.full] using hf
                                              omega
  have e2 : ((x.l.length : Int) ≥ x.most) = True := by simp; omega
  clear hf hb ho ok
  go_enter Tryz.func84, Tryz.ntmps84
  go_wp2_with fail
  go_region
  go_wp2
  go_ret
  exact ⟨rfl, (below1 _ _).drew⟩

theorem rds_at {w : World} {ao : Option Addr} {n cap size : Nat} {cs : List Value} (h : RdS w ao n cap size cs) : ∀ j u, cs[j]? = some u → ∃ b off, ao = some ⟨b, off, none⟩ ∧ w.cell? ⟨b, off + j, none⟩ = some u := fun j u hu => let ⟨b, off, e, _, hc⟩ := h.at_ j u hu; ⟨b, off, e, hc⟩

theorem blk_at {w : World} {b : Nat} {cs : List Value} {t : TypeId} (h : Blk w b cs t) : ∀ j u, cs[j]? = some u → ∃ b' off, (some (⟨b, 0, none⟩ : Addr)) = some ⟨b', off, none⟩ ∧ w.cell? ⟨b', off + j, none⟩ = some u := fun j u hu => ⟨b, 0, rfl, by rw [Nat.zero_add, h.cell]; exact hu⟩

theorem ra_end {w W w4 : World} {b : Nat} {id : Int} {x : FlS} {F : Nat → Prop} {p : Pk} {a4 : Option Addr} {c4 : Nat} {u : Value} (hF : Lt F w) (hFb : F b) (hW : Fr F w W) (hb : Below W.heap.size W w4)
    (B4 : Blk w4 b [.int .i64 id, .int .i64 x.most, .int .u64 x.r, u, .int .u64 x.start, .int .u64 x.finish] 120)
    (hown : w4.ownsRow W.heap.size 59 3 (.slice a4 (x.l.length + 1) c4) (x.l.length + 1) (pks x.l ++ [.int .i64 p.flow, .int .i64 p.len, .int .i64 p.mark])) :
    RefPost b id { x with l := x.l ++ [p] } F w (w4.setCell ⟨b, 3, none⟩ (.slice a4 (x.l.length + 1) c4)) := by
  have e : (x.l ++ [p]).length = x.l.length + 1 := by simp
  have e2 : pks (x.l ++ [p]) = pks x.l ++ [.int .i64 p.flow, .int .i64 p.len, .int .i64 p.mark] := by rw [pks_append]; simp [pks, Pk.cells]
  refine rl_post (l' := x.l ++ [p]) hF hFb (hW.then_below hb) ⟨u, B4⟩ ?_
  rw [e, e2]
  exact owns_base hown hW.size

set_option maxHeartbeats 2000000 in
theorem refArrive_more (b : Nat) (id : Int) (x : FlS) (F : Nat → Prop) (v : Int) (p : Pk) (w : World) (h : RefAt w b id x F) (ok : x.Ok) (hf : x.full = false) (hl : x.l ≠ []) :
    Calls Tryz.prog 84 #[.pointer (some ⟨b, 0, none⟩), .int .u64 v, .agg #[.int .i64 p.flow, .int .i64 p.len, .int .i64 p.mark]] w fun e w' => e = .returned (.bool true) ∧ RefPost b id (x.put v p) F w w' := by
  obtain ⟨ao, cap, hb, ho, hFb, hFa, hF⟩ := h
  have hlt := hb.lt
  have n8 : x.l.length ≤ 8 := by have := ok.len; have := ok.m8; omega
  have e1 : (x.l.length : Int) < x.most := by
    have h1 : (x.l.length : Int) ≠ x.most := by simpa [FlS.full] using hf
    have := ok.len
    omega
  have e2 : ((x.l.length : Int) == 0) = false := by
    have : x.l.length ≠ 0 := fun h0 => hl (List.eq_nil_of_length_eq_zero h0)
    simp; omega
  have HL := Lib.hid hl
  have HR := Lib.hid (owns_rdS ho (pks_one _))
  clear hf hl ok
  have c1 := hb.cell 1
  have c3 := hb.cell 3
  have fz := hb.frozen 3
  simp only [List.getElem?_cons_succ, List.getElem?_cons_zero] at c1 c3
  have HB := Lib.hid hb
  clear hb ho
  go_enter Tryz.func84, Tryz.ntmps84
  go_wp2_with fail
  go_region
  go_wp2_with fail
  have hbW : Below w.heap.size w (w.alloc (.cells #[.int .i64 p.flow, .int .i64 p.len, .int .i64 p.mark] 59)).drew := (below1 _ _).drew
  have BW := HB.out.below hbW
  have QW := (Blk.new w [.int .i64 p.flow, .int .i64 p.len, .int .i64 p.mark] 59).drew
  have RW := HR.out.below hbW
  have c3 := BW.cell 3
  have fz := BW.frozen 3
  have q0 := QW.cell 0
  have q1 := QW.cell 1
  have q2 := QW.cell 2
  have qlt := QW.lt
  have hltW := BW.lt
  simp only [List.getElem?_cons_succ, List.getElem?_cons_zero] at c3 q0 q1 q2
  generalize (w.alloc (.cells #[.int .i64 p.flow, .int .i64 p.len, .int .i64 p.mark] 59)).drew = W at *
  have HBW := Lib.hid BW
  have HQW := Lib.hid QW
  have HRW := Lib.hid RW
  clear BW QW RW
  go_region_law (first
    | (refine step_ap_src W EP (by rfl) _ _ (by rfl) W.heap.size _ 0 [] (by rfl) (World.ownsRow_nil _ _ _ _) (Nat.le_refl _) ao x.l.length cap (pks x.l) (by simp [Act.eval, Act.put]) HRW.out.nil (pks_length _) (rds_at HRW.out) (pks_one _) (by omega) ?_; intro v3 w3 hown3 hg3 hb3 hfr3; simp only [Nat.zero_add, List.nil_append] at hown3; obtain ⟨a3, c3', rfl⟩ := owns_slice hown3; have HBW3 := Lib.hid (HBW.out.below hb3); have HQW3 := Lib.hid (HQW.out.below hb3); have q0 := HQW3.out.cell 0; have q1 := HQW3.out.cell 1; have q2 := HQW3.out.cell 2; simp only [List.getElem?_cons_succ, List.getElem?_cons_zero] at q0 q1 q2; have HSZ := Lib.hid hb3)
    | (refine step_ap_src (W.alloc (.cells #[.int .i64 p.flow, .int .i64 p.len, .int .i64 p.mark] 59)) EP (by rfl) _ _ (by rfl) (W.heap.size + 1) _ 0 [] (by rfl) (World.ownsRow_nil _ _ _ _) (by simp) ao x.l.length cap (pks x.l) (by simp [Act.eval, Act.put]) HRW.out.nil (pks_length _) (rds_at (HRW.out.below (below1 _ _))) (pks_one _) (by omega) ?_; intro v3 w3 hown3a hg3 hb3 hfr3; simp only [Nat.zero_add, List.nil_append] at hown3a; obtain ⟨a3, c3', rfl⟩ := owns_slice hown3a; have hown3 := owns_base hown3a (Nat.le_succ W.heap.size); have HSZ := Lib.hid ((below1 W _).trans (hb3.mono (Nat.le_succ _))); have HBW3 := Lib.hid (HBW.out.below HSZ.out); have HS3 := Lib.hid ((Blk.new W [.int .i64 p.flow, .int .i64 p.len, .int .i64 p.mark] 59).below (hb3.mono (by simp))); clear hown3a)
    | (refine step_ap_new0 w3 #[.int .i64 p.flow, .int .i64 p.len, .int .i64 p.mark] EP (by rfl) _ _ (by rfl) W.heap.size _ x.l.length _ (by simp [Act.eval, Act.put]) hown3 (by exact HSZ.out.size) 1 (by simp [Act.eval, Act.put]) (by rfl) (by simp [Value.oneCell']) (by omega) ?_; intro v4 w4 hown4 hg4 hb4 hfr4; obtain ⟨a4, c4, rfl⟩ := owns_slice hown4; have HBW4 := Lib.hid (HBW.out.below (HSZ.out.trans hb4)); have d3 := HBW4.out.cell 3; have dz := HBW4.out.frozen 3; simp only [List.getElem?_cons_succ, List.getElem?_cons_zero] at d3)
    | (refine step_ap_src0 w3 EP (by rfl) _ _ (by rfl) W.heap.size _ x.l.length _ (by simp [Act.eval, Act.put]) hown3 (by exact HSZ.out.size) (some ⟨W.heap.size, 0, none⟩) 1 1 [.int .i64 p.flow, .int .i64 p.len, .int .i64 p.mark] (by simp [Act.eval, Act.put]) (fun h => by cases h) (by rfl) (blk_at HS3.out) (by simp [Value.oneCell']) (by omega) ?_; intro v4 w4 hown4 hg4 hb4 hfr4; obtain ⟨a4, c4, rfl⟩ := owns_slice hown4; have HBW4 := Lib.hid (HBW.out.below (HSZ.out.trans hb4)); have d3 := HBW4.out.cell 3; have dz := HBW4.out.frozen 3; simp only [List.getElem?_cons_succ, List.getElem?_cons_zero] at d3)
    | fail)
  all_goals
    go_wp2
    go_ret
    refine ⟨rfl, ?_⟩
    have e : x.put v p = { x with l := x.l ++ [p] } := by unfold FlS.put; rw [if_neg HL.out]
    rw [e]
    exact ra_end (x := x) hF hFb (Fr.of_below hbW) (HSZ.out.trans hb4) HBW4.out hown4
set_option maxHeartbeats 2000000 in
theorem refArrive_first (b : Nat) (id : Int) (x : FlS) (F : Nat → Prop) (v : Int) (p : Pk) (w : World) (h : RefAt w b id x F) (ok : x.Ok) (hl : x.l = []) :
    Calls Tryz.prog 84 #[.pointer (some ⟨b, 0, none⟩), .int .u64 v, .agg #[.int .i64 p.flow, .int .i64 p.len, .int .i64 p.mark]] w fun e w' => e = .returned (.bool true) ∧ RefPost b id (x.put v p) F w w' := by
  obtain ⟨ao, cap, hb, ho, hFb, hFa, hF⟩ := h
  have hlt := hb.lt
  have hz : x.l.length = 0 := by rw [hl]; rfl
  have e1 : (x.l.length : Int) < x.most := by have := ok.m1; omega
  have e2 : ((x.l.length : Int) == 0) = true := by rw [hz]; rfl
  have n8 : x.l.length ≤ 8 := by omega
  have HL := Lib.hid hl
  have HR := Lib.hid (owns_rdS ho (pks_one _))
  have hcase : (v < x.finish ∧ x.put v p = { x with start := x.finish, l := x.l ++ [p] }) ∨ (x.finish ≤ v ∧ x.put v p = { x with start := v, l := x.l ++ [p] }) := by
    unfold FlS.put; rw [if_pos hl]
    by_cases h : v < x.finish
    · left; exact ⟨h, by congr 1; omega⟩
    · right; exact ⟨by omega, by congr 1; omega⟩
  clear hl ok hz
  have c1 := hb.cell 1
  have c3 := hb.cell 3
  have c4 := hb.cell 4
  have c5 := hb.cell 5
  have fz := hb.frozen 4
  simp only [List.getElem?_cons_succ, List.getElem?_cons_zero] at c1 c3 c4 c5
  have HB := Lib.hid hb
  clear hb ho
  rcases hcase with ⟨hv, he⟩ | ⟨hv, he⟩
  · have HE := Lib.hid he
    clear he
    go_enter Tryz.func84, Tryz.ntmps84
    go_wp2_with fail
    go_region
    go_wp2_with fail
    have hfW : Fr F w (((w.setCell ⟨b, 4, none⟩ (.int .u64 x.finish)).alloc (.cells #[.int .i64 p.flow, .int .i64 p.len, .int .i64 p.mark] 59)).drew) := (((Fr.refl F w).setCell (a := ⟨b, 4, none⟩) (.inl hFb) _).alloc _).drew
    have BW := ((HB.out.set 4 (.int .u64 x.finish)).alloc (.cells #[.int .i64 p.flow, .int .i64 p.len, .int .i64 p.mark] 59)).drew
    have QW := (Blk.new (w.setCell ⟨b, 4, none⟩ (.int .u64 x.finish)) [.int .i64 p.flow, .int .i64 p.len, .int .i64 p.mark] 59).drew
    have es : (w.setCell ⟨b, 4, none⟩ (.int .u64 x.finish)).heap.size = w.heap.size := by simp [World.setCell]
    rw [es] at QW
    simp only [List.set_cons_succ, List.set_cons_zero] at BW
    have c3 := BW.cell 3
    have fz := BW.frozen 3
    have q0 := QW.cell 0
    have q1 := QW.cell 1
    have q2 := QW.cell 2
    have qlt := QW.lt
    have hltW := BW.lt
    simp only [List.getElem?_cons_succ, List.getElem?_cons_zero] at c3 q0 q1 q2
    generalize (((w.setCell ⟨b, 4, none⟩ (.int .u64 x.finish)).alloc (.cells #[.int .i64 p.flow, .int .i64 p.len, .int .i64 p.mark] 59)).drew) = W at *
    have RW : RdS W ao x.l.length cap 3 (pks x.l) := ⟨HR.out.len, HR.out.le, HR.out.nil, HR.out.small, HR.out.one, fun j u hu => by rw [HL.out] at hu; cases hu⟩
    have HBW := Lib.hid BW
    have HQW := Lib.hid QW
    have HRW := Lib.hid RW
    clear BW QW RW
    go_region_law (first
      | (refine step_ap_src W EP (by rfl) _ _ (by rfl) W.heap.size _ 0 [] (by rfl) (World.ownsRow_nil _ _ _ _) (Nat.le_refl _) ao x.l.length cap (pks x.l) (by simp [Act.eval, Act.put]) HRW.out.nil (pks_length _) (rds_at HRW.out) (pks_one _) (by omega) ?_; intro v3 w3 hown3 hg3 hb3 hfr3; simp only [Nat.zero_add, List.nil_append] at hown3; obtain ⟨a3, c3', rfl⟩ := owns_slice hown3; have HBW3 := Lib.hid (HBW.out.below hb3); have HQW3 := Lib.hid (HQW.out.below hb3); have q0 := HQW3.out.cell 0; have q1 := HQW3.out.cell 1; have q2 := HQW3.out.cell 2; simp only [List.getElem?_cons_succ, List.getElem?_cons_zero] at q0 q1 q2; have HSZ := Lib.hid hb3)
      | (refine step_ap_src (W.alloc (.cells #[.int .i64 p.flow, .int .i64 p.len, .int .i64 p.mark] 59)) EP (by rfl) _ _ (by rfl) (W.heap.size + 1) _ 0 [] (by rfl) (World.ownsRow_nil _ _ _ _) (by simp) ao x.l.length cap (pks x.l) (by simp [Act.eval, Act.put]) HRW.out.nil (pks_length _) (rds_at (HRW.out.below (below1 _ _))) (pks_one _) (by omega) ?_; intro v3 w3 hown3a hg3 hb3 hfr3; simp only [Nat.zero_add, List.nil_append] at hown3a; obtain ⟨a3, c3', rfl⟩ := owns_slice hown3a; have hown3 := owns_base hown3a (Nat.le_succ W.heap.size); have HSZ := Lib.hid ((below1 W _).trans (hb3.mono (Nat.le_succ _))); have HBW3 := Lib.hid (HBW.out.below HSZ.out); have HS3 := Lib.hid ((Blk.new W [.int .i64 p.flow, .int .i64 p.len, .int .i64 p.mark] 59).below (hb3.mono (by simp))); clear hown3a)
      | (refine step_ap_new0 w3 #[.int .i64 p.flow, .int .i64 p.len, .int .i64 p.mark] EP (by rfl) _ _ (by rfl) W.heap.size _ x.l.length _ (by simp [Act.eval, Act.put]) hown3 (by exact HSZ.out.size) 1 (by simp [Act.eval, Act.put]) (by rfl) (by simp [Value.oneCell']) (by omega) ?_; intro v4 w4 hown4 hg4 hb4 hfr4; obtain ⟨a4, c4, rfl⟩ := owns_slice hown4; have HBW4 := Lib.hid (HBW.out.below (HSZ.out.trans hb4)); have d3 := HBW4.out.cell 3; have dz := HBW4.out.frozen 3; simp only [List.getElem?_cons_succ, List.getElem?_cons_zero] at d3)
      | (refine step_ap_src0 w3 EP (by rfl) _ _ (by rfl) W.heap.size _ x.l.length _ (by simp [Act.eval, Act.put]) hown3 (by exact HSZ.out.size) (some ⟨W.heap.size, 0, none⟩) 1 1 [.int .i64 p.flow, .int .i64 p.len, .int .i64 p.mark] (by simp [Act.eval, Act.put]) (fun h => by cases h) (by rfl) (blk_at HS3.out) (by simp [Value.oneCell']) (by omega) ?_; intro v4 w4 hown4 hg4 hb4 hfr4; obtain ⟨a4, c4, rfl⟩ := owns_slice hown4; have HBW4 := Lib.hid (HBW.out.below (HSZ.out.trans hb4)); have d3 := HBW4.out.cell 3; have dz := HBW4.out.frozen 3; simp only [List.getElem?_cons_succ, List.getElem?_cons_zero] at d3)
      | fail)
    all_goals
      go_wp2
      go_ret
      refine ⟨rfl, ?_⟩
      rw [HE.out]
      exact ra_end (x := { x with start := x.finish }) hF hFb hfW (HSZ.out.trans hb4) HBW4.out hown4
  · have HE := Lib.hid he
    clear he
    go_enter Tryz.func84, Tryz.ntmps84
    go_wp2_with fail
    go_region
    go_wp2_with fail
    have hfW : Fr F w (((w.setCell ⟨b, 4, none⟩ (.int .u64 v)).alloc (.cells #[.int .i64 p.flow, .int .i64 p.len, .int .i64 p.mark] 59)).drew) := (((Fr.refl F w).setCell (a := ⟨b, 4, none⟩) (.inl hFb) _).alloc _).drew
    have BW := ((HB.out.set 4 (.int .u64 v)).alloc (.cells #[.int .i64 p.flow, .int .i64 p.len, .int .i64 p.mark] 59)).drew
    have QW := (Blk.new (w.setCell ⟨b, 4, none⟩ (.int .u64 v)) [.int .i64 p.flow, .int .i64 p.len, .int .i64 p.mark] 59).drew
    have es : (w.setCell ⟨b, 4, none⟩ (.int .u64 v)).heap.size = w.heap.size := by simp [World.setCell]
    rw [es] at QW
    simp only [List.set_cons_succ, List.set_cons_zero] at BW
    have c3 := BW.cell 3
    have fz := BW.frozen 3
    have q0 := QW.cell 0
    have q1 := QW.cell 1
    have q2 := QW.cell 2
    have qlt := QW.lt
    have hltW := BW.lt
    simp only [List.getElem?_cons_succ, List.getElem?_cons_zero] at c3 q0 q1 q2
    generalize (((w.setCell ⟨b, 4, none⟩ (.int .u64 v)).alloc (.cells #[.int .i64 p.flow, .int .i64 p.len, .int .i64 p.mark] 59)).drew) = W at *
    have RW : RdS W ao x.l.length cap 3 (pks x.l) := ⟨HR.out.len, HR.out.le, HR.out.nil, HR.out.small, HR.out.one, fun j u hu => by rw [HL.out] at hu; cases hu⟩
    have HBW := Lib.hid BW
    have HQW := Lib.hid QW
    have HRW := Lib.hid RW
    clear BW QW RW
    go_region_law (first
      | (refine step_ap_src W EP (by rfl) _ _ (by rfl) W.heap.size _ 0 [] (by rfl) (World.ownsRow_nil _ _ _ _) (Nat.le_refl _) ao x.l.length cap (pks x.l) (by simp [Act.eval, Act.put]) HRW.out.nil (pks_length _) (rds_at HRW.out) (pks_one _) (by omega) ?_; intro v3 w3 hown3 hg3 hb3 hfr3; simp only [Nat.zero_add, List.nil_append] at hown3; obtain ⟨a3, c3', rfl⟩ := owns_slice hown3; have HBW3 := Lib.hid (HBW.out.below hb3); have HQW3 := Lib.hid (HQW.out.below hb3); have q0 := HQW3.out.cell 0; have q1 := HQW3.out.cell 1; have q2 := HQW3.out.cell 2; simp only [List.getElem?_cons_succ, List.getElem?_cons_zero] at q0 q1 q2; have HSZ := Lib.hid hb3)
      | (refine step_ap_src (W.alloc (.cells #[.int .i64 p.flow, .int .i64 p.len, .int .i64 p.mark] 59)) EP (by rfl) _ _ (by rfl) (W.heap.size + 1) _ 0 [] (by rfl) (World.ownsRow_nil _ _ _ _) (by simp) ao x.l.length cap (pks x.l) (by simp [Act.eval, Act.put]) HRW.out.nil (pks_length _) (rds_at (HRW.out.below (below1 _ _))) (pks_one _) (by omega) ?_; intro v3 w3 hown3a hg3 hb3 hfr3; simp only [Nat.zero_add, List.nil_append] at hown3a; obtain ⟨a3, c3', rfl⟩ := owns_slice hown3a; have hown3 := owns_base hown3a (Nat.le_succ W.heap.size); have HSZ := Lib.hid ((below1 W _).trans (hb3.mono (Nat.le_succ _))); have HBW3 := Lib.hid (HBW.out.below HSZ.out); have HS3 := Lib.hid ((Blk.new W [.int .i64 p.flow, .int .i64 p.len, .int .i64 p.mark] 59).below (hb3.mono (by simp))); clear hown3a)
      | (refine step_ap_new0 w3 #[.int .i64 p.flow, .int .i64 p.len, .int .i64 p.mark] EP (by rfl) _ _ (by rfl) W.heap.size _ x.l.length _ (by simp [Act.eval, Act.put]) hown3 (by exact HSZ.out.size) 1 (by simp [Act.eval, Act.put]) (by rfl) (by simp [Value.oneCell']) (by omega) ?_; intro v4 w4 hown4 hg4 hb4 hfr4; obtain ⟨a4, c4, rfl⟩ := owns_slice hown4; have HBW4 := Lib.hid (HBW.out.below (HSZ.out.trans hb4)); have d3 := HBW4.out.cell 3; have dz := HBW4.out.frozen 3; simp only [List.getElem?_cons_succ, List.getElem?_cons_zero] at d3)
      | (refine step_ap_src0 w3 EP (by rfl) _ _ (by rfl) W.heap.size _ x.l.length _ (by simp [Act.eval, Act.put]) hown3 (by exact HSZ.out.size) (some ⟨W.heap.size, 0, none⟩) 1 1 [.int .i64 p.flow, .int .i64 p.len, .int .i64 p.mark] (by simp [Act.eval, Act.put]) (fun h => by cases h) (by rfl) (blk_at HS3.out) (by simp [Value.oneCell']) (by omega) ?_; intro v4 w4 hown4 hg4 hb4 hfr4; obtain ⟨a4, c4, rfl⟩ := owns_slice hown4; have HBW4 := Lib.hid (HBW.out.below (HSZ.out.trans hb4)); have d3 := HBW4.out.cell 3; have dz := HBW4.out.frozen 3; simp only [List.getElem?_cons_succ, List.getElem?_cons_zero] at d3)
      | fail)
    all_goals
      go_wp2
      go_ret
      refine ⟨rfl, ?_⟩
      rw [HE.out]
      exact ra_end (x := { x with start := v }) hF hFb hfW (HSZ.out.trans hb4) HBW4.out hown4

theorem refArrive_any (b : Nat) (id : Int) (x : FlS) (F : Nat → Prop) (v : Int) (p : Pk) (w : World) (h : RefAt w b id x F) (ok : x.Ok) :
    Calls Tryz.prog 84 #[.pointer (some ⟨b, 0, none⟩), .int .u64 v, .agg #[.int .i64 p.flow, .int .i64 p.len, .int .i64 p.mark]] w fun e w' => e = .returned (.bool (!x.full)) ∧ RefPost b id (x.arrive v p) F w w' := by
  unfold FlS.arrive
  cases hf : x.full with
  | true => exact (refArrive_full b id x F v p w h ok hf).mono fun e w' hh => ⟨hh.1, RefPost.of_below h hh.2⟩
  | false =>
    by_cases hl : x.l = []
    · exact refArrive_first b id x F v p w h ok hl
    · exact refArrive_more b id x F v p w h ok hf hl
end Go.Proofs.YtdjooacjjnjfmaaGreat
end

-- A flow of the reference, last: the first packet served.
section
namespace Go.Proofs.YtdjooacjjnjfmaaGreat
set_option linter.unusedVariables false
set_option maxRecDepth 20000
set_option linter.unusedSimpArgs false
open Go.RowKit Go.Proofs.YtdjooacjjnjfmaaGreatMem

theorem RefPost.drew {b : Nat} {id : Int} {x : FlS} {F : Nat → Prop} {w w1 : World} (h : RefPost b id x F w w1) : RefPost b id x F w w1.drew := by
  obtain ⟨⟨ao, cap, hB, ho, hF1, hF2, hF3⟩, hf⟩ := h
  exact ⟨⟨ao, cap, hB, ho.drew, hF1, hF2, hF3⟩, hf.drew⟩
theorem RefPost.start {b : Nat} {id : Int} {x : FlS} {F : Nat → Prop} {w w1 : World} (hFb : F b) (h : RefPost b id x F w w1) (v : Int) : RefPost b id { x with start := v } F w (w1.setCell ⟨b, 4, none⟩ (.int .u64 v)) := by
  obtain ⟨⟨ao, cap, hB, ho, hF1, hF2, hF3⟩, hf⟩ := h
  have hs : (w1.setCell ⟨b, 4, none⟩ (.int .u64 v)).heap.size = w1.heap.size := by simp [World.setCell]
  refine ⟨⟨ao, cap, by simpa using hB.set 4 (.int .u64 v), ?_, by unfold Ext at hF1 ⊢; rw [hs]; exact hF1, fun a ha => ⟨by have := (hF2 a ha).1; unfold Ext at this ⊢; rw [hs]; exact this, (hF2 a ha).2⟩, fun k hk => by rw [hs]; unfold Ext at hk; rw [hs] at hk; exact hF3 k hk⟩, hf.setCell (.inl hFb) _⟩
  refine owns_fr (S := fun k => k = b) ho (Fr.setCell (S := fun k => k = b) (a := ⟨b, 4, none⟩) (Fr.refl _ _) (.inl rfl) _) fun k hk => ?_
  cases ao with
  | none => cases hk
  | some a => cases hk; exact (hF2 a rfl).2
theorem RefPost.finish {b : Nat} {id : Int} {x : FlS} {F : Nat → Prop} {w w1 : World} (hFb : F b) (h : RefPost b id x F w w1) (v : Int) : RefPost b id { x with finish := v } F w (w1.setCell ⟨b, 5, none⟩ (.int .u64 v)) := by
  obtain ⟨⟨ao, cap, hB, ho, hF1, hF2, hF3⟩, hf⟩ := h
  have hs : (w1.setCell ⟨b, 5, none⟩ (.int .u64 v)).heap.size = w1.heap.size := by simp [World.setCell]
  refine ⟨⟨ao, cap, by simpa using hB.set 5 (.int .u64 v), ?_, by unfold Ext at hF1 ⊢; rw [hs]; exact hF1, fun a ha => ⟨by have := (hF2 a ha).1; unfold Ext at this ⊢; rw [hs]; exact this, (hF2 a ha).2⟩, fun k hk => by rw [hs]; unfold Ext at hk; rw [hs] at hk; exact hF3 k hk⟩, hf.setCell (.inl hFb) _⟩
  refine owns_fr (S := fun k => k = b) ho (Fr.setCell (S := fun k => k = b) (a := ⟨b, 5, none⟩) (Fr.refl _ _) (.inl rfl) _) fun k hk => ?_
  cases ao with
  | none => cases hk
  | some a => cases hk; exact (hF2 a rfl).2

theorem refServe_end {b : Nat} {id : Int} {x : FlS} {F : Nat → Prop} {w W2 wr : World} {a c d : Value} (hb2 : Below w.heap.size w W2) (hF : Lt F w) (h2 : w.heap.size < W2.heap.size) (h : RefPost b id x F W2 wr) :
    RefPost b id x F w ((((wr.setCell ⟨w.heap.size, 0, none⟩ a).setCell ⟨w.heap.size, 1, none⟩ c).setCell ⟨w.heap.size, 2, none⟩ d).drew.drew) := by
  refine RefPost.drew (RefPost.drew ?_)
  have hn : ∀ k, Ext F W2 wr k → ¬ (k = w.heap.size) := by
    intro k hk e
    rcases hk with hk | hk
    · have := hF k hk; omega
    · omega
  have f0 : Fr (fun k => k = w.heap.size) wr wr := Fr.refl _ _
  have f1 : Fr (fun k => k = w.heap.size) wr (wr.setCell ⟨w.heap.size, 0, none⟩ a) := f0.setCell (.inl rfl) a
  have f2 : Fr (fun k => k = w.heap.size) wr ((wr.setCell ⟨w.heap.size, 0, none⟩ a).setCell ⟨w.heap.size, 1, none⟩ c) := f1.setCell (.inl rfl) c
  have hf : Fr (fun k => k = w.heap.size) wr (((wr.setCell ⟨w.heap.size, 0, none⟩ a).setCell ⟨w.heap.size, 1, none⟩ c).setCell ⟨w.heap.size, 2, none⟩ d) := f2.setCell (.inl rfl) d
  have hh := RefPost.after_below hF hb2 h
  refine ⟨(h.1.fr hf hn).mono (fun k hk => ?_) (hF.ext ?_), ?_⟩
  · have := hf.size
    have := hb2.size
    rcases hk with hk | hk
    · exact .inl hk
    · exact .inr ⟨by omega, by omega⟩
  · exact Nat.le_trans (Nat.le_trans hb2.size h.2.size) hf.size
  · exact hh.2.trans hf fun i hi e => by omega

set_option maxHeartbeats 1000000 in
theorem refServe_none (b : Nat) (id : Int) (x : FlS) (F : Nat → Prop) (w : World) (h : RefAt w b id x F) (hl : x.l = []) :
    Calls Tryz.prog 109 #[.pointer (some ⟨b, 0, none⟩)] w fun e w' => e = .returned (.tuple #[Pk.zero.val, .int .u64 0, .bool false]) ∧ Below w.heap.size w w' := by
  obtain ⟨ao, cap, hb, ho, -⟩ := h
  have hlt := hb.lt
  rw [hl] at hb
  have c3 := hb.cell 3
  simp only [List.getElem?_cons_succ, List.getElem?_cons_zero, List.length_nil] at c3
  clear hl hb ho
  go_enter Tryz.func109, Tryz.ntmps109
  go_wp2
  refine bodyPost_ret (v := .tuple #[.agg #[.int .i64 0, .int .i64 0, .int .i64 0], .int .u64 0, .bool false]) (by simp [results, Tryz.results109, go_sem]) rfl ⟨rfl, ?_⟩
  repeat (first | exact Below.refl _ _ | refine Below.setCell ?_ (by simp) _ | refine Below.alloc ?_ (by simp) _)

theorem rest_rd {w : World} {e : TypeId} {g cap : Nat} {p : Pk} {rest : List Pk} (h : w.ownsRow 0 e 3 (.slice (some ⟨g, 0, none⟩) (rest.length + 1) cap) (rest.length + 1) (p.cells ++ pks rest)) :
    (cap = 1 ∧ rest.length = 0 ∧ RdS w (some ⟨g, 0, none⟩) 0 0 3 (pks rest)) ∨ (2 ≤ cap ∧ RdS w (some ⟨g, 3, none⟩) rest.length (cap - 1) 3 (pks rest)) := by
  have hc := (owns_cap h).2.1
  rcases (show cap = 1 ∨ 2 ≤ cap by omega) with e | e
  · left
    have h0 : rest.length = 0 := by omega
    have e2 := List.eq_nil_of_length_eq_zero h0
    exact ⟨e, h0, by rw [e2]; exact ⟨rfl, by omega, (fun h => by cases h), by omega, pks_one _, fun j u hu => by cases hu⟩⟩
  · exact .inr ⟨e, owns_rest h⟩

set_option maxHeartbeats 2000000 in
theorem refServe_some (b : Nat) (id : Int) (x : FlS) (F : Nat → Prop) (w : World) (p : Pk) (rest : List Pk) (h : RefAt w b id x F) (ok : x.Ok) (hl : x.l = p :: rest) :
    Calls Tryz.prog 109 #[.pointer (some ⟨b, 0, none⟩)] w fun e w' => e = .returned (.tuple #[p.val, .int .u64 (x.fin p), .bool true]) ∧ RefPost b id (x.stepped p rest 3) F w w' := by
  have hp := ok.pk p (by rw [hl]; simp)
  have hr := ok.r
  have hs := ok.start
  have hc : W64 (costOf p.len x.r) := costOf_w64 hr
  have hn : p.len ≤ 9223372036854775807 := hp.2.1.2
  have hr8 : rest.length + 1 ≤ 8 := by have h1 := ok.m8; have h2 := ok.len; rw [hl] at h2; simp at h2; omega
  obtain ⟨g, cap, hb, ho, hFb, hFg, hne, hF, hcap, f0, f1, f2⟩ := h.first hl
  have hlt := hb.lt
  have hlg : g < w.heap.size := hF g hFg
  have c2 := hb.cell 2
  have c3 := hb.cell 3
  have c4 := hb.cell 4
  have c5 := hb.cell 5
  have i1 : (0 : Int) < ((rest.length + 1 : Nat) : Int) := by omega
  have e1 : (((rest.length + 1 : Nat) : Int) == 0) = false := by simp; omega
  simp only [List.getElem?_cons_succ, List.getElem?_cons_zero] at c2 c3 c4 c5
  have hcase := rest_rd ho
  have hfz := hb.frozen
  have HB := Lib.hid hb
  have Z0 := Lib.hid (Blk.new w [.int .i64 0, .int .i64 0, .int .i64 0] 59)
  have Q0 := Lib.hid (Blk.new (w.alloc (.cells #[.int .i64 0, .int .i64 0, .int .i64 0] 59)) [.int .i64 p.flow, .int .i64 p.len, .int .i64 p.mark] 59)
  have HA := Lib.hid (below1 (w.alloc (.cells #[.int .i64 0, .int .i64 0, .int .i64 0] 59)) (.cells #[.int .i64 p.flow, .int .i64 p.len, .int .i64 p.mark] 59))
  clear hb ho hl h hp ok
  have H2 := Lib.hid ((below1 w (.cells #[.int .i64 0, .int .i64 0, .int .i64 0] 59)).trans (HA.out.mono (by simp)))
  rcases hcase with ⟨hcp, h0, HR⟩ | ⟨hcp, HR⟩
  · subst hcp
    have hre := List.eq_nil_of_length_eq_zero h0
    subst hre
    clear h0
    go_enter Tryz.func109, Tryz.ntmps109
    go_wp2_with fail
    have hW : ((w.setCell ⟨b, 3, none⟩ (.slice none 0 0)).alloc (.cells #[.int .i64 0, .int .i64 0, .int .i64 0] 59)).alloc (.cells #[.int .i64 p.flow, .int .i64 p.len, .int .i64 p.mark] 59) = ((w.alloc (.cells #[.int .i64 0, .int .i64 0, .int .i64 0] 59)).alloc (.cells #[.int .i64 p.flow, .int .i64 p.len, .int .i64 p.mark] 59)).setCell ⟨b, 3, none⟩ (.slice none 0 0) := by
      rw [World.setCell_alloc_past _ _ _ _ (by simp; omega), World.setCell_alloc_past _ _ _ _ hlt]
    have BW := (HB.out.below H2.out).set 3 (.slice none 0 0)
    have QW := Q0.out.set_far (a := ⟨b, 3, none⟩) (by simp; omega) (.slice none 0 0)
    have ZW := (Z0.out.below HA.out).set_far (a := ⟨b, 3, none⟩) (by simp; omega) (.slice none 0 0)
    have R3 := rl_post (x := x) (l' := []) (hF.mono H2.out.size) hFb (Fr.refl _ _) ⟨_, HB.out.below H2.out⟩ (World.ownsRow_nil _ _ _ _)
    simp only [List.set_cons_succ, List.set_cons_zero] at BW
    rw [show (w.alloc (.cells #[.int .i64 0, .int .i64 0, .int .i64 0] 59)).heap.size = w.heap.size + 1 by simp] at QW
    rw [← hW] at BW QW ZW R3
    generalize ((w.setCell ⟨b, 3, none⟩ (.slice none 0 0)).alloc (.cells #[.int .i64 0, .int .i64 0, .int .i64 0] 59)).alloc (.cells #[.int .i64 p.flow, .int .i64 p.len, .int .i64 p.mark] 59) = W at *
    have HR3 := Lib.hid R3
    clear R3 hW
    have hzW : w.heap.size < W.heap.size := by have := HR3.out.2.size; have := ZW.lt; omega
    have hbl : b < W.heap.size := by omega
    have hqn : w.heap.size + 1 ≠ w.heap.size := by omega
    have hbn : b ≠ w.heap.size := by omega
    have hbq : b ≠ w.heap.size + 1 := by omega
    have c2 := BW.cell 2
    have c4 := BW.cell 4
    have c5 := BW.cell 5
    have hfz := BW.frozen
    have q0 := QW.cell 0
    have q1 := QW.cell 1
    have q2 := QW.cell 2
    have z0 := ZW.cell 0
    have z1 := ZW.cell 1
    have z2 := ZW.cell 2
    have zz := ZW.frozen
    simp only [List.getElem?_cons_succ, List.getElem?_cons_zero] at c2 c4 c5 q0 q1 q2 z0 z1 z2
    clear BW QW ZW
    go_still_tail 13, (by kernel_rfl)
    still_call ((refCost_any _ _ hn hr _).mono fun e w' h => ⟨h.1, h.2.symm⟩)
    still_call ((refAdd_any _ _ hs hc _).mono fun e w' h => ⟨h.1, h.2.symm⟩)
    refine wpStill_nil ?_
    change wpList _ _ _ _ _ (World.drew _)
    go_wp2_with fail
    go_region
    all_goals
      go_wp2
      refine bodyPost_ret (v := .tuple #[.agg #[.int .i64 p.flow, .int .i64 p.len, .int .i64 p.mark], .int .u64 (x.fin p), .bool true]) (by simp [results, Tryz.results109, go_sem, z0, z1, z2]; rfl) rfl ⟨rfl, ?_⟩
      exact refServe_end H2.out hF (by simp; omega) ((HR3.out.finish hFb _).start hFb _)
  · have hrest := rds_at (HR.below H2.out)
    have HRS := Lib.hid (HR.below H2.out)
    clear hrest HR
    have hn2 : 0 + rest.length ≤ 1099511627776 := by omega
    go_enter Tryz.func109, Tryz.ntmps109
    go_wp2_with ((at_builtin; refine ap_src ((w.alloc (.cells #[.int .i64 0, .int .i64 0, .int .i64 0] 59)).alloc (.cells #[.int .i64 p.flow, .int .i64 p.len, .int .i64 p.mark] 59)) EP rfl _ _ rfl (w.heap.size + 2) _ 0 [] rfl (World.ownsRow_nil _ _ _ _) (by simp) (some ⟨g, 3, none⟩) rest.length (cap - 1) (pks rest) rfl HRS.out.nil (pks_length _) (rds_at HRS.out) (pks_one _) hn2 ?_; intro v3 w3 hown3 hg3 hb3 hfr3; simp only [Nat.zero_add, List.nil_append] at hown3; obtain ⟨a3, c3', rfl⟩ := owns_slice hown3; have hb3' := hb3.mono (show _ ≤ _ from (by simp : ((w.alloc (.cells #[.int .i64 0, .int .i64 0, .int .i64 0] 59)).alloc (.cells #[.int .i64 p.flow, .int .i64 p.len, .int .i64 p.mark] 59)).heap.size ≤ w.heap.size + 2)); have HB3 := Lib.hid ((HB.out.below H2.out).below hb3'); have HQ3 := Lib.hid (Q0.out.below hb3'); have HZ3 := Lib.hid ((Z0.out.below HA.out).below hb3'); have d3 := HB3.out.cell 3; have dz := HB3.out.frozen; simp only [List.getElem?_cons_succ, List.getElem?_cons_zero] at d3))
    have BW := HB3.out.set 3 (.slice a3 rest.length c3')
    have QW := HQ3.out.set_far (a := ⟨b, 3, none⟩) (by simp; omega) (.slice a3 rest.length c3')
    have ZW := HZ3.out.set_far (a := ⟨b, 3, none⟩) (by simp; omega) (.slice a3 rest.length c3')
    have R3 := rl_post (x := x) (l' := rest) (hF.mono H2.out.size) hFb (Fr.of_below hb3') ⟨_, HB3.out⟩ (owns_base hown3 (by simp))
    simp only [List.set_cons_succ, List.set_cons_zero] at BW
    rw [show (w.alloc (.cells #[.int .i64 0, .int .i64 0, .int .i64 0] 59)).heap.size = w.heap.size + 1 by simp] at QW
    generalize w3.setCell ⟨b, 3, none⟩ (.slice a3 rest.length c3') = W at *
    have HR3 := Lib.hid R3
    clear R3
    have hzW : w.heap.size < W.heap.size := by have := HR3.out.2.size; have := ZW.lt; omega
    have hbl : b < W.heap.size := by omega
    have hqn : w.heap.size + 1 ≠ w.heap.size := by omega
    have hbn : b ≠ w.heap.size := by omega
    have hbq : b ≠ w.heap.size + 1 := by omega
    have c2 := BW.cell 2
    have c4 := BW.cell 4
    have c5 := BW.cell 5
    have hfz := BW.frozen
    have q0 := QW.cell 0
    have q1 := QW.cell 1
    have q2 := QW.cell 2
    have z0 := ZW.cell 0
    have z1 := ZW.cell 1
    have z2 := ZW.cell 2
    have zz := ZW.frozen
    simp only [List.getElem?_cons_succ, List.getElem?_cons_zero] at c2 c4 c5 q0 q1 q2 z0 z1 z2
    clear BW QW ZW
    go_still_tail 13, (by kernel_rfl)
    still_call ((refCost_any _ _ hn hr _).mono fun e w' h => ⟨h.1, h.2.symm⟩)
    still_call ((refAdd_any _ _ hs hc _).mono fun e w' h => ⟨h.1, h.2.symm⟩)
    refine wpStill_nil ?_
    change wpList _ _ _ _ _ (World.drew _)
    go_wp2_with fail
    go_region
    all_goals
      go_wp2
      refine bodyPost_ret (v := .tuple #[.agg #[.int .i64 p.flow, .int .i64 p.len, .int .i64 p.mark], .int .u64 (x.fin p), .bool true]) (by simp [results, Tryz.results109, go_sem, z0, z1, z2]; rfl) rfl ⟨rfl, ?_⟩
      exact refServe_end H2.out hF (by simp; omega) ((HR3.out.finish hFb _).start hFb _)
end Go.Proofs.YtdjooacjjnjfmaaGreat
end
