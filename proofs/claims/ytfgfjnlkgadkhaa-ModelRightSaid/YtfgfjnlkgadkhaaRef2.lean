/- A flow of the reference, next: a packet that comes, the first one served. -/
import Derived.Test.YtfgfjnlkgadkhaaRef
import Derived.Test.YtfgfjnlkgadkhaaMemS
namespace Go.Proofs.Ytfgfjnlkgadkhaa
set_option linter.unusedVariables false
set_option maxRecDepth 20000
set_option linter.unusedSimpArgs false
open Go.RowKit Go.Proofs.YtfgfjnlkgadkhaaMem

set_option maxHeartbeats 1000000 in
theorem refArrive_full (b : Nat) (id : Int) (x : FlS) (F : Nat → Prop) (v : Int) (p : Pk) (w : World) (h : RefAt w b id x F) (ok : x.Ok) (hf : x.full = true) :
    Calls Try.prog 53 #[.pointer (some ⟨b, 0, none⟩), .int .u64 v, .agg #[.int .i64 p.flow, .int .i64 p.len, .int .i64 p.mark]] w fun e w' => e = .returned (.bool false) ∧ Below w.heap.size w w' := by
  obtain ⟨ao, cap, hb, ho, -⟩ := h
  have hlt := hb.lt
  have c1 := hb.cell 1
  have c3 := hb.cell 3
  simp only [List.getElem?_cons_succ, List.getElem?_cons_zero] at c1 c3
  have e1 : x.most ≤ (x.l.length : Int) := by have : (x.l.length : Int) = x.most := by simpa [FlS.full] using hf
                                              omega
  have e2 : ((x.l.length : Int) ≥ x.most) = True := by simp; omega
  clear hf hb ho ok
  go_enter Try.func53, Try.ntmps53
  go_wp2_with fail
  go_region
  go_wp2
  go_ret
  exact ⟨rfl, (below1 _ _).drew⟩

theorem rds_at {w : World} {ao : Option Addr} {n cap size : Nat} {cs : List Value} (h : RdS w ao n cap size cs) : ∀ j u, cs[j]? = some u → ∃ b off, ao = some ⟨b, off, none⟩ ∧ w.cell? ⟨b, off + j, none⟩ = some u := fun j u hu => let ⟨b, off, e, _, hc⟩ := h.at_ j u hu; ⟨b, off, e, hc⟩

theorem blk_at {w : World} {b : Nat} {cs : List Value} {t : TypeId} (h : Blk w b cs t) : ∀ j u, cs[j]? = some u → ∃ b' off, (some (⟨b, 0, none⟩ : Addr)) = some ⟨b', off, none⟩ ∧ w.cell? ⟨b', off + j, none⟩ = some u := fun j u hu => ⟨b, 0, rfl, by rw [Nat.zero_add, h.cell]; exact hu⟩

theorem ra_end {w W w4 : World} {b : Nat} {id : Int} {x : FlS} {F : Nat → Prop} {p : Pk} {a4 : Option Addr} {c4 : Nat} {u : Value} (hF : Lt F w) (hFb : F b) (hW : Fr F w W) (hb : Below W.heap.size W w4)
    (B4 : Blk w4 b [.int .i64 id, .int .i64 x.most, .int .u64 x.r, u, .int .u64 x.start, .int .u64 x.finish] 100)
    (hown : w4.ownsRow W.heap.size 55 3 (.slice a4 (x.l.length + 1) c4) (x.l.length + 1) (pks x.l ++ [.int .i64 p.flow, .int .i64 p.len, .int .i64 p.mark])) :
    RefPost b id { x with l := x.l ++ [p] } F w (w4.setCell ⟨b, 3, none⟩ (.slice a4 (x.l.length + 1) c4)) := by
  have e : (x.l ++ [p]).length = x.l.length + 1 := by simp
  have e2 : pks (x.l ++ [p]) = pks x.l ++ [.int .i64 p.flow, .int .i64 p.len, .int .i64 p.mark] := by rw [pks_append]; simp [pks, Pk.cells]
  refine rl_post (l' := x.l ++ [p]) hF hFb (hW.then_below hb) ⟨u, B4⟩ ?_
  rw [e, e2]
  exact owns_base hown hW.size

set_option maxHeartbeats 2000000 in
theorem refArrive_more (b : Nat) (id : Int) (x : FlS) (F : Nat → Prop) (v : Int) (p : Pk) (w : World) (h : RefAt w b id x F) (ok : x.Ok) (hf : x.full = false) (hl : x.l ≠ []) :
    Calls Try.prog 53 #[.pointer (some ⟨b, 0, none⟩), .int .u64 v, .agg #[.int .i64 p.flow, .int .i64 p.len, .int .i64 p.mark]] w fun e w' => e = .returned (.bool true) ∧ RefPost b id (x.put v p) F w w' := by
  obtain ⟨ao, cap, hb, ho, hFb, hFa, hF⟩ := h
  have hlt := hb.lt
  have n8 : x.l.length ≤ 8 := by have := ok.len; have := ok.m8; omega
  have e1 : (x.l.length : Int) < x.most := by
    have h1 : (x.l.length : Int) ≠ x.most := by simpa [FlS.full] using hf
    have := ok.len
    omega
  have e2 : ((x.l.length : Int) == 0) = false := by
    have : x.l.length ≠ 0 := fun h0 => hl (List.eq_nil_of_length_eq_zero h0)
    simp; omega
  have HL := Lib.hid hl
  have HR := Lib.hid (owns_rdS ho (pks_one _))
  clear hf hl ok
  have c1 := hb.cell 1
  have c3 := hb.cell 3
  have fz := hb.frozen 3
  simp only [List.getElem?_cons_succ, List.getElem?_cons_zero] at c1 c3
  have HB := Lib.hid hb
  clear hb ho
  go_enter Try.func53, Try.ntmps53
  go_wp2_with fail
  go_region
  go_wp2_with fail
  have hbW : Below w.heap.size w (w.alloc (.cells #[.int .i64 p.flow, .int .i64 p.len, .int .i64 p.mark] 55)).drew := (below1 _ _).drew
  have BW := HB.out.below hbW
  have QW := (Blk.new w [.int .i64 p.flow, .int .i64 p.len, .int .i64 p.mark] 55).drew
  have RW := HR.out.below hbW
  have c3 := BW.cell 3
  have fz := BW.frozen 3
  have q0 := QW.cell 0
  have q1 := QW.cell 1
  have q2 := QW.cell 2
  have qlt := QW.lt
  have hltW := BW.lt
  simp only [List.getElem?_cons_succ, List.getElem?_cons_zero] at c3 q0 q1 q2
  generalize (w.alloc (.cells #[.int .i64 p.flow, .int .i64 p.len, .int .i64 p.mark] 55)).drew = W at *
  have HBW := Lib.hid BW
  have HQW := Lib.hid QW
  have HRW := Lib.hid RW
  clear BW QW RW
  go_region_law (first
    | (refine step_ap_src W EP (by rfl) _ _ (by rfl) W.heap.size _ 0 [] (by rfl) (World.ownsRow_nil _ _ _ _) (Nat.le_refl _) ao x.l.length cap (pks x.l) (by simp [Act.eval, Act.put]) HRW.out.nil (pks_length _) (rds_at HRW.out) (pks_one _) (by omega) ?_; intro v3 w3 hown3 hg3 hb3 hfr3; simp only [Nat.zero_add, List.nil_append] at hown3; obtain ⟨a3, c3', rfl⟩ := owns_slice hown3; have HBW3 := Lib.hid (HBW.out.below hb3); have HQW3 := Lib.hid (HQW.out.below hb3); have q0 := HQW3.out.cell 0; have q1 := HQW3.out.cell 1; have q2 := HQW3.out.cell 2; simp only [List.getElem?_cons_succ, List.getElem?_cons_zero] at q0 q1 q2; have HSZ := Lib.hid hb3)
    | (refine step_ap_src (W.alloc (.cells #[.int .i64 p.flow, .int .i64 p.len, .int .i64 p.mark] 55)) EP (by rfl) _ _ (by rfl) (W.heap.size + 1) _ 0 [] (by rfl) (World.ownsRow_nil _ _ _ _) (by simp) ao x.l.length cap (pks x.l) (by simp [Act.eval, Act.put]) HRW.out.nil (pks_length _) (rds_at (HRW.out.below (below1 _ _))) (pks_one _) (by omega) ?_; intro v3 w3 hown3a hg3 hb3 hfr3; simp only [Nat.zero_add, List.nil_append] at hown3a; obtain ⟨a3, c3', rfl⟩ := owns_slice hown3a; have hown3 := owns_base hown3a (Nat.le_succ W.heap.size); have HSZ := Lib.hid ((below1 W _).trans (hb3.mono (Nat.le_succ _))); have HBW3 := Lib.hid (HBW.out.below HSZ.out); have HS3 := Lib.hid ((Blk.new W [.int .i64 p.flow, .int .i64 p.len, .int .i64 p.mark] 55).below (hb3.mono (by simp))); clear hown3a)
    | (refine step_ap_new0 w3 #[.int .i64 p.flow, .int .i64 p.len, .int .i64 p.mark] EP (by rfl) _ _ (by rfl) W.heap.size _ x.l.length _ (by simp [Act.eval, Act.put]) hown3 (by exact HSZ.out.size) 1 (by simp [Act.eval, Act.put]) (by rfl) (by simp [Value.oneCell']) (by omega) ?_; intro v4 w4 hown4 hg4 hb4 hfr4; obtain ⟨a4, c4, rfl⟩ := owns_slice hown4; have HBW4 := Lib.hid (HBW.out.below (HSZ.out.trans hb4)); have d3 := HBW4.out.cell 3; have dz := HBW4.out.frozen 3; simp only [List.getElem?_cons_succ, List.getElem?_cons_zero] at d3)
    | (refine step_ap_src0 w3 EP (by rfl) _ _ (by rfl) W.heap.size _ x.l.length _ (by simp [Act.eval, Act.put]) hown3 (by exact HSZ.out.size) (some ⟨W.heap.size, 0, none⟩) 1 1 [.int .i64 p.flow, .int .i64 p.len, .int .i64 p.mark] (by simp [Act.eval, Act.put]) (fun h => by cases h) (by rfl) (blk_at HS3.out) (by simp [Value.oneCell']) (by omega) ?_; intro v4 w4 hown4 hg4 hb4 hfr4; obtain ⟨a4, c4, rfl⟩ := owns_slice hown4; have HBW4 := Lib.hid (HBW.out.below (HSZ.out.trans hb4)); have d3 := HBW4.out.cell 3; have dz := HBW4.out.frozen 3; simp only [List.getElem?_cons_succ, List.getElem?_cons_zero] at d3)
    | fail)
  all_goals
    go_wp2
    go_ret
    refine ⟨rfl, ?_⟩
    have e : x.put v p = { x with l := x.l ++ [p] } := by unfold FlS.put; rw [if_neg HL.out]
    rw [e]
    exact ra_end (x := x) hF hFb (Fr.of_below hbW) (HSZ.out.trans hb4) HBW4.out hown4
set_option maxHeartbeats 2000000 in
theorem refArrive_first (b : Nat) (id : Int) (x : FlS) (F : Nat → Prop) (v : Int) (p : Pk) (w : World) (h : RefAt w b id x F) (ok : x.Ok) (hl : x.l = []) :
    Calls Try.prog 53 #[.pointer (some ⟨b, 0, none⟩), .int .u64 v, .agg #[.int .i64 p.flow, .int .i64 p.len, .int .i64 p.mark]] w fun e w' => e = .returned (.bool true) ∧ RefPost b id (x.put v p) F w w' := by
  obtain ⟨ao, cap, hb, ho, hFb, hFa, hF⟩ := h
  have hlt := hb.lt
  have hz : x.l.length = 0 := by rw [hl]; rfl
  have e1 : (x.l.length : Int) < x.most := by have := ok.m1; omega
  have e2 : ((x.l.length : Int) == 0) = true := by rw [hz]; rfl
  have n8 : x.l.length ≤ 8 := by omega
  have HL := Lib.hid hl
  have HR := Lib.hid (owns_rdS ho (pks_one _))
  have hcase : (v < x.finish ∧ x.put v p = { x with start := x.finish, l := x.l ++ [p] }) ∨ (x.finish ≤ v ∧ x.put v p = { x with start := v, l := x.l ++ [p] }) := by
    unfold FlS.put; rw [if_pos hl]
    by_cases h : v < x.finish
    · left; exact ⟨h, by congr 1; omega⟩
    · right; exact ⟨by omega, by congr 1; omega⟩
  clear hl ok hz
  have c1 := hb.cell 1
  have c3 := hb.cell 3
  have c4 := hb.cell 4
  have c5 := hb.cell 5
  have fz := hb.frozen 4
  simp only [List.getElem?_cons_succ, List.getElem?_cons_zero] at c1 c3 c4 c5
  have HB := Lib.hid hb
  clear hb ho
  rcases hcase with ⟨hv, he⟩ | ⟨hv, he⟩
  · have HE := Lib.hid he
    clear he
    go_enter Try.func53, Try.ntmps53
    go_wp2_with fail
    go_region
    go_wp2_with fail
    have hfW : Fr F w (((w.setCell ⟨b, 4, none⟩ (.int .u64 x.finish)).alloc (.cells #[.int .i64 p.flow, .int .i64 p.len, .int .i64 p.mark] 55)).drew) := (((Fr.refl F w).setCell (a := ⟨b, 4, none⟩) (.inl hFb) _).alloc _).drew
    have BW := ((HB.out.set 4 (.int .u64 x.finish)).alloc (.cells #[.int .i64 p.flow, .int .i64 p.len, .int .i64 p.mark] 55)).drew
    have QW := (Blk.new (w.setCell ⟨b, 4, none⟩ (.int .u64 x.finish)) [.int .i64 p.flow, .int .i64 p.len, .int .i64 p.mark] 55).drew
    have es : (w.setCell ⟨b, 4, none⟩ (.int .u64 x.finish)).heap.size = w.heap.size := by simp [World.setCell]
    rw [es] at QW
    simp only [List.set_cons_succ, List.set_cons_zero] at BW
    have c3 := BW.cell 3
    have fz := BW.frozen 3
    have q0 := QW.cell 0
    have q1 := QW.cell 1
    have q2 := QW.cell 2
    have qlt := QW.lt
    have hltW := BW.lt
    simp only [List.getElem?_cons_succ, List.getElem?_cons_zero] at c3 q0 q1 q2
    generalize (((w.setCell ⟨b, 4, none⟩ (.int .u64 x.finish)).alloc (.cells #[.int .i64 p.flow, .int .i64 p.len, .int .i64 p.mark] 55)).drew) = W at *
    have RW : RdS W ao x.l.length cap 3 (pks x.l) := ⟨HR.out.len, HR.out.le, HR.out.nil, HR.out.small, HR.out.one, fun j u hu => by rw [HL.out] at hu; cases hu⟩
    have HBW := Lib.hid BW
    have HQW := Lib.hid QW
    have HRW := Lib.hid RW
    clear BW QW RW
    go_region_law (first
      | (refine step_ap_src W EP (by rfl) _ _ (by rfl) W.heap.size _ 0 [] (by rfl) (World.ownsRow_nil _ _ _ _) (Nat.le_refl _) ao x.l.length cap (pks x.l) (by simp [Act.eval, Act.put]) HRW.out.nil (pks_length _) (rds_at HRW.out) (pks_one _) (by omega) ?_; intro v3 w3 hown3 hg3 hb3 hfr3; simp only [Nat.zero_add, List.nil_append] at hown3; obtain ⟨a3, c3', rfl⟩ := owns_slice hown3; have HBW3 := Lib.hid (HBW.out.below hb3); have HQW3 := Lib.hid (HQW.out.below hb3); have q0 := HQW3.out.cell 0; have q1 := HQW3.out.cell 1; have q2 := HQW3.out.cell 2; simp only [List.getElem?_cons_succ, List.getElem?_cons_zero] at q0 q1 q2; have HSZ := Lib.hid hb3)
      | (refine step_ap_src (W.alloc (.cells #[.int .i64 p.flow, .int .i64 p.len, .int .i64 p.mark] 55)) EP (by rfl) _ _ (by rfl) (W.heap.size + 1) _ 0 [] (by rfl) (World.ownsRow_nil _ _ _ _) (by simp) ao x.l.length cap (pks x.l) (by simp [Act.eval, Act.put]) HRW.out.nil (pks_length _) (rds_at (HRW.out.below (below1 _ _))) (pks_one _) (by omega) ?_; intro v3 w3 hown3a hg3 hb3 hfr3; simp only [Nat.zero_add, List.nil_append] at hown3a; obtain ⟨a3, c3', rfl⟩ := owns_slice hown3a; have hown3 := owns_base hown3a (Nat.le_succ W.heap.size); have HSZ := Lib.hid ((below1 W _).trans (hb3.mono (Nat.le_succ _))); have HBW3 := Lib.hid (HBW.out.below HSZ.out); have HS3 := Lib.hid ((Blk.new W [.int .i64 p.flow, .int .i64 p.len, .int .i64 p.mark] 55).below (hb3.mono (by simp))); clear hown3a)
      | (refine step_ap_new0 w3 #[.int .i64 p.flow, .int .i64 p.len, .int .i64 p.mark] EP (by rfl) _ _ (by rfl) W.heap.size _ x.l.length _ (by simp [Act.eval, Act.put]) hown3 (by exact HSZ.out.size) 1 (by simp [Act.eval, Act.put]) (by rfl) (by simp [Value.oneCell']) (by omega) ?_; intro v4 w4 hown4 hg4 hb4 hfr4; obtain ⟨a4, c4, rfl⟩ := owns_slice hown4; have HBW4 := Lib.hid (HBW.out.below (HSZ.out.trans hb4)); have d3 := HBW4.out.cell 3; have dz := HBW4.out.frozen 3; simp only [List.getElem?_cons_succ, List.getElem?_cons_zero] at d3)
      | (refine step_ap_src0 w3 EP (by rfl) _ _ (by rfl) W.heap.size _ x.l.length _ (by simp [Act.eval, Act.put]) hown3 (by exact HSZ.out.size) (some ⟨W.heap.size, 0, none⟩) 1 1 [.int .i64 p.flow, .int .i64 p.len, .int .i64 p.mark] (by simp [Act.eval, Act.put]) (fun h => by cases h) (by rfl) (blk_at HS3.out) (by simp [Value.oneCell']) (by omega) ?_; intro v4 w4 hown4 hg4 hb4 hfr4; obtain ⟨a4, c4, rfl⟩ := owns_slice hown4; have HBW4 := Lib.hid (HBW.out.below (HSZ.out.trans hb4)); have d3 := HBW4.out.cell 3; have dz := HBW4.out.frozen 3; simp only [List.getElem?_cons_succ, List.getElem?_cons_zero] at d3)
      | fail)
    all_goals
      go_wp2
      go_ret
      refine ⟨rfl, ?_⟩
      rw [HE.out]
      exact ra_end (x := { x with start := x.finish }) hF hFb hfW (HSZ.out.trans hb4) HBW4.out hown4
  · have HE := Lib.hid he
    clear he
    go_enter Try.func53, Try.ntmps53
    go_wp2_with fail
    go_region
    go_wp2_with fail
    have hfW : Fr F w (((w.setCell ⟨b, 4, none⟩ (.int .u64 v)).alloc (.cells #[.int .i64 p.flow, .int .i64 p.len, .int .i64 p.mark] 55)).drew) := (((Fr.refl F w).setCell (a := ⟨b, 4, none⟩) (.inl hFb) _).alloc _).drew
    have BW := ((HB.out.set 4 (.int .u64 v)).alloc (.cells #[.int .i64 p.flow, .int .i64 p.len, .int .i64 p.mark] 55)).drew
    have QW := (Blk.new (w.setCell ⟨b, 4, none⟩ (.int .u64 v)) [.int .i64 p.flow, .int .i64 p.len, .int .i64 p.mark] 55).drew
    have es : (w.setCell ⟨b, 4, none⟩ (.int .u64 v)).heap.size = w.heap.size := by simp [World.setCell]
    rw [es] at QW
    simp only [List.set_cons_succ, List.set_cons_zero] at BW
    have c3 := BW.cell 3
    have fz := BW.frozen 3
    have q0 := QW.cell 0
    have q1 := QW.cell 1
    have q2 := QW.cell 2
    have qlt := QW.lt
    have hltW := BW.lt
    simp only [List.getElem?_cons_succ, List.getElem?_cons_zero] at c3 q0 q1 q2
    generalize (((w.setCell ⟨b, 4, none⟩ (.int .u64 v)).alloc (.cells #[.int .i64 p.flow, .int .i64 p.len, .int .i64 p.mark] 55)).drew) = W at *
    have RW : RdS W ao x.l.length cap 3 (pks x.l) := ⟨HR.out.len, HR.out.le, HR.out.nil, HR.out.small, HR.out.one, fun j u hu => by rw [HL.out] at hu; cases hu⟩
    have HBW := Lib.hid BW
    have HQW := Lib.hid QW
    have HRW := Lib.hid RW
    clear BW QW RW
    go_region_law (first
      | (refine step_ap_src W EP (by rfl) _ _ (by rfl) W.heap.size _ 0 [] (by rfl) (World.ownsRow_nil _ _ _ _) (Nat.le_refl _) ao x.l.length cap (pks x.l) (by simp [Act.eval, Act.put]) HRW.out.nil (pks_length _) (rds_at HRW.out) (pks_one _) (by omega) ?_; intro v3 w3 hown3 hg3 hb3 hfr3; simp only [Nat.zero_add, List.nil_append] at hown3; obtain ⟨a3, c3', rfl⟩ := owns_slice hown3; have HBW3 := Lib.hid (HBW.out.below hb3); have HQW3 := Lib.hid (HQW.out.below hb3); have q0 := HQW3.out.cell 0; have q1 := HQW3.out.cell 1; have q2 := HQW3.out.cell 2; simp only [List.getElem?_cons_succ, List.getElem?_cons_zero] at q0 q1 q2; have HSZ := Lib.hid hb3)
      | (refine step_ap_src (W.alloc (.cells #[.int .i64 p.flow, .int .i64 p.len, .int .i64 p.mark] 55)) EP (by rfl) _ _ (by rfl) (W.heap.size + 1) _ 0 [] (by rfl) (World.ownsRow_nil _ _ _ _) (by simp) ao x.l.length cap (pks x.l) (by simp [Act.eval, Act.put]) HRW.out.nil (pks_length _) (rds_at (HRW.out.below (below1 _ _))) (pks_one _) (by omega) ?_; intro v3 w3 hown3a hg3 hb3 hfr3; simp only [Nat.zero_add, List.nil_append] at hown3a; obtain ⟨a3, c3', rfl⟩ := owns_slice hown3a; have hown3 := owns_base hown3a (Nat.le_succ W.heap.size); have HSZ := Lib.hid ((below1 W _).trans (hb3.mono (Nat.le_succ _))); have HBW3 := Lib.hid (HBW.out.below HSZ.out); have HS3 := Lib.hid ((Blk.new W [.int .i64 p.flow, .int .i64 p.len, .int .i64 p.mark] 55).below (hb3.mono (by simp))); clear hown3a)
      | (refine step_ap_new0 w3 #[.int .i64 p.flow, .int .i64 p.len, .int .i64 p.mark] EP (by rfl) _ _ (by rfl) W.heap.size _ x.l.length _ (by simp [Act.eval, Act.put]) hown3 (by exact HSZ.out.size) 1 (by simp [Act.eval, Act.put]) (by rfl) (by simp [Value.oneCell']) (by omega) ?_; intro v4 w4 hown4 hg4 hb4 hfr4; obtain ⟨a4, c4, rfl⟩ := owns_slice hown4; have HBW4 := Lib.hid (HBW.out.below (HSZ.out.trans hb4)); have d3 := HBW4.out.cell 3; have dz := HBW4.out.frozen 3; simp only [List.getElem?_cons_succ, List.getElem?_cons_zero] at d3)
      | (refine step_ap_src0 w3 EP (by rfl) _ _ (by rfl) W.heap.size _ x.l.length _ (by simp [Act.eval, Act.put]) hown3 (by exact HSZ.out.size) (some ⟨W.heap.size, 0, none⟩) 1 1 [.int .i64 p.flow, .int .i64 p.len, .int .i64 p.mark] (by simp [Act.eval, Act.put]) (fun h => by cases h) (by rfl) (blk_at HS3.out) (by simp [Value.oneCell']) (by omega) ?_; intro v4 w4 hown4 hg4 hb4 hfr4; obtain ⟨a4, c4, rfl⟩ := owns_slice hown4; have HBW4 := Lib.hid (HBW.out.below (HSZ.out.trans hb4)); have d3 := HBW4.out.cell 3; have dz := HBW4.out.frozen 3; simp only [List.getElem?_cons_succ, List.getElem?_cons_zero] at d3)
      | fail)
    all_goals
      go_wp2
      go_ret
      refine ⟨rfl, ?_⟩
      rw [HE.out]
      exact ra_end (x := { x with start := v }) hF hFb hfW (HSZ.out.trans hb4) HBW4.out hown4

theorem refArrive_any (b : Nat) (id : Int) (x : FlS) (F : Nat → Prop) (v : Int) (p : Pk) (w : World) (h : RefAt w b id x F) (ok : x.Ok) :
    Calls Try.prog 53 #[.pointer (some ⟨b, 0, none⟩), .int .u64 v, .agg #[.int .i64 p.flow, .int .i64 p.len, .int .i64 p.mark]] w fun e w' => e = .returned (.bool (!x.full)) ∧ RefPost b id (x.arrive v p) F w w' := by
  unfold FlS.arrive
  cases hf : x.full with
  | true => exact (refArrive_full b id x F v p w h ok hf).mono fun e w' hh => ⟨hh.1, RefPost.of_below h hh.2⟩
  | false =>
    by_cases hl : x.l = []
    · exact refArrive_first b id x F v p w h ok hl
    · exact refArrive_more b id x F v p w h ok hf hl
end Go.Proofs.Ytfgfjnlkgadkhaa
