/- An act done to both flows. -/
import Derived.Test.YtgdfoibfmjkikaaFlowH
namespace Go.Proofs.Ytgdfoibfmjkikaa
set_option linter.unusedVariables false
set_option linter.unusedSimpArgs false
open Go.RowKit Go.Proofs.YtgdfoibfmjkikaaMem

def FlS.act (x : FlS) (a : ActS) : FlS := if modZ a.kind 5 < 3 then x.arrive a.time a.pk else x.serve
theorem FlS.act_ok {x : FlS} (ok : x.Ok) {a : ActS} (ha : a.Ok) : (x.act a).Ok := by
  unfold FlS.act
  split
  · exact FlS.arrive_ok ok (ActS.time_w64 ha) (ActS.pk_ok ha)
  · exact FlS.serve_ok ok

theorem TwoPost.then_below {bf bx : Nat} {x : FlS} {F : Nat → Prop} {w w1 w2 : World} (h : TwoPost bf bx x F w w1) (hF : Lt F w) (hb : Below w1.heap.size w1 w2) : TwoPost bf bx x F w w2 := by
  have f := h.2.then_below hb
  refine ⟨(h.1.below hb).mono (fun k hk => ?_) (hF.ext f.size), f⟩
  have := hb.size
  rcases hk with hk | hk
  · exact .inl hk
  · exact .inr ⟨hk.1, by omega⟩
theorem TwoPost.after_below {bf bx : Nat} {x : FlS} {F : Nat → Prop} {w w1 w2 : World} (hF : Lt F w) (hb : Below w.heap.size w w1) (h : TwoPost bf bx x F w1 w2) : TwoPost bf bx x F w w2 := by
  have f := Fr.after_below hb h.2
  refine ⟨h.1.mono (fun k hk => ?_) (hF.ext f.size), f⟩
  have := hb.size
  rcases hk with hk | hk
  · exact .inl hk
  · exact .inr ⟨by omega, hk.2⟩

/-- Where an act on both stands: n of the two are turned. -/
def St (w : World) (t : Nat) (cs : List Value) (e : TypeId) (bf bx : Nat) (x x' : FlS) (F Ff Fx : Nat → Prop) (n : Nat) (w' : World) : Prop :=
  Blk w' t cs e ∧ w.heap.size ≤ t ∧ (
    (n = 0 ∧ Below w.heap.size w w' ∧ FlowAt w' bf x Ff ∧ RefAt w' bx 0 x Fx) ∨
    (n = 1 ∧ (∃ w0 w1, Below w.heap.size w w0 ∧ w0.heap[t]? ≠ none ∧ FlowPost bf x' Ff w0 w1 ∧ Below w1.heap.size w1 w') ∧ RefAt w' bx 0 x Fx) ∨
    (n = 2 ∧ TwoPost bf bx x' F w w'))
section
variable {w : World} {t : Nat} {cs : List Value} {e : TypeId} {bf bx : Nat} {x x' : FlS} {F Ff Fx : Nat → Prop}
theorem St.below {n : Nat} {w1 w2 : World} (hF : Lt F w) (h : St w t cs e bf bx x x' F Ff Fx n w1) (hb : Below w1.heap.size w1 w2) : St w t cs e bf bx x x' F Ff Fx n w2 := by
  refine ⟨h.1.below hb, h.2.1, ?_⟩
  rcases h.2.2 with ⟨h1, h2, h3, h4⟩ | ⟨h1, ⟨w0, w', h2, h2', h3, h4⟩, h5⟩ | ⟨h1, h2⟩
  · exact .inl ⟨h1, h2.trans (hb.mono h2.size), h3.below hb, h4.below hb⟩
  · exact .inr (.inl ⟨h1, ⟨w0, w', h2, h2', h3, h4.trans (hb.mono h4.size)⟩, h5.below hb⟩)
  · exact .inr (.inr ⟨h1, h2.then_below hF hb⟩)
theorem St.f {w1 w2 : World} (h4 : ∀ k, Ff k → F k) (hd : ∀ k, Ff k → ¬ Fx k) (hF : Lt F w) (h : St w t cs e bf bx x x' F Ff Fx 0 w1) (p : FlowPost bf x' Ff w1 w2) : St w t cs e bf bx x x' F Ff Fx 1 w2 := by
  obtain ⟨hB, ht, ⟨-, h2, h3, h5⟩ | ⟨h0, -⟩ | ⟨h0, -⟩⟩ := h
  · have hn : ¬ Ff t := fun hk => by have := hF t (h4 t hk); omega
    refine ⟨hB.fr p.2 hn, ht, .inr (.inl ⟨rfl, ⟨w1, w2, h2, ?_, p, Below.refl _ _⟩, h5.fr p.2 fun k hk hk2 => hd k hk2 hk⟩)⟩
    unfold Blk at hB; rw [hB]; simp
  · cases h0
  · cases h0
theorem St.at0 {w1 : World} (h : St w t cs e bf bx x x' F Ff Fx 0 w1) : FlowAt w1 bf x Ff ∧ Below w.heap.size w w1 := by
  obtain ⟨hB, ht, ⟨-, h2, h3, h5⟩ | ⟨h0, -⟩ | ⟨h0, -⟩⟩ := h
  · exact ⟨h3, h2⟩
  · cases h0
  · cases h0
theorem St.at1 {w1 : World} (h : St w t cs e bf bx x x' F Ff Fx 1 w1) : RefAt w1 bx 0 x Fx := by
  obtain ⟨hB, ht, ⟨h0, -⟩ | ⟨-, h2, h5⟩ | ⟨h0, -⟩⟩ := h
  · cases h0
  · exact h5
  · cases h0
theorem St.second {w1 w2 : World} (h4 : ∀ k, Ff k → F k) (h5 : ∀ k, Fx k → F k) (hd : ∀ k, Ff k → ¬ Fx k) (hF : Lt F w) (h : St w t cs e bf bx x x' F Ff Fx 1 w1) (q : RefPost bx 0 x' Fx w1 w2) : St w t cs e bf bx x x' F Ff Fx 2 w2 := by
  obtain ⟨hB, ht, ⟨h0, -⟩ | ⟨-, ⟨w0, w', h2, h2', h3, h6⟩, h5'⟩ | ⟨h0, -⟩⟩ := h
  · cases h0
  · have hn : ¬ Fx t := fun hk => by have := hF t (h5 t hk); omega
    have hF0 : Lt F w0 := hF.mono h2.size
    exact ⟨hB.fr q.2 hn, ht, .inr (.inr ⟨rfl, TwoPost.after_below hF h2 (two_both hd h4 h5 hF0 h3 h6 q (fun k hk => hF0 k (h5 k hk)))⟩)⟩
  · cases h0
theorem St.at2 {w1 : World} (h : St w t cs e bf bx x x' F Ff Fx 2 w1) : TwoPost bf bx x' F w w1 := by
  obtain ⟨hB, ht, ⟨h0, -⟩ | ⟨h0, -⟩ | ⟨-, h⟩⟩ := h
  · cases h0
  · cases h0
  · exact h
theorem St.drew {n : Nat} {w1 : World} (hF : Lt F w) (h : St w t cs e bf bx x x' F Ff Fx n w1) : St w t cs e bf bx x x' F Ff Fx n w1.drew := h.below hF (Below.refl _ _).drew
end
def ActCells (a : ActS) (t : Nat) (w' : World) : Prop := w'.cell? ⟨t, 0, none⟩ = some (.int .i64 a.kind) ∧ w'.cell? ⟨t, 1, none⟩ = some (.int .u64 a.v) ∧ w'.cell? ⟨t, 2, none⟩ = some (.int .i64 a.p.flow) ∧ w'.cell? ⟨t, 3, none⟩ = some (.int .i64 a.p.len) ∧ w'.cell? ⟨t, 4, none⟩ = some (.int .i64 a.p.mark)
theorem St.cells {w : World} {t : Nat} {e : TypeId} {bf bx : Nat} {x x' : FlS} {F Ff Fx : Nat → Prop} {n : Nat} {w1 : World} {a : ActS} (h : St w t a.cells e bf bx x x' F Ff Fx n w1) :
    w1.cell? ⟨t, 0, none⟩ = some (.int .i64 a.kind) ∧ w1.cell? ⟨t, 1, none⟩ = some (.int .u64 a.v) ∧ w1.cell? ⟨t, 2, none⟩ = some (.int .i64 a.p.flow) ∧ w1.cell? ⟨t, 3, none⟩ = some (.int .i64 a.p.len) ∧ w1.cell? ⟨t, 4, none⟩ = some (.int .i64 a.p.mark) :=
  ⟨h.1.cell 0, h.1.cell 1, h.1.cell 2, h.1.cell 3, h.1.cell 4⟩

set_option maxHeartbeats 4000000 in
theorem step_in (bf bx : Nat) (x : FlS) (F : Nat → Prop) (a : ActS) (w : World) (h : TwoAt w bf bx x F) (ok : x.Ok) (ha : a.Ok) (hk : modZ a.kind 5 < 3) :
    Calls Try.prog 18 #[.pointer (some ⟨bf, 0, none⟩), .pointer (some ⟨bx, 0, none⟩), .agg #[.int .i64 a.kind, .int .u64 a.v, .int .i64 a.p.flow, .int .i64 a.p.len, .int .i64 a.p.mark]] w fun e w' => e = .returned (.bool true) ∧ TwoPost bf bx (x.act a) F w w' := by
  obtain ⟨Ff, Fx, h1, h2, hd, h4, h5, hF⟩ := h
  have e : x.act a = x.arrive a.time a.pk := by unfold FlS.act; rw [if_pos hk]
  rw [e]
  have hB := Blk.new w a.cells 40
  have hb1 := below1 w (.cells #[.int .i64 a.kind, .int .u64 a.v, .int .i64 a.p.flow, .int .i64 a.p.len, .int .i64 a.p.mark] 40)
  have A : St w w.heap.size a.cells 40 bf bx x (x.arrive a.time a.pk) F Ff Fx 0 (w.alloc (.cells #[.int .i64 a.kind, .int .u64 a.v, .int .i64 a.p.flow, .int .i64 a.p.len, .int .i64 a.p.mark] 40)).drew :=
    St.drew hF ⟨hB, Nat.le_refl _, .inl ⟨rfl, hb1, h1.below hb1, h2.below hb1⟩⟩
  have c0 : (w.alloc (.cells #[.int .i64 a.kind, .int .u64 a.v, .int .i64 a.p.flow, .int .i64 a.p.len, .int .i64 a.p.mark] 40)).cell? ⟨w.heap.size, 0, none⟩ = some (.int .i64 a.kind) := hB.cell 0
  clear hB hb1 e
  have HF := Lib.hid hF
  have HD := Lib.hid hd
  have H4 := Lib.hid h4
  have H5 := Lib.hid h5
  clear hd h4 h5 hF h1 h2
  go_enter Try.func18, Try.ntmps18
  go_wp2_with (go_at_call 15; refine (mod_any _ _ (by omega) (by omega) _).mono ?_; rintro e w' ⟨rfl, rfl⟩)
  generalize (w.alloc (.cells #[.int .i64 a.kind, .int .u64 a.v, .int .i64 a.p.flow, .int .i64 a.p.len, .int .i64 a.p.mark] 40)) = W at *
  go_region_held3 (fun w' => w'.cell? ⟨w.heap.size, 0, none⟩ = some (.int .i64 a.kind) ∧ w'.cell? ⟨w.heap.size, 1, none⟩ = some (.int .u64 a.v) ∧ w'.cell? ⟨w.heap.size, 2, none⟩ = some (.int .i64 a.p.flow) ∧ w'.cell? ⟨w.heap.size, 3, none⟩ = some (.int .i64 a.p.len) ∧ w'.cell? ⟨w.heap.size, 4, none⟩ = some (.int .i64 a.p.mark)) (exact St.cells A)
    (first
      | (go_at_call 19; refine (v_any a ha _).mono ?_; rintro e w1 ⟨rfl, hb⟩; replace A := St.below HF.out A hb)
      | (go_at_call 20; refine (packet_any a ha _).mono ?_; rintro e w1 ⟨rfl, hb⟩; replace A := St.below HF.out A hb; simp only [Pk.val])
      | (go_at_call 11; refine (arrive_any bf x Ff a.time a.pk _ (St.at0 A).1 ok).mono ?_; rintro e w1 ⟨rfl, hp⟩; replace A := St.f H4.out HD.out HF.out A hp)
      | (go_at_call 34; refine (refArrive_any bx 0 x Fx a.time a.pk _ (St.at1 A) ok).mono ?_; rintro e w1 ⟨rfl, hp⟩; replace A := St.second H4.out H5.out HD.out HF.out A hp))
  go_wp2
  go_ret
  exact ⟨by simp [Act.eval], St.at2 A⟩

theorem two_serve {w w0 w1 w2 w3 : World} {bf bx : Nat} {x' : FlS} {F Ff Fx : Nat → Prop} (hd : ∀ k, Ff k → ¬ Fx k) (h4 : ∀ k, Ff k → F k) (h5 : ∀ k, Fx k → F k) (h6 : Lt F w)
    (h0 : Below w.heap.size w w0) (p : FlowPost bf x' Ff w0 w1) (hb : Below w1.heap.size w1 w2) (q : RefPost bx 0 x' Fx w2 w3) : TwoPost bf bx x' F w w3 :=
  TwoPost.after_below h6 h0 (two_both hd h4 h5 (h6.mono h0.size) p hb q fun k hk => Nat.lt_of_lt_of_le (h6 k (h5 k hk)) h0.size)

set_option maxHeartbeats 4000000 in
theorem step_out (bf bx : Nat) (x : FlS) (F : Nat → Prop) (a : ActS) (w : World) (h : TwoAt w bf bx x F) (ok : x.Ok) (ha : a.Ok) (hk : 3 ≤ modZ a.kind 5) :
    Calls Try.prog 18 #[.pointer (some ⟨bf, 0, none⟩), .pointer (some ⟨bx, 0, none⟩), .agg #[.int .i64 a.kind, .int .u64 a.v, .int .i64 a.p.flow, .int .i64 a.p.len, .int .i64 a.p.mark]] w fun e w' => e = .returned (.bool true) ∧ TwoPost bf bx (x.act a) F w w' := by
  obtain ⟨Ff, Fx, h1, h2, hd, h4, h5, hF⟩ := h
  have e : x.act a = x.serve := by unfold FlS.act; rw [if_neg (by omega)]
  rw [e]
  have hB := Blk.new w a.cells 40
  have hb1 := below1 w (.cells #[.int .i64 a.kind, .int .u64 a.v, .int .i64 a.p.flow, .int .i64 a.p.len, .int .i64 a.p.mark] 40)
  have c0 : (w.alloc (.cells #[.int .i64 a.kind, .int .u64 a.v, .int .i64 a.p.flow, .int .i64 a.p.len, .int .i64 a.p.mark] 40)).cell? ⟨w.heap.size, 0, none⟩ = some (.int .i64 a.kind) := hB.cell 0
  have A1 := h1.below hb1
  have A2 := h2.below hb1
  clear hB e h1 h2
  have HF := Lib.hid hF
  have HD := Lib.hid hd
  have H4 := Lib.hid h4
  have H5 := Lib.hid h5
  have HB1 := Lib.hid hb1
  clear hd h4 h5 hF hb1
  go_enter Try.func18, Try.ntmps18
  go_wp2_with (go_at_call 15; refine (mod_any _ _ (by omega) (by omega) _).mono ?_; rintro e w' ⟨rfl, rfl⟩)
  generalize (w.alloc (.cells #[.int .i64 a.kind, .int .u64 a.v, .int .i64 a.p.flow, .int .i64 a.p.len, .int .i64 a.p.mark] 40)) = W at *
  go_wp2_with (first
    | (go_at_call 13; refine (serve_any bf x Ff _ A1 ok).mono ?_; rintro e w1 ⟨rfl, hp⟩; simp only [Pk.val]; have A2' := ((A2.fr hp.2 fun k hk hk2 => HD.out k hk2 hk)))
    | (go_at_call 35; refine (refServe_any bx 0 x Fx _ (A2'.below (below1 _ _)) ok).mono ?_; rintro e w2 ⟨rfl, hq⟩; simp only [Pk.val]; have T7 := (Blk.new w1 [.int .i64 x.head.flow, .int .i64 x.head.len, .int .i64 x.head.mark] 24).fr hq.2 (fun hk => by have := HF.out _ (H5.out _ hk); have := HB1.out.size; have := hp.2.size; omega); have q0 := T7.cell 0; have q1 := T7.cell 1; have q2 := T7.cell 2; have q3 := T7.lt; simp only [List.getElem?_cons_succ, List.getElem?_cons_zero] at q0 q1 q2))
  go_ret
  exact ⟨by simp [Act.eval], (two_serve HD.out H4.out H5.out HF.out HB1.out hp (below1 _ _) hq).then_below HF.out (below1 _ _)⟩

theorem step_any (bf bx : Nat) (x : FlS) (F : Nat → Prop) (a : ActS) (w : World) (h : TwoAt w bf bx x F) (ok : x.Ok) (ha : a.Ok) :
    Calls Try.prog 18 #[.pointer (some ⟨bf, 0, none⟩), .pointer (some ⟨bx, 0, none⟩), .agg #[.int .i64 a.kind, .int .u64 a.v, .int .i64 a.p.flow, .int .i64 a.p.len, .int .i64 a.p.mark]] w fun e w' => e = .returned (.bool true) ∧ TwoPost bf bx (x.act a) F w w' := by
  by_cases hk : modZ a.kind 5 < 3
  · exact step_in bf bx x F a w h ok ha hk
  · exact step_out bf bx x F a w h ok ha (by omega)
end Go.Proofs.Ytgdfoibfmjkikaa
