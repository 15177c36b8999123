/- A flow of the program, last: serving in one word, a copy. -/
import Derived.Test.YtnanalaienlbpaaGreatFlow5
namespace Go.Proofs.YtnanalaienlbpaaGreat
set_option linter.unusedVariables false
set_option maxRecDepth 20000
set_option linter.unusedSimpArgs false
open Go.RowKit Go.Proofs.YtnanalaienlbpaaGreatMem

def FlS.out (x : FlS) : Int := match x.l with | [] => 0 | p :: _ => x.fin p
theorem FlS.fin_one (x : FlS) (p : Pk) : x.fin p = satAdd x.start (costOf p.len x.r) := rfl
theorem FlS.put_ok {x : FlS} (ok : x.Ok) (hf : x.full = false) {v : Int} (hv : W64 v) {p : Pk} (hp : p.Ok) : (x.put v p).Ok := by
  have hl : (x.l.length : Int) ≠ x.most := by simpa [FlS.full] using hf
  have := ok.len
  refine ⟨ok.r, ?_, ok.finish, ok.m1, ok.m8, ?_, ?_⟩
  · show W64 (if x.l = [] then max v x.finish else x.start)
    have h1 := ok.start; have h2 := ok.finish
    unfold W64 at *
    split <;> omega
  · show ((x.l ++ [p]).length : Int) ≤ x.most
    simp; omega
  · intro q hq
    have hq : q ∈ x.l ++ [p] := hq
    simp only [List.mem_append, List.mem_singleton] at hq
    rcases hq with hq | rfl
    · exact ok.pk q hq
    · exact hp
theorem FlS.arrive_ok {x : FlS} (ok : x.Ok) {v : Int} (hv : W64 v) {p : Pk} (hp : p.Ok) : (x.arrive v p).Ok := by
  unfold FlS.arrive
  cases h : x.full with
  | true => exact ok
  | false => exact FlS.put_ok ok h hv hp
theorem FlS.serve_ok {x : FlS} (ok : x.Ok) : x.serve.Ok := by
  unfold FlS.serve
  split
  · exact ok
  · rename_i p rest hl
    have h1 := ok.len
    have h2 := ok.pk
    rw [hl] at h1 h2
    exact ⟨ok.r, FlS.fin_w64 ok p, FlS.fin_w64 ok p, ok.m1, ok.m8, by simp at h1 ⊢; omega, fun q hq => h2 q (by simp [hq])⟩
theorem FlS.new_ok {r most : Int} (hr : W64 r) : (FlS.new r most).Ok := ⟨hr, by show W64 0; unfold W64; omega, by show W64 0; unfold W64; omega, by show 1 ≤ min (max most 1) 8; omega, by show min (max most 1) 8 ≤ 8; omega, by show ((([] : List Pk).length : Nat) : Int) ≤ min (max most 1) 8; simp; omega, by intro p hp; cases hp⟩

/-- A packet that comes. -/
theorem arrive_any (b : Nat) (x : FlS) (F : Nat → Prop) (v : Int) (p : Pk) (w : World) (h : FlowAt w b x F) (ok : x.Ok) :
    Calls Tryz.prog 40 #[.pointer (some ⟨b, 0, none⟩), .int .u64 v, .agg #[.int .i64 p.flow, .int .i64 p.len, .int .i64 p.mark]] w fun e w' => e = .returned (.bool (!x.full)) ∧ FlowPost b (x.arrive v p) F w w' := by
  unfold FlS.arrive
  cases hf : x.full with
  | true => exact (arrive_full b x F v p w h hf).mono fun e w' hh => ⟨hh.1, FlowPost.of_below h hh.2⟩
  | false =>
    by_cases hl : x.l = []
    · exact arrive_first b x F v p w h ok hl
    · exact arrive_more b x F v p w h ok hf hl

/-- The first packet is served. -/
theorem serve_any (b : Nat) (x : FlS) (F : Nat → Prop) (w : World) (h : FlowAt w b x F) (ok : x.Ok) :
    Calls Tryz.prog 42 #[.pointer (some ⟨b, 0, none⟩)] w fun e w' => e = .returned (.tuple #[x.head.val, .int .u64 x.out, .bool x.has]) ∧ FlowPost b x.serve F w w' := by
  cases hl : x.l with
  | nil =>
    have e1 : x.head = Pk.zero := by unfold FlS.head; rw [hl]
    have e2 : x.out = 0 := by unfold FlS.out; rw [hl]
    have e3 : x.has = false := by unfold FlS.has; rw [hl]; rfl
    have e4 : x.serve = x := by unfold FlS.serve; rw [hl]
    rw [e1, e2, e3, e4]
    exact (serve_none b x F w h hl).mono fun e w' hh => ⟨hh.1, FlowPost.of_below h hh.2⟩
  | cons p rest =>
    have e1 : x.head = p := by unfold FlS.head; rw [hl]
    have e2 : x.out = x.fin p := by unfold FlS.out; rw [hl]
    have e3 : x.has = true := by unfold FlS.has; rw [hl]; rfl
    have e4 : x.serve = x.stepped p rest 3 := by unfold FlS.serve; rw [hl]; rfl
    rw [e1, e2, e3, e4]
    exact (serve_some b x F w p rest h ok hl).mono fun e w' hh => hh

set_option maxHeartbeats 1000000 in
theorem copy_any (b : Nat) (x : FlS) (F : Nat → Prop) (w : World) (h : FlowAt w b x F) (ok : x.Ok) :
    Calls Tryz.prog 32 #[.pointer (some ⟨b, 0, none⟩)] w (MkPost (fun w' b F => FlowAt w' b x F) w) := by
  obtain ⟨ao, cap, hb, ho, hFb, hFa, hF⟩ := h
  have hlt := hb.lt
  have n8 : x.l.length ≤ 8 := by have := ok.len; have := ok.m8; omega
  have R := owns_rdS ho (pks_one _)
  have c0 := hb.cell 0
  have c1 := hb.cell 1
  have c2 := hb.cell 2
  have c3 := hb.cell 3
  have c4 := hb.cell 4
  simp only [List.getElem?_cons_succ, List.getElem?_cons_zero] at c0 c1 c2 c3 c4
  have B0 := Blk.new w [.int .u64 x.r, .int .i64 x.most, .slice ao x.l.length cap, .int .u64 x.start, .int .u64 x.finish] 95
  have HB := Lib.hid B0
  have HR := Lib.hid R
  clear hb ho B0 R ok
  go_enter Tryz.func32, Tryz.ntmps32
  go_wp2_with (go_at_call 54; refine (cloneP_any ao x.l.length cap x.l _ (HR.out.below (below1 _ _)) rfl (by omega)).mono ?_; rintro e w1 ⟨v, rfl, hown, hb1⟩; obtain ⟨a', c', rfl⟩ := owns_slice hown; have B1 := HB.out.below hb1; have d2 := B1.cell 2; have fz := B1.frozen 2; have hl1 := B1.lt; simp only [List.getElem?_cons_succ, List.getElem?_cons_zero] at d2)
  go_ret
  have hb2 : Below w.heap.size w w1 := (below1 w _).trans (hb1.mono (by simp))
  have hs : (w1.setCell ⟨w.heap.size, 2, none⟩ (.slice a' x.l.length c')).heap.size = w1.heap.size := by simp [World.setCell]
  have hown2 := owns_base hown (Nat.zero_le _)
  have hlo : ∀ a, a' = some a → w.heap.size < a.block ∧ a.block < w1.heap.size := fun a ha => by
    subst ha
    have := hown.lt a.block rfl
    simp at this
    omega
  refine ⟨w.heap.size, rfl, ⟨a', c', ?_, ?_, ⟨Nat.le_refl _, by rw [hs]; exact hl1⟩, fun a ha => ⟨⟨by have := hlo a ha; omega, by rw [hs]; exact (hlo a ha).2⟩, by have := hlo a ha; omega⟩, fun k hk => hk.2⟩, hb2.setCell (by simp) _⟩
  · simpa using B1.set 2 (.slice a' x.l.length c')
  · refine owns_fr (S := fun k => k = w.heap.size) hown2 (Fr.setCell (S := fun k => k = w.heap.size) (a := ⟨w.heap.size, 2, none⟩) (Fr.refl _ _) (.inl rfl) _) fun k hk => ?_
    cases a' with
    | none => cases hk
    | some a => cases hk; intro e; have := (hlo a rfl).1; omega
end Go.Proofs.YtnanalaienlbpaaGreat
