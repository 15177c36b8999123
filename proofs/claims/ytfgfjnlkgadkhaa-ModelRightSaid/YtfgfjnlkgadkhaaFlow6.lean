/- A flow of the program, last: serving in one word, a copy. -/
import Derived.Test.YtfgfjnlkgadkhaaFlow5
namespace Go.Proofs.Ytfgfjnlkgadkhaa
set_option linter.unusedVariables false
set_option maxRecDepth 20000
set_option linter.unusedSimpArgs false
open Go.RowKit Go.Proofs.YtfgfjnlkgadkhaaMem

def FlS.out (x : FlS) : Int := match x.l with | [] => 0 | p :: _ => x.fin p
theorem FlS.fin_one (x : FlS) (p : Pk) : x.fin p = satAdd x.start (costOf p.len x.r) := rfl
theorem FlS.put_ok {x : FlS} (ok : x.Ok) (hf : x.full = false) {v : Int} (hv : W64 v) {p : Pk} (hp : p.Ok) : (x.put v p).Ok := by
  have hl : (x.l.length : Int) ≠ x.most := by simpa [FlS.full] using hf
  have := ok.len
  refine ⟨ok.r, ?_, ok.finish, ok.m1, ok.m8, ?_, ?_⟩
  · show W64 (if x.l = [] then max v x.finish else x.start)
    have h1 := ok.start; have h2 := ok.finish
    unfold W64 at *
    split <;> omega
  · show ((x.l ++ [p]).length : Int) ≤ x.most
    simp; omega
  · intro q hq
    have hq : q ∈ x.l ++ [p] := hq
    simp only [List.mem_append, List.mem_singleton] at hq
    rcases hq with hq | rfl
    · exact ok.pk q hq
    · exact hp
theorem FlS.arrive_ok {x : FlS} (ok : x.Ok) {v : Int} (hv : W64 v) {p : Pk} (hp : p.Ok) : (x.arrive v p).Ok := by
  unfold FlS.arrive
  cases h : x.full with
  | true => exact ok
  | false => exact FlS.put_ok ok h hv hp
theorem FlS.serve_ok {x : FlS} (ok : x.Ok) : x.serve.Ok := by
  unfold FlS.serve
  split
  · exact ok
  · rename_i p rest hl
    have h1 := ok.len
    have h2 := ok.pk
    rw [hl] at h1 h2
    exact ⟨ok.r, FlS.fin_w64 ok p, FlS.fin_w64 ok p, ok.m1, ok.m8, by simp at h1 ⊢; omega, fun q hq => h2 q (by simp [hq])⟩
theorem FlS.new_ok {r most : Int} (hr : W64 r) : (FlS.new r most).Ok := ⟨hr, by show W64 0; unfold W64; omega, by show W64 0; unfold W64; omega, by show 1 ≤ min (max most 1) 8; omega, by show min (max most 1) 8 ≤ 8; omega, by show ((([] : List Pk).length : Nat) : Int) ≤ min (max most 1) 8; simp; omega, by intro p hp; cases hp⟩

/-- A packet that comes. -/
theorem arrive_any (b : Nat) (x : FlS) (F : Nat → Prop) (v : Int) (p : Pk) (w : World) (h : FlowAt w b x F) (ok : x.Ok) :
    Calls Try.prog 57 #[.pointer (some ⟨b, 0, none⟩), .int .u64 v, .agg #[.int .i64 p.flow, .int .i64 p.len, .int .i64 p.mark]] w fun e w' => e = .returned (.bool (!x.full)) ∧ FlowPost b (x.arrive v p) F w w' := by
  unfold FlS.arrive
  cases hf : x.full with
  | true => exact (arrive_full b x F v p w h hf).mono fun e w' hh => ⟨hh.1, FlowPost.of_below h hh.2⟩
  | false =>
    by_cases hl : x.l = []
    · exact arrive_first b x F v p w h ok hl
    · exact arrive_more b x F v p w h ok hf hl

/-- The first packet is served. -/
theorem serve_any (b : Nat) (x : FlS) (F : Nat → Prop) (w : World) (h : FlowAt w b x F) (ok : x.Ok) :
    Calls Try.prog 59 #[.pointer (some ⟨b, 0, none⟩)] w fun e w' => e = .returned (.tuple #[x.head.val, .int .u64 x.out, .bool x.has]) ∧ FlowPost b x.serve F w w' := by
  cases hl : x.l with
  | nil =>
    have e1 : x.head = Pk.zero := by unfold FlS.head; rw [hl]
    have e2 : x.out = 0 := by unfold FlS.out; rw [hl]
    have e3 : x.has = false := by unfold FlS.has; rw [hl]; rfl
    have e4 : x.serve = x := by unfold FlS.serve; rw [hl]
    rw [e1, e2, e3, e4]
    exact (serve_none b x F w h hl).mono fun e w' hh => ⟨hh.1, FlowPost.of_below h hh.2⟩
  | cons p rest =>
    have e1 : x.head = p := by unfold FlS.head; rw [hl]
    have e2 : x.out = x.fin p := by unfold FlS.out; rw [hl]
    have e3 : x.has = true := by unfold FlS.has; rw [hl]; rfl
    have e4 : x.serve = x.stepped p rest 3 := by unfold FlS.serve; rw [hl]; rfl
    rw [e1, e2, e3, e4]
    exact (serve_some b x F w p rest h ok hl).mono fun e w' hh => hh

end Go.Proofs.Ytfgfjnlkgadkhaa
