/- A flow of the program, next: making one, its first packet, a packet that comes, a copy. -/
import Derived.Test.YtfgfjnlkgadkhaaFlow
namespace Go.Proofs.Ytfgfjnlkgadkhaa
set_option linter.unusedVariables false
set_option linter.unusedSimpArgs false
open Go.RowKit Go.Proofs.YtfgfjnlkgadkhaaMem

def FlS.head (x : FlS) : Pk := match x.l with | [] => Pk.zero | p :: _ => p

/-- The cells of the first packet. -/
theorem FlowAt.first {w : World} {b : Nat} {x : FlS} {F : Nat → Prop} {p : Pk} {rest : List Pk} (h : FlowAt w b x F) (hl : x.l = p :: rest) :
    ∃ g cap, Blk w b [.int .u64 x.r, .int .i64 x.most, .slice (some ⟨g, 0, none⟩) (rest.length + 1) cap, .int .u64 x.start, .int .u64 x.finish] 115 ∧ w.ownsRow 0 55 3 (.slice (some ⟨g, 0, none⟩) (rest.length + 1) cap) (rest.length + 1) (p.cells ++ pks rest) ∧ F b ∧ F g ∧ g ≠ b ∧ Lt F w ∧
      rest.length + 1 ≤ cap ∧ w.cell? ⟨g, 0, none⟩ = some (.int .i64 p.flow) ∧ w.cell? ⟨g, 1, none⟩ = some (.int .i64 p.len) ∧ w.cell? ⟨g, 2, none⟩ = some (.int .i64 p.mark) := by
  obtain ⟨ao, cap, hb, ho, h1, h2, h3⟩ := h
  rw [hl] at hb ho
  simp only [List.length_cons] at hb ho
  obtain ⟨g, cap', hv, _, hlt⟩ := ho.form (by omega)
  simp only [Value.slice.injEq] at hv
  obtain ⟨rfl, _, rfl⟩ := hv
  rw [pks_cons] at ho
  have hc := (owns_cap ho).2.1
  refine ⟨g, cap, hb, ho, h1, (h2 _ rfl).1, (h2 _ rfl).2, h3, hc, ?_, ?_, ?_⟩
  · rw [ho.cellAt 0 (by omega)]; rfl
  · rw [ho.cellAt 1 (by omega)]; rfl
  · rw [ho.cellAt 2 (by omega)]; rfl

theorem below1 (w : World) (o : Obj) : Below w.heap.size w (w.alloc o) := (Below.refl _ _).alloc (Nat.le_refl _) _

set_option maxHeartbeats 400000 in
theorem head_any (b : Nat) (x : FlS) (F : Nat → Prop) (w : World) (h : FlowAt w b x F) :
    Calls Try.prog 69 #[.pointer (some ⟨b, 0, none⟩)] w fun e w' => e = .returned (.tuple #[x.head.val, .bool x.has]) ∧ Below w.heap.size w w' := by
  have hlt : b < w.heap.size := by obtain ⟨ao, cap, hb, -⟩ := h; exact hb.lt
  cases hl : x.l with
  | nil =>
    obtain ⟨ao, cap, hb, ho, -⟩ := h
    rw [hl] at hb
    have c2 := hb.cell 2
    simp only [List.getElem?_cons_succ, List.getElem?_cons_zero, List.length_nil] at c2
    have E : Hid (x.head = Pk.zero) := by unfold Hid FlS.head; rw [hl]
    have E2 : Hid (x.has = false) := by unfold Hid FlS.has; rw [hl]; rfl
    clear hl hb ho
    go_enter Try.func69, Try.ntmps69
    go_wp2
    refine bodyPost_ret (v := .tuple #[.agg #[.int .i64 0, .int .i64 0, .int .i64 0], .bool false]) (by simp [results, Try.results69, go_sem]) rfl ⟨by rw [E.out, E2.out]; rfl, ?_⟩
    repeat (first | exact Below.refl _ _ | refine Below.setCell ?_ (by simp) _ | refine Below.alloc ?_ (by simp) _)
  | cons p rest =>
    obtain ⟨g, cap, hb, ho, hFb, hFg, hne, hF, hcap, f0, f1, f2⟩ := h.first hl
    have c2 := hb.cell 2
    simp only [List.getElem?_cons_succ, List.getElem?_cons_zero, List.length_cons] at c2
    have E : Hid (x.head = p) := by unfold Hid FlS.head; rw [hl]
    have E2 : Hid (x.has = true) := by unfold Hid FlS.has; rw [hl]; rfl
    have hlg : g < w.heap.size := hF g hFg
    have i1 : (0 : Int) < ((rest.length + 1 : Nat) : Int) := by omega
    have e1 : (((rest.length + 1 : Nat) : Int) == 0) = false := by simp; omega
    clear hl hb ho
    go_enter Try.func69, Try.ntmps69
    go_wp2
    refine bodyPost_ret (v := .tuple #[.agg #[.int .i64 p.flow, .int .i64 p.len, .int .i64 p.mark], .bool true]) (by simp [results, Try.results69, go_sem]) rfl ⟨by rw [E.out, E2.out]; rfl, ?_⟩
    repeat (first | exact Below.refl _ _ | refine Below.setCell ?_ (by simp) _ | refine Below.alloc ?_ (by simp) _)

/-- A call that makes an object. -/
def MkPost (R : World → Nat → (Nat → Prop) → Prop) (w : World) (e : Ending) (w' : World) : Prop := ∃ b, e = .returned (.pointer (some ⟨b, 0, none⟩)) ∧ R w' b (fun k => w.heap.size ≤ k ∧ k < w'.heap.size) ∧ Below w.heap.size w w'

set_option maxHeartbeats 400000 in
theorem new_any (r most : Int) (w : World) :
    Calls Try.prog 55 #[.int .u64 r, .int .i64 most] w (MkPost (fun w' b F => FlowAt w' b (FlS.new r most) F) w) := by
  have hm : (most < 1 ∧ FlS.new r most = ⟨r, 1, 0, 0, []⟩) ∨ (1 ≤ most ∧ most ≤ 8 ∧ FlS.new r most = ⟨r, most, 0, 0, []⟩) ∨ (8 < most ∧ FlS.new r most = ⟨r, 8, 0, 0, []⟩) := by
    unfold FlS.new
    by_cases h1 : most < 1
    · left; exact ⟨h1, by congr 1; omega⟩
    · by_cases h2 : most ≤ 8
      · right; left; exact ⟨by omega, h2, by congr 1; omega⟩
      · right; right; exact ⟨by omega, by congr 1; omega⟩
  rcases hm with ⟨h1, he⟩ | ⟨h1, h2, he⟩ | ⟨h1, he⟩
  all_goals
    have E := Lib.hid he
    clear he
    go_enter Try.func55, Try.ntmps55
    go_wp2
    go_ret
    refine ⟨w.heap.size, rfl, ?_, below1 _ _⟩
    rw [E.out]
    exact ⟨none, 0, Blk.new w _ _, owns_nil _ _ _ _, ⟨Nat.le_refl _, by simp⟩, (fun a h => by cases h), fun k hk => hk.2⟩
end Go.Proofs.Ytfgfjnlkgadkhaa
