/- A flow of the program, next: the three steps of serving. -/
import Derived.Test.YtfgfjnlkgadkhaaFlow3
import Derived.StillTailTactics
namespace Go.Proofs.Ytfgfjnlkgadkhaa
set_option linter.unusedVariables false
set_option linter.unusedSimpArgs false
open Go.RowKit Go.Proofs.YtfgfjnlkgadkhaaMem

theorem satAdd_w64 {a b : Int} (ha : W64 a) (hb : W64 b) : W64 (satAdd a b) := by
  obtain ⟨a1, a2⟩ := ha; obtain ⟨b1, b2⟩ := hb
  unfold W64 satAdd; split <;> omega
theorem satMul_w64 {a b : Int} (ha : 0 ≤ a) (hb : 0 ≤ b) : W64 (satMul a b) := by
  have := Int.mul_nonneg ha hb
  unfold W64 satMul; split <;> omega
theorem costOf_w64 {n r : Int} (hr : W64 r) : W64 (costOf n r) := satMul_w64 (by omega) hr.1
theorem FlS.fin_w64 {x : FlS} (ok : x.Ok) (p : Pk) : W64 (x.fin p) := satAdd_w64 ok.start (costOf_w64 ok.r)

/-- A store to a number of the flow. -/
theorem num_post {w w1 : World} {b : Nat} {x : FlS} {F : Nat → Prop} (h : FlowAt w b x F) (hb : Below w.heap.size w w1) :
    (∀ v, FlowPost b { x with start := v } F w (w1.setCell ⟨b, 3, none⟩ (.int .u64 v))) ∧ (∀ v, FlowPost b { x with finish := v } F w (w1.setCell ⟨b, 4, none⟩ (.int .u64 v))) := by
  have hlt : Lt F w := by obtain ⟨ao, cap, hb, ho, h1, h2, h3⟩ := h; exact h3
  have h1 := h.below hb
  obtain ⟨ao, cap, hB, ho, hF1, hF2, hF3⟩ := h1
  have hf : Fr F w w1 := Fr.of_below hb
  refine ⟨fun v => ⟨⟨ao, cap, ?_, ?_, .inl hF1, fun a ha => ⟨.inl (hF2 a ha).1, (hF2 a ha).2⟩, hlt.ext (by simpa [World.setCell] using hb.size)⟩, hf.setCell (.inl hF1) _⟩, fun v => ⟨⟨ao, cap, ?_, ?_, .inl hF1, fun a ha => ⟨.inl (hF2 a ha).1, (hF2 a ha).2⟩, hlt.ext (by simpa [World.setCell] using hb.size)⟩, hf.setCell (.inl hF1) _⟩⟩
  · simpa using hB.set 3 (.int .u64 v)
  · refine owns_fr (S := fun k => k = b) ho (Fr.setCell (S := fun k => k = b) (a := ⟨b, 3, none⟩) (Fr.refl _ _) (.inl rfl) _) fun k hk => ?_
    cases ao with
    | none => cases hk
    | some a => cases hk; exact (hF2 a rfl).2
  · simpa using hB.set 4 (.int .u64 v)
  · refine owns_fr (S := fun k => k = b) ho (Fr.setCell (S := fun k => k = b) (a := ⟨b, 4, none⟩) (Fr.refl _ _) (.inl rfl) _) fun k hk => ?_
    cases ao with
    | none => cases hk
    | some a => cases hk; exact (hF2 a rfl).2

set_option maxHeartbeats 400000 in
theorem turn_any (b : Nat) (x : FlS) (F : Nat → Prop) (w : World) (h : FlowAt w b x F) :
    Calls Try.prog 72 #[.pointer (some ⟨b, 0, none⟩)] w fun e w' => e = .returned (.tuple #[]) ∧ FlowPost b { x with start := x.finish } F w w' := by
  have P := Lib.hid (num_post h (Below.refl _ _)).1
  obtain ⟨ao, cap, hb, ho, -⟩ := h
  have hlt := hb.lt
  have c3 := hb.cell 3
  have c4 := hb.cell 4
  have fz := hb.frozen 3
  simp only [List.getElem?_cons_succ, List.getElem?_cons_zero] at c3 c4
  clear hb ho
  go_enter Try.func72, Try.ntmps72
  go_wp2
  go_end0
  exact ⟨rfl, P.out x.finish⟩

set_option maxRecDepth 20000 in
set_option maxHeartbeats 1000000 in
theorem charge_any (b : Nat) (x : FlS) (F : Nat → Prop) (w : World) (p : Pk) (rest : List Pk) (h : FlowAt w b x F) (ok : x.Ok) (hl : x.l = p :: rest) :
    Calls Try.prog 70 #[.pointer (some ⟨b, 0, none⟩)] w fun e w' => e = .returned (.tuple #[]) ∧ FlowPost b { x with finish := x.fin p } F w w' := by
  have P := Lib.hid fun w1 (hb : Below w.heap.size w w1) => (num_post h hb).2 (x.fin p)
  have hp := ok.pk p (by rw [hl]; simp)
  have hr := ok.r
  have hs := ok.start
  have hc : W64 (costOf p.len x.r) := costOf_w64 hr
  have hn : p.len ≤ 9223372036854775807 := hp.2.1.2
  obtain ⟨g, cap, hb, ho, hFb, hFg, hne, hF, hcap, f0, f1, f2⟩ := h.first hl
  have hlt := hb.lt
  have hlg : g < w.heap.size := hF g hFg
  have c0 := hb.cell 0
  have c2 := hb.cell 2
  have c3 := hb.cell 3
  have c4 := hb.cell 4
  have fz := hb.frozen 4
  have i1 : (0 : Int) < ((rest.length + 1 : Nat) : Int) := by omega
  simp only [List.getElem?_cons_succ, List.getElem?_cons_zero] at c0 c2 c3 c4
  clear hb ho hl h hp ok
  go_enter Try.func70, Try.ntmps70
  go_wp2_with fail
  go_still_tail 18, (by kernel_rfl)
  still_call ((cost_any _ _ hn hr _).mono fun e w' h => ⟨h.1, h.2.symm⟩)
  still_call ((add_any _ _ hs hc _).mono fun e w' h => ⟨h.1, h.2.symm⟩)
  refine wpStill_nil ?_
  change wpList _ _ _ _ _ w.drew
  go_wp2
  go_end0
  exact ⟨rfl, P.out _ ((Below.refl _ _).drew)⟩
end Go.Proofs.Ytfgfjnlkgadkhaa
