/- A set of flows: one packet served. -/
import Derived.Test.YtfgfjnlkgadkhaaSfq6
import Derived.Deep.CutRange
import Derived.Deep.RegionHeld3
namespace Go.Proofs.Ytfgfjnlkgadkhaa
set_option linter.unusedVariables false
set_option linter.unusedSimpArgs false
set_option maxRecDepth 20000
open Go.RowKit Go.Proofs.YtfgfjnlkgadkhaaMem Go.Proofs.YtfgfjnlkgadkhaaMapK

theorem SfqR.setV {w : World} {b mb : Nat} {v most : Int} {l : List FlR} {F : Nat → Prop} (h : SfqR w b mb v most l F) (x : Int) : SfqR (w.setCell ⟨b, 1, none⟩ (.int .u64 x)) b mb x most l F ∧ Fr F w (w.setCell ⟨b, 1, none⟩ (.int .u64 x)) := by
  have hf : Fr (fun k => k = b) w (w.setCell ⟨b, 1, none⟩ (.int .u64 x)) := Fr.setCell (S := fun k => k = b) (a := ⟨b, 1, none⟩) (Fr.refl _ w) (.inl rfl) _
  refine ⟨{ blk := h.blk.set 1 _, map := h.map.of_eq (hf.block mb (h.lt mb h.hm) (fun e => h.ne e.symm)), flows := fun e he => (h.flows e he).fr hf fun k hk e' => (h.sub e he k hk).2.1 e', hb := h.hb, hm := h.hm, ne := h.ne, sub := h.sub, disj := h.disj, lt := h.lt.mono hf.size, ok := h.ok }, Fr.setCell (S := F) (a := ⟨b, 1, none⟩) (Fr.refl _ w) (.inl h.hb) _⟩
theorem SfqR.setMost {w : World} {b mb : Nat} {v most : Int} {l : List FlR} {F : Nat → Prop} (h : SfqR w b mb v most l F) (x : Int) : SfqR (w.setCell ⟨b, 2, none⟩ (.int .u64 x)) b mb v x l F ∧ Fr F w (w.setCell ⟨b, 2, none⟩ (.int .u64 x)) := by
  have hf : Fr (fun k => k = b) w (w.setCell ⟨b, 2, none⟩ (.int .u64 x)) := Fr.setCell (S := fun k => k = b) (a := ⟨b, 2, none⟩) (Fr.refl _ w) (.inl rfl) _
  refine ⟨{ blk := h.blk.set 2 _, map := h.map.of_eq (hf.block mb (h.lt mb h.hm) (fun e => h.ne e.symm)), flows := fun e he => (h.flows e he).fr hf fun k hk e' => (h.sub e he k hk).2.1 e', hb := h.hb, hm := h.hm, ne := h.ne, sub := h.sub, disj := h.disj, lt := h.lt.mono hf.size, ok := h.ok }, Fr.setCell (S := F) (a := ⟨b, 2, none⟩) (Fr.refl _ w) (.inl h.hb) _⟩

set_option maxHeartbeats 1000000 in
theorem serveS_none (b : Nat) (s : SfS) (F : Nat → Prop) (w : World) (h : SfsAt w b s F) (hn : s.fs.length ≤ 1000000) (he : entL s.fs = []) :
    Calls Try.prog 44 #[.pointer (some ⟨b, 0, none⟩)] w fun e w' => e = .returned (.tuple #[Pk.zero.val, .bool false]) ∧ SfsPost b { s with v := max s.v s.most } F w w' := by
  have hcase : (s.v < s.most ∧ max s.v s.most = s.most) ∨ (s.most ≤ s.v ∧ max s.v s.most = s.v) := by omega
  have hs0 := h.below (below1 w (.cells #[.int .i64 0, .int .i64 0, .int .i64 0] 55))
  have HS := Lib.hid hs0
  have hF := h.lt
  have hF9 := h.lt
  have hsz0 : (w.alloc (.cells #[.int .i64 0, .int .i64 0, .int .i64 0] 55)).heap.size = w.heap.size + 1 := by simp
  have B0 := Lib.hid (Blk.new w [.int .i64 0, .int .i64 0, .int .i64 0] 55)
  have hb0 := below1 w (.cells #[.int .i64 0, .int .i64 0, .int .i64 0] 55)
  rcases hcase with ⟨hv, hm⟩ | ⟨hv, hm⟩
  · rw [hm]
    go_enter Try.func44, Try.ntmps44
    go_wp2_with fail
    refine (entries_any b s F _ HS.out hn).mono ?_
    rintro e w1 ⟨v, es, rfl, hp, hown, hb1⟩
    rw [he] at hp
    obtain rfl := hp.eq_nil
    obtain ⟨a1, c1, rfl⟩ := owns_slice hown
    obtain ⟨mb, l, hl, hR⟩ := (HS.out.below hb1)
    have B1 := B0.out.below hb1
    have HR := Lib.hid hR
    have d1 := hR.blk.cell 1
    have d2 := hR.blk.cell 2
    have z1 := hR.blk.frozen 1
    simp only [List.getElem?_cons_succ, List.getElem?_cons_zero] at d1 d2
    have hbw := hb0.trans (hb1.mono hb0.size)
    have hF := h.lt
    clear hR hown
    go_upto_region 3 with fail
    go_region
    obtain ⟨hR2, hF2⟩ := HR.out.setV s.most
    replace hR2 := hR2.below (Below.refl _ _).drew
    replace hF2 := hF2.drew
    have hz2 : ∀ i : Nat, (w1.setCell ⟨b, 1, none⟩ (.int .u64 s.most)).drew.heap[w.heap.size]? = w1.heap[w.heap.size]? := fun _ => Below.heap_setCell w1 ⟨b, 1, none⟩ _ w.heap.size (by have := hF b HR.out.hb; intro e; simp only at e; omega)
    have B2 := B1.of_eq (hz2 0)
    have hsz2 : w.heap.size < (w1.setCell ⟨b, 1, none⟩ (.int .u64 s.most)).drew.heap.size := B2.lt
    generalize (w1.setCell ⟨b, 1, none⟩ (.int .u64 s.most)).drew = W2 at *
    have y0 := B2.cell 0
    have y1 := B2.cell 1
    have y2 := B2.cell 2
    have x0 := B2.frozen 0
    have x1 := B2.frozen 1
    have x2 := B2.frozen 2
    simp only [List.getElem?_cons_succ, List.getElem?_cons_zero] at y0 y1 y2
    have HR2 := Lib.hid hR2
    clear hR2 B2 hz2 d1 d2 z1 HR
    have HF2 := Lib.hid hF2
    clear hF2
    go_wp2
    refine bodyPost_ret (v := .tuple #[.agg #[.int .i64 0, .int .i64 0, .int .i64 0], .bool false]) (by simp [results, Try.results44, go_sem, y0, y1, y2, x0, x1, x2]) rfl ⟨rfl, ?_⟩
    have hS : Fr (fun k => k = w.heap.size) W2 (((W2.setCell ⟨w.heap.size, 0, none⟩ (.int .i64 0)).setCell ⟨w.heap.size, 1, none⟩ (.int .i64 0)).setCell ⟨w.heap.size, 2, none⟩ (.int .i64 0)) :=
      Fr.setCell (S := fun k => k = w.heap.size) (a := ⟨w.heap.size, 2, none⟩) (Fr.setCell (S := fun k => k = w.heap.size) (a := ⟨w.heap.size, 1, none⟩) (Fr.setCell (S := fun k => k = w.heap.size) (a := ⟨w.heap.size, 0, none⟩) (Fr.refl _ _) (.inl rfl) _) (.inl rfl) _) (.inl rfl) _
    have hT : Fr F w (((W2.setCell ⟨w.heap.size, 0, none⟩ (.int .i64 0)).setCell ⟨w.heap.size, 1, none⟩ (.int .i64 0)).setCell ⟨w.heap.size, 2, none⟩ (.int .i64 0)) :=
      (((Fr.after_below hbw HF2.out).setCell (a := ⟨w.heap.size, 0, none⟩) (.inr (Nat.le_refl _)) _).setCell (a := ⟨w.heap.size, 1, none⟩) (.inr (Nat.le_refl _)) _).setCell (a := ⟨w.heap.size, 2, none⟩) (.inr (Nat.le_refl _)) _
    refine ⟨⟨mb, l, hl, (HR2.out.fr hS fun k hk e => ?_).mono (fun k hk => .inl hk) (hF.ext hT.size)⟩, hT⟩
    have := hF k hk
    omega
  · rw [hm]
    go_enter Try.func44, Try.ntmps44
    go_wp2_with fail
    refine (entries_any b s F _ HS.out hn).mono ?_
    rintro e w1 ⟨v, es, rfl, hp, hown, hb1⟩
    rw [he] at hp
    obtain rfl := hp.eq_nil
    obtain ⟨a1, c1, rfl⟩ := owns_slice hown
    obtain ⟨mb, l, hl, hR⟩ := (HS.out.below hb1)
    have B1 := B0.out.below hb1
    have HR := Lib.hid hR
    have d1 := hR.blk.cell 1
    have d2 := hR.blk.cell 2
    have z1 := hR.blk.frozen 1
    simp only [List.getElem?_cons_succ, List.getElem?_cons_zero] at d1 d2
    have hbw := hb0.trans (hb1.mono hb0.size)
    have hF := h.lt
    clear hR hown
    go_upto_region 3 with fail
    go_region
    obtain ⟨hR2, hF2⟩ := HR.out.setV s.v
    replace hR2 := hR2.below (Below.refl _ _).drew
    replace hF2 := hF2.drew
    have hz2 : ∀ i : Nat, (w1.setCell ⟨b, 1, none⟩ (.int .u64 s.v)).drew.heap[w.heap.size]? = w1.heap[w.heap.size]? := fun _ => Below.heap_setCell w1 ⟨b, 1, none⟩ _ w.heap.size (by have := hF b HR.out.hb; intro e; simp only at e; omega)
    have B2 := B1.of_eq (hz2 0)
    have hsz2 : w.heap.size < (w1.setCell ⟨b, 1, none⟩ (.int .u64 s.v)).drew.heap.size := B2.lt
    generalize (w1.setCell ⟨b, 1, none⟩ (.int .u64 s.v)).drew = W2 at *
    have y0 := B2.cell 0
    have y1 := B2.cell 1
    have y2 := B2.cell 2
    have x0 := B2.frozen 0
    have x1 := B2.frozen 1
    have x2 := B2.frozen 2
    simp only [List.getElem?_cons_succ, List.getElem?_cons_zero] at y0 y1 y2
    have HR2 := Lib.hid hR2
    clear hR2 B2 hz2 d1 d2 z1 HR
    have HF2 := Lib.hid hF2
    clear hF2
    go_wp2
    refine bodyPost_ret (v := .tuple #[.agg #[.int .i64 0, .int .i64 0, .int .i64 0], .bool false]) (by simp [results, Try.results44, go_sem, y0, y1, y2, x0, x1, x2]) rfl ⟨rfl, ?_⟩
    have hS : Fr (fun k => k = w.heap.size) W2 (((W2.setCell ⟨w.heap.size, 0, none⟩ (.int .i64 0)).setCell ⟨w.heap.size, 1, none⟩ (.int .i64 0)).setCell ⟨w.heap.size, 2, none⟩ (.int .i64 0)) :=
      Fr.setCell (S := fun k => k = w.heap.size) (a := ⟨w.heap.size, 2, none⟩) (Fr.setCell (S := fun k => k = w.heap.size) (a := ⟨w.heap.size, 1, none⟩) (Fr.setCell (S := fun k => k = w.heap.size) (a := ⟨w.heap.size, 0, none⟩) (Fr.refl _ _) (.inl rfl) _) (.inl rfl) _) (.inl rfl) _
    have hT : Fr F w (((W2.setCell ⟨w.heap.size, 0, none⟩ (.int .i64 0)).setCell ⟨w.heap.size, 1, none⟩ (.int .i64 0)).setCell ⟨w.heap.size, 2, none⟩ (.int .i64 0)) :=
      (((Fr.after_below hbw HF2.out).setCell (a := ⟨w.heap.size, 0, none⟩) (.inr (Nat.le_refl _)) _).setCell (a := ⟨w.heap.size, 1, none⟩) (.inr (Nat.le_refl _)) _).setCell (a := ⟨w.heap.size, 2, none⟩) (.inr (Nat.le_refl _)) _
    refine ⟨⟨mb, l, hl, (HR2.out.fr hS fun k hk e => ?_).mono (fun k hk => .inl hk) (hF.ext hT.size)⟩, hT⟩
    have := hF k hk
    omega
end Go.Proofs.Ytfgfjnlkgadkhaa
