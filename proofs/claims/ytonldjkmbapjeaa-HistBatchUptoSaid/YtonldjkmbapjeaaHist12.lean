/- The law's own: what a program that does nothing does not answer. -/
import Derived.Test.YtonldjkmbapjeaaHist11
namespace Go.Proofs.Ytonldjkmbapjeaa
set_option linter.unusedVariables false
set_option linter.unusedSimpArgs false
open Go.RowKit Go.Proofs.YtonldjkmbapjeaaMem Go.Proofs.YtonldjkmbapjeaaFlat

theorem lit_rdD (w : World) (l : List DoneS) (cs : Array Value) (n : Nat) (hcs : cs.toList = doneC l) (hn : l.length = n) (hm : n ≤ 1000) (hg : ∀ d ∈ l, d.Ok ∧ RdK w d.ao d.len d.cap d.l) :
    RdD (w.alloc (.cells cs 31)) (some ⟨w.heap.size, 0, none⟩) n n l := by
  have h := World.ownsRow_lit (e := 31) (size := 12) (base := w.heap.size) w cs n (Nat.le_refl _) (by unfold maxLen; omega) (by rw [← Array.length_toList, hcs, doneC_length, hn])
  rw [hcs] at h
  exact ⟨owns_rdS h (doneC_one _), hn, fun d hd => ⟨(hg d hd).1, (hg d hd).2.below (below1 _ _)⟩⟩

theorem nil_rdK (w : World) : RdK w none 0 0 [] := ⟨owns_rdS (World.ownsRow_nil w 0 49 3) (fun u hu => by cases hu), rfl, fun p hp => by cases hp⟩
def awA (P : Nat) : DoneS := ⟨0, 0, 5, 0, 2, 0, 10, some ⟨P, 0, none⟩, 1, 1, 0, 0, 0, 3, [⟨1, 0, 0⟩]⟩
def awB : DoneS := ⟨1, 0, 0, 0, 0, 0, 0, none, 0, 0, 0, 0, 4, 4, []⟩
theorem awA_ok (P : Nat) : (awA P).Ok := by unfold DoneS.Ok I64 awA; simp
theorem awB_ok : awB.Ok := by unfold DoneS.Ok I64 awB; simp
theorem aw_ab (P : Nat) : aheadB (awA P) awB = true := rfl
theorem aw_ba (P : Nat) : aheadB awB (awA P) = false := rfl
theorem aw_right (P : Nat) : rightH [awA P, awB] = true := rfl
theorem aw_ended (P : Nat) : [awA P, awB].all endedB = true := rfl
theorem aw_most (P : Nat) : mostD [awA P, awA P] = 2 := rfl
theorem aw_parts (P : Nat) : (partsD [awA P]).length = 2 := rfl

/-- Two calls in boxes, and the packet of the first. -/
structure Aw (w W : World) (P : Nat) : Prop where
  a : BoxD W (P + 1) (awA P) 31
  b : BoxD W (P + 2) awB 31
  k : RdK W (some ⟨P, 0, none⟩) 1 1 [⟨1, 0, 0⟩]
  bel : Below w.heap.size w W
theorem Aw.below {w W w' : World} {P : Nat} (h : Aw w W P) (hb : Below W.heap.size W w') : Aw w w' P := ⟨h.a.below hb, h.b.below hb, h.k.below hb, h.bel.trans (hb.mono h.bel.size)⟩
theorem Aw.start (w : World) : Aw w (((w.alloc (.cells #[.int .i64 1, .int .i64 0, .int .i64 0] 49)).alloc (.cells #[.int .i64 0, .int .i64 0, .int .i64 5, .int .i64 0, .int .i64 2, .int .i64 0, .int .i64 10, .slice (some ⟨w.heap.size, 0, none⟩) 1 1, .int .i64 0, .int .u64 0, .int .i64 0, .int .i64 3] 31)).alloc (.cells #[.int .i64 1, .int .i64 0, .int .i64 0, .int .i64 0, .int .i64 0, .int .i64 0, .int .i64 0, .slice none 0 0, .int .i64 0, .int .u64 0, .int .i64 4, .int .i64 4] 31)) w.heap.size := by
  have t := two_boxesD (w.alloc (.cells #[.int .i64 1, .int .i64 0, .int .i64 0] 49)) (awA w.heap.size) awB 31
  have e : (w.alloc (.cells #[.int .i64 1, .int .i64 0, .int .i64 0] 49)).heap.size = w.heap.size + 1 := by simp
  rw [e] at t
  have h := World.ownsRow_lit (e := 49) (size := 3) (base := w.heap.size) w #[.int .i64 1, .int .i64 0, .int .i64 0] 1 (Nat.le_refl _) (by unfold maxLen; omega) (by simp)
  have hk : RdK (w.alloc (.cells #[.int .i64 1, .int .i64 0, .int .i64 0] 49)) (some ⟨w.heap.size, 0, none⟩) 1 1 [⟨1, 0, 0⟩] := ⟨owns_rdS h (pkC_one [⟨1, 0, 0⟩]), rfl, fun p hp => by simp at hp; subst hp; unfold PkS.Ok I64; simp⟩
  exact ⟨t.1, t.2, hk.below (below2 _ _ _), below_step (below1 _ _) (below2 _ _ _)⟩
theorem Aw.cells {w W : World} {P : Nat} (h : Aw w W P) : (W.cell? ⟨P + 1, 0, none⟩ = some (.int .i64 0) ∧ W.cell? ⟨P + 1, 1, none⟩ = some (.int .i64 0) ∧ W.cell? ⟨P + 1, 2, none⟩ = some (.int .i64 5) ∧ W.cell? ⟨P + 1, 3, none⟩ = some (.int .i64 0) ∧ W.cell? ⟨P + 1, 4, none⟩ = some (.int .i64 2) ∧ W.cell? ⟨P + 1, 5, none⟩ = some (.int .i64 0) ∧ W.cell? ⟨P + 1, 6, none⟩ = some (.int .i64 10) ∧ W.cell? ⟨P + 1, 7, none⟩ = some (.slice (some ⟨P, 0, none⟩) 1 1) ∧ W.cell? ⟨P + 1, 8, none⟩ = some (.int .i64 0) ∧ W.cell? ⟨P + 1, 9, none⟩ = some (.int .u64 0) ∧ W.cell? ⟨P + 1, 10, none⟩ = some (.int .i64 0) ∧ W.cell? ⟨P + 1, 11, none⟩ = some (.int .i64 3)) ∧
    (W.cell? ⟨P + 1 + 1, 0, none⟩ = some (.int .i64 1) ∧ W.cell? ⟨P + 1 + 1, 1, none⟩ = some (.int .i64 0) ∧ W.cell? ⟨P + 1 + 1, 2, none⟩ = some (.int .i64 0) ∧ W.cell? ⟨P + 1 + 1, 3, none⟩ = some (.int .i64 0) ∧ W.cell? ⟨P + 1 + 1, 4, none⟩ = some (.int .i64 0) ∧ W.cell? ⟨P + 1 + 1, 5, none⟩ = some (.int .i64 0) ∧ W.cell? ⟨P + 1 + 1, 6, none⟩ = some (.int .i64 0) ∧ W.cell? ⟨P + 1 + 1, 7, none⟩ = some (.slice none 0 0) ∧ W.cell? ⟨P + 1 + 1, 8, none⟩ = some (.int .i64 0) ∧ W.cell? ⟨P + 1 + 1, 9, none⟩ = some (.int .u64 0) ∧ W.cell? ⟨P + 1 + 1, 10, none⟩ = some (.int .i64 4) ∧ W.cell? ⟨P + 1 + 1, 11, none⟩ = some (.int .i64 4)) := ⟨h.a.cells, h.b.cells⟩

set_option maxRecDepth 20000 in
set_option maxHeartbeats 1000000 in
theorem awake_any (w : World) : Calls Try.prog 11 #[] w fun e w' => e = .returned (.bool true) ∧ Below w.heap.size w w' := by
  go_enter Try.func11, Try.ntmps11
  go_upto_region 3 with fail
  have hW := Aw.start w
  generalize ((w.alloc (.cells #[.int .i64 1, .int .i64 0, .int .i64 0] 49)).alloc (.cells #[.int .i64 0, .int .i64 0, .int .i64 5, .int .i64 0, .int .i64 2, .int .i64 0, .int .i64 10, .slice (some ⟨w.heap.size, 0, none⟩) 1 1, .int .i64 0, .int .u64 0, .int .i64 0, .int .i64 3] 31)).alloc (.cells #[.int .i64 1, .int .i64 0, .int .i64 0, .int .i64 0, .int .i64 0, .int .i64 0, .int .i64 0, .slice none 0 0, .int .i64 0, .int .u64 0, .int .i64 4, .int .i64 4] 31) = W at *
  generalize hP : w.heap.size = P at *
  have H0 := Lib.hid hW
  obtain ⟨⟨a0, a1, a2, a3, a4, a5, a6, a7, a8, a9, a10, a11⟩, ⟨b0, b1, b2, b3, b4, b5, b6, b7, b8, b9, b10, b11⟩⟩ := hW.cells
  clear hW
  go_wp2_with fail
  refine (histAhead_any (awA P) awB _).mono ?_
  rw [aw_ab P]
  rintro e w1 ⟨rfl, hb1⟩
  have H1 := Lib.hid ((H0.out).below hb1)
  clear a0 a1 a2 a3 a4 a5 a6 a7 a8 a9 a10 a11 b0 b1 b2 b3 b4 b5 b6 b7 b8 b9 b10 b11
  obtain ⟨⟨a0, a1, a2, a3, a4, a5, a6, a7, a8, a9, a10, a11⟩, ⟨b0, b1, b2, b3, b4, b5, b6, b7, b8, b9, b10, b11⟩⟩ := H1.out.cells
  clear hb1
  go_wp2_with fail
  refine (histAhead_any awB (awA P) _).mono ?_
  rw [aw_ba P]
  rintro e w2 ⟨rfl, hb2⟩
  have H2 := Lib.hid ((H1.out).below hb2)
  clear a0 a1 a2 a3 a4 a5 a6 a7 a8 a9 a10 a11 b0 b1 b2 b3 b4 b5 b6 b7 b8 b9 b10 b11
  obtain ⟨⟨a0, a1, a2, a3, a4, a5, a6, a7, a8, a9, a10, a11⟩, ⟨b0, b1, b2, b3, b4, b5, b6, b7, b8, b9, b10, b11⟩⟩ := H2.out.cells
  clear hb2
  go_wp2_with fail
  have RR := lit_rdD w2 [awA P, awB] _ 2 rfl rfl (by omega) (by intro d hd; simp at hd; (first | (rcases hd with rfl | rfl) | (subst hd)) <;> first | exact ⟨awA_ok P, H2.out.k⟩ | exact ⟨awB_ok, nil_rdK _⟩)
  refine (histRight_any _ _ _ [awA P, awB] _ RR).mono ?_
  rw [aw_right P]
  rintro e w3 ⟨rfl, hb3⟩
  have H3 := Lib.hid ((H2.out.below (below1 _ _)).below hb3)
  clear a0 a1 a2 a3 a4 a5 a6 a7 a8 a9 a10 a11 b0 b1 b2 b3 b4 b5 b6 b7 b8 b9 b10 b11
  obtain ⟨⟨a0, a1, a2, a3, a4, a5, a6, a7, a8, a9, a10, a11⟩, ⟨b0, b1, b2, b3, b4, b5, b6, b7, b8, b9, b10, b11⟩⟩ := H3.out.cells
  clear hb3 RR
  go_wp2_with fail
  have RR := lit_rdD w3 [awA P, awB] _ 2 rfl rfl (by omega) (by intro d hd; simp at hd; (first | (rcases hd with rfl | rfl) | (subst hd)) <;> first | exact ⟨awA_ok P, H3.out.k⟩ | exact ⟨awB_ok, nil_rdK _⟩)
  refine (histEnded_any _ _ _ [awA P, awB] _ RR).mono ?_
  rw [aw_ended P]
  rintro e w4 ⟨rfl, hb4⟩
  have H4 := Lib.hid ((H3.out.below (below1 _ _)).below hb4)
  clear a0 a1 a2 a3 a4 a5 a6 a7 a8 a9 a10 a11 b0 b1 b2 b3 b4 b5 b6 b7 b8 b9 b10 b11
  obtain ⟨⟨a0, a1, a2, a3, a4, a5, a6, a7, a8, a9, a10, a11⟩, ⟨b0, b1, b2, b3, b4, b5, b6, b7, b8, b9, b10, b11⟩⟩ := H4.out.cells
  clear hb4 RR
  go_wp2_with fail
  have RR := lit_rdD w4 [awA P] _ 1 rfl rfl (by omega) (by intro d hd; simp at hd; (first | (rcases hd with rfl | rfl) | (subst hd)) <;> first | exact ⟨awA_ok P, H4.out.k⟩ | exact ⟨awB_ok, nil_rdK _⟩)
  refine (histParts_any _ _ _ [awA P] _ RR (by omega) (by intro d hd; simp at hd; subst hd; simp [awA])).mono ?_
  rintro e w5 ⟨v, l', rfl, hmap, hown, hb5⟩
  have hl' : l'.length = 2 := by have := congrArg List.length hmap; rw [List.length_map, aw_parts] at this; exact this
  obtain ⟨pa, pc, rfl⟩ := hown.slice
  rw [hl']
  have H5 := Lib.hid ((H4.out.below (below1 _ _)).below hb5)
  clear a0 a1 a2 a3 a4 a5 a6 a7 a8 a9 a10 a11 b0 b1 b2 b3 b4 b5 b6 b7 b8 b9 b10 b11
  obtain ⟨⟨a0, a1, a2, a3, a4, a5, a6, a7, a8, a9, a10, a11⟩, ⟨b0, b1, b2, b3, b4, b5, b6, b7, b8, b9, b10, b11⟩⟩ := H5.out.cells
  clear hb5 RR hmap hown
  go_wp2_with fail
  have RR := lit_rdD w5 [awA P, awA P] _ 2 rfl rfl (by omega) (by intro d hd; simp at hd; (first | (rcases hd with rfl | rfl) | (subst hd)) <;> first | exact ⟨awA_ok P, H5.out.k⟩ | exact ⟨awB_ok, nil_rdK _⟩)
  refine (histMost_any _ _ _ [awA P, awA P] _ RR (by omega)).mono ?_
  rw [aw_most P]
  rintro e w6 ⟨rfl, hb6⟩
  have H6 := Lib.hid ((H5.out.below (below1 _ _)).below hb6)
  clear a0 a1 a2 a3 a4 a5 a6 a7 a8 a9 a10 a11 b0 b1 b2 b3 b4 b5 b6 b7 b8 b9 b10 b11
  clear hb6 RR
  go_wp2
  go_ret
  exact ⟨rfl, H6.out.bel⟩
end Go.Proofs.Ytonldjkmbapjeaa
