/- The model: how far it is; any call. -/
import Derived.Test.YtfgfjnlkgadkhaaMod14
import Derived.StillTailTactics
namespace Go.Proofs.Ytfgfjnlkgadkhaa
set_option linter.unusedVariables false
set_option linter.unusedSimpArgs false
set_option maxRecDepth 20000
open Go.RowKit Go.Proofs.YtfgfjnlkgadkhaaMem Go.Proofs.YtfgfjnlkgadkhaaMapK

theorem MdPost.drew {w w' : World} {b : Nat} {c : Cfg} {s : SfS} {served : Int} {F : Nat → Prop} (h : MdPost b c s served F w w') : MdPost b c s served F w w'.drew :=
  ⟨h.1.fr (w' := w'.drew) (Fr.of_below (S := fun _ => False) (Below.refl w'.heap.size w').drew) fun _ _ f => f, h.2.drew⟩
set_option maxHeartbeats 4000000 in
theorem stats_any (b : Nat) (c : Cfg) (m : MdS) (F : Nat → Prop) (d : CallS) (w : World) (h : MdAt w b c m.s m.served F) :
    Calls Try.prog 26 #[.pointer (some ⟨b, 0, none⟩), .agg #[.int .i64 d.op, .int .i64 d.flow, .int .i64 d.a, .int .i64 d.b]] w (RetPost b c m ⟨0, [], m.served, m.s.v⟩ F w) := by
  obtain ⟨sb, lm, Fs, h⟩ := h
  have I := InC.start (d := d) h
  clear h
  go_enter Try.func26, Try.ntmps26
  go_upto_region 1 with fail
  generalize ((w.alloc (.cells #[.int .i64 d.op, .int .i64 d.flow, .int .i64 d.a, .int .i64 d.b] 33)).alloc (.cells #[.int .i64 0, .slice none 0 0, .int .i64 0, .int .u64 0] 37)) = W at *
  have HI := Lib.hid (I.below (Below.refl W.heap.size W).drew)
  have hV : Hid (Calls Try.prog 30 #[.pointer (some ⟨sb, 0, none⟩)] W.drew fun e w' => e = .returned (.int .u64 m.s.v) ∧ W.drew = w') := Lib.hid (by
    obtain ⟨mb, l, hl, h1⟩ := HI.out.md.sfq
    exact sfqV_any sb m.s.v m.s.most l Fs W.drew ⟨mb, h1⟩)
  obtain ⟨q0, q1, q4, q5, q6, q7, hlt, z0, z1, z2, z3, hzl⟩ := HI.out.cells
  obtain ⟨r0, r1, r2, r3, f0, f1, f2, f3, hrl⟩ := I.out
  have hbz : b ≠ w.heap.size + 1 := by have := I.old b I.md.hb; omega
  have HK : Hid (∀ v0 v1 v2 v3, ((((W.setCell ⟨w.heap.size + 1, 0, none⟩ v0).setCell ⟨w.heap.size + 1, 1, none⟩ v1).setCell ⟨w.heap.size + 1, 2, none⟩ v2).setCell ⟨w.heap.size + 1, 3, none⟩ v3).drew.cell? ⟨b, 5, none⟩ = some (.pointer (some ⟨sb, 0, none⟩)) ∧ ((((W.setCell ⟨w.heap.size + 1, 0, none⟩ v0).setCell ⟨w.heap.size + 1, 1, none⟩ v1).setCell ⟨w.heap.size + 1, 2, none⟩ v2).setCell ⟨w.heap.size + 1, 3, none⟩ v3).drew.cell? ⟨b, 7, none⟩ = some (.int .i64 m.served)) := Lib.hid fun v0 v1 v2 v3 => by
    have B := (((I.md.blk.set_far (a := ⟨w.heap.size + 1, 0, none⟩) hbz v0).set_far (a := ⟨w.heap.size + 1, 1, none⟩) hbz v1).set_far (a := ⟨w.heap.size + 1, 2, none⟩) hbz v2).set_far (a := ⟨w.heap.size + 1, 3, none⟩) hbz v3
    exact ⟨B.drew.cell 5, B.drew.cell 7⟩
  replace HI := Lib.hid I
  clear I hbz
  go_region_held3 (fun w' => w'.cell? ⟨b, 5, none⟩ = some (.pointer (some ⟨sb, 0, none⟩)) ∧ w'.cell? ⟨b, 7, none⟩ = some (.int .i64 m.served)) (first | with_reducible exact ⟨q5, q7⟩ | exact HK.out _ _ _ _)
    (first | (go_at_call 30; refine hV.out.mono ?_; rintro e w3 ⟨rfl, rfl⟩))
  go_wp2
  refine bodyPost_ret (v := .agg #[.int .i64 0, .slice none 0 0, .int .i64 m.served, .int .u64 m.s.v]) (by simp [results, Try.results26, go_sem, r0, r1, r2, r3, hrl]) rfl ?_
  have hp := HI.out.refused (Below.refl _ _) (.int .i64 0) (.slice none 0 0) (.int .i64 m.served) (.int .u64 m.s.v)
  exact RetPost.plain m.served m.s.v hp.drew 0
end Go.Proofs.Ytfgfjnlkgadkhaa
