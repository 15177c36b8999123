/- A set of flows: serving, both ways; what is right stays right. -/
import Derived.Test.YtfgfjnlkgadkhaaSfq8
namespace Go.Proofs.Ytfgfjnlkgadkhaa
set_option linter.unusedVariables false
set_option linter.unusedSimpArgs false
set_option maxRecDepth 20000
open Go.RowKit Go.Proofs.YtfgfjnlkgadkhaaMem Go.Proofs.YtfgfjnlkgadkhaaMapK

theorem serveS_any (b : Nat) (s : SfS) (F : Nat → Prop) (w : World) (h : SfsAt w b s F) (ok : s.Ok) (hn : s.fs.length ≤ 1000000) :
    Calls Try.prog 44 #[.pointer (some ⟨b, 0, none⟩)] w fun e w' => e = .returned (.tuple #[s.head.val, .bool s.has]) ∧ SfsPost b s.serve F w w' := by
  by_cases he : entL s.fs = []
  · have h1 : s.head = Pk.zero := by unfold SfS.head; rw [if_pos he]
    have h2 : s.has = false := by unfold SfS.has; rw [he]; rfl
    have h3 : s.serve = { s with v := max s.v s.most } := by unfold SfS.serve; rw [if_pos he]
    rw [h1, h2, h3]
    exact serveS_none b s F w h hn he
  · have h2 : s.has = true := by unfold SfS.has; cases hx : entL s.fs with
      | nil => exact absurd hx he
      | cons _ _ => rfl
    rw [h2]
    exact serveS_some b s F w h ok hn he
theorem getF_mem {fs : List (Int × FlS)} {id : Int} {x : FlS} (h : getF fs id = some x) : (id, x) ∈ fs := by
  unfold getF at h
  obtain ⟨e, he, rfl⟩ := Option.map_eq_some_iff.1 h
  have h1 := List.mem_of_find?_eq_some he
  have h2 : e.1 = id := by simpa using List.find?_some he
  rw [← h2]; exact h1
theorem setF_mem {fs : List (Int × FlS)} {id : Int} {x : FlS} {e : Int × FlS} (h : e ∈ setF fs id x) : e = (id, x) ∨ e ∈ fs := by
  unfold setF at h
  obtain ⟨e0, h1, h2⟩ := List.mem_map.1 h
  by_cases hi : e0.1 = id
  · rw [if_pos hi] at h2; exact .inl h2.symm
  · rw [if_neg hi] at h2; subst h2; exact .inr h1
theorem setF_length (fs : List (Int × FlS)) (id : Int) (x : FlS) : (setF fs id x).length = fs.length := by unfold setF; simp
theorem SfS.new_ok : SfS.new.Ok := ⟨by show W64 0; unfold W64; omega, by show W64 0; unfold W64; omega, (fun e he => by cases he), (fun e he => by cases he)⟩
theorem SfS.add_ok {s : SfS} (ok : s.Ok) {id r most : Int} (hi : I64 id) (hr : W64 r) : (s.add id r most).Ok := by
  unfold SfS.add
  split
  · exact ok
  · refine ⟨ok.v, ok.most, fun e he => ?_, fun e he => ?_⟩
    · rcases List.mem_append.1 he with he | he
      · exact ok.ids e he
      · simp only [List.mem_singleton] at he; subst he; exact hi
    · rcases List.mem_append.1 he with he | he
      · exact ok.fs e he
      · simp only [List.mem_singleton] at he; subst he; exact FlS.new_ok hr
theorem SfS.arrive_ok {s : SfS} (ok : s.Ok) {p : Pk} (hp : p.Ok) : (s.arrive p).Ok := by
  unfold SfS.arrive
  cases hg : getF s.fs p.flow with
  | none => exact ok
  | some x =>
    refine ⟨ok.v, ok.most, fun e he => ?_, fun e he => ?_⟩
    · rcases setF_mem he with rfl | he
      · exact ok.ids (p.flow, x) (getF_mem hg)
      · exact ok.ids e he
    · rcases setF_mem he with rfl | he
      · exact FlS.arrive_ok (ok.fs _ (getF_mem hg)) ok.v hp
      · exact ok.fs e he
theorem SfS.remove_ok {s : SfS} (ok : s.Ok) {id : Int} : (s.remove id).Ok := by
  unfold SfS.remove
  cases hg : getF s.fs id with
  | none => exact ok
  | some x =>
    simp only
    split
    · exact ⟨ok.v, ok.most, fun e he => ok.ids e (List.mem_filter.1 he).1, fun e he => ok.fs e (List.mem_filter.1 he).1⟩
    · exact ok
theorem max_w64 {a c : Int} (ha : W64 a) (hc : W64 c) : W64 (max a c) := by unfold W64 at *; omega
theorem FlS.out_w64 {x : FlS} (ok : x.Ok) : W64 x.out := by
  unfold FlS.out
  split
  · unfold W64; omega
  · exact FlS.fin_w64 ok _
theorem SfS.serve_ok {s : SfS} (ok : s.Ok) : s.serve.Ok := by
  unfold SfS.serve
  split
  · exact ⟨max_w64 ok.v ok.most, ok.most, ok.ids, ok.fs⟩
  · rename_i hne
    cases hg : getF s.fs s.first.2 with
    | none => exact ok
    | some x =>
      have hm := getF_mem hg
      obtain ⟨e, he, h1, h2⟩ := entL_mem (minK_isFirst hne).1
      refine ⟨?_, max_w64 ok.most (FlS.out_w64 (ok.fs _ hm)), fun e he => ?_, fun e he => ?_⟩
      · show W64 s.first.1
        unfold SfS.first
        rw [h2]
        exact (ok.fs e he).start
      · rcases setF_mem he with rfl | he
        · exact ok.ids (s.first.2, x) hm
        · exact ok.ids e he
      · rcases setF_mem he with rfl | he
        · exact FlS.serve_ok (ok.fs _ hm)
        · exact ok.fs e he
end Go.Proofs.Ytfgfjnlkgadkhaa
