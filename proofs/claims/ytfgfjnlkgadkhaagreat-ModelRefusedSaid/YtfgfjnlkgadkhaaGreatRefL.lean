/- ModelRefused's plain law: what a refused call leaves. -/
import Derived.Test.YtfgfjnlkgadkhaaGreatGp
namespace Go.Proofs.YtfgfjnlkgadkhaaGreat
set_option linter.unusedVariables false
set_option linter.unusedSimpArgs false
set_option maxRecDepth 20000
open Go.RowKit Go.Proofs.YtfgfjnlkgadkhaaGreatMem Go.Proofs.YtfgfjnlkgadkhaaGreatFlat Go.Proofs.YtfgfjnlkgadkhaaGreatMapK

theorem setF_same {fs : List (Int × FlS)} {id : Int} {x : FlS} (hn : (fs.map (·.1)).Nodup) (h : getF fs id = some x) : setF fs id x = fs := by
  unfold setF
  conv => rhs; rw [← List.map_id fs]
  refine List.map_congr_left fun e he => ?_
  by_cases h1 : e.1 = id
  · rw [if_pos h1]
    have h2 : getF fs id = some e.2 := (getF_iff hn).2 (by rw [← h1]; exact he)
    rw [h] at h2
    cases h2
    rw [← h1]; rfl
  · rw [if_neg h1]; rfl
theorem arrive_same {s : SfS} {p : Pk} (hn : (s.fs.map (·.1)).Nodup) (h : s.arriveE p ≠ 0) : s.arrive p = s := by
  unfold SfS.arriveE at h
  unfold SfS.arrive
  cases hg : getF s.fs p.flow with
  | none => rfl
  | some x =>
    rw [hg] at h
    simp only at h ⊢
    have hf : x.full = true := by
      cases hx : x.full with
      | true => rfl
      | false => rw [hx] at h; exact absurd rfl h
    have hx : x.arrive s.v p = x := by unfold FlS.arrive; rw [if_pos hf]
    rw [hx, setF_same hn hg]
theorem remove_same {s : SfS} {id : Int} (h : s.removeE id ≠ 0) : s.remove id = s := by
  unfold SfS.removeE at h
  unfold SfS.remove
  cases hg : getF s.fs id with
  | none => rfl
  | some x =>
    rw [hg] at h
    simp only at h ⊢
    by_cases hl : x.l = []
    · rw [if_pos hl] at h; exact absurd rfl h
    · rw [if_neg hl]
theorem bat_ps : ∀ (k : Nat) (m : MdS) (ps : List Pk), ps.length ≤ (m.bat k ps).2.ps.length
  | 0, m, ps => Nat.le_refl _
  | k + 1, m, ps => by
    rw [bat_succ]
    split
    · have := bat_ps k m.one (ps ++ [m.s.head])
      rw [List.length_append] at this
      simp at this
      omega
    · exact Nat.le_refl _
theorem serve_fs {s : SfS} (h : s.has = false) : s.serve.fs = s.fs ∧ s.serve.v = max s.v s.most := by
  have hne : entL s.fs = [] := by
    unfold SfS.has at h
    cases he : entL s.fs with
    | nil => rfl
    | cons a l => rw [he] at h; cases h
  unfold SfS.serve
  rw [if_pos hne]
  exact ⟨rfl, rfl⟩
/-- What a refused call leaves. -/
structure Left11 (m m' : MdS) (e : Int) : Prop where
  fs : m'.s.fs = m.s.fs
  served : m'.served = m.served
  v : m'.s.v = m.s.v ∨ (e = 10 ∧ m.s.v ≤ m'.s.v)
theorem Left11.refl (m : MdS) (e : Int) : Left11 m m e := ⟨rfl, rfl, .inl rfl⟩
theorem one_left {m : MdS} (h : m.s.has = false) : Left11 m m.one 10 := by
  obtain ⟨h1, h2⟩ := serve_fs h
  refine ⟨h1, ?_, .inr ⟨rfl, ?_⟩⟩
  · show (if m.s.has then m.served + 1 else m.served) = m.served
    rw [h]; rfl
  · show m.s.v ≤ m.s.serve.v
    rw [h2]; omega
theorem refused_left {c : Cfg} {m : MdS} {d : CallS} (hn : (m.s.fs.map (·.1)).Nodup) (he : (m.doo c d).2.e ≠ 0) (hp : (m.doo c d).2.ps.length = 0) : Left11 m (m.doo c d).1 (m.doo c d).2.e := by
  unfold MdS.doo at *
  split at he <;> rename_i h1
  · simp only [h1, if_true] at hp ⊢
    have hE : m.s.regE c d ≠ 0 := he
    have : m.s.reg c d = m.s := by unfold SfS.reg; rw [if_neg hE]
    rw [this]
    exact Left11.refl _ _
  simp only [h1, if_false] at hp ⊢
  split at he <;> rename_i h2
  · simp only [h2, if_true] at hp ⊢
    rw [remove_same (show m.s.removeE d.flow ≠ 0 from he)]
    exact Left11.refl _ _
  simp only [h2, if_false] at hp ⊢
  split at he <;> rename_i h3
  · simp only [h3, if_true] at hp ⊢
    have hE : m.s.enqE d ≠ 0 := he
    have : m.s.enq d = m.s := by
      unfold SfS.enq
      unfold SfS.enqE at hE
      split
      · rename_i hi
        rw [if_pos hi] at hE
        exact arrive_same hn hE
      · rfl
    rw [this]
    exact Left11.refl _ _
  simp only [h3, if_false] at hp ⊢
  split at he <;> rename_i h4
  · simp only [h4, if_true] at hp ⊢
    have hh : m.s.has = false := by
      cases hx : m.s.has with
      | false => rfl
      | true => unfold MdS.oneRet at he; rw [hx] at he; exact absurd rfl he
    have hr : m.oneRet = .code 10 := by unfold MdS.oneRet; rw [hh]; rfl
    rw [hr]
    exact one_left hh
  simp only [h4, if_false] at hp ⊢
  split at he <;> rename_i h5
  · simp only [h5, if_true] at hp ⊢
    split at he <;> rename_i h6
    · simp only [h6, if_true] at hp ⊢
      cases hk : d.a.toNat with
      | zero => rw [hk] at he; exact absurd rfl he
      | succ k =>
        rw [hk] at he hp
        rw [bat_succ] at he hp ⊢
        cases hx : m.s.has with
        | true =>
          rw [hx, if_pos rfl] at hp
          have := bat_ps k m.one ([] ++ [m.s.head])
          rw [hp] at this
          simp at this
        | false => exact one_left hx
    · simp only [h6]
      exact Left11.refl _ _
  simp only [h5, if_false] at hp ⊢
  split at he <;> rename_i h6
  · exact absurd rfl he
  · simp only [h6, if_false]
    exact Left11.refl _ _
end Go.Proofs.YtfgfjnlkgadkhaaGreat
