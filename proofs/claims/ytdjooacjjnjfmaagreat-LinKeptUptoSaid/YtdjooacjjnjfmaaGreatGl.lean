/- Several texts in one: KeyS StrKey. -/
import Derived.Test.YtdjooacjjnjfmaaGreatGh
import Derived.Test.YtdjooacjjnjfmaaGreatGa
import Derived.Test.YtdjooacjjnjfmaaGreatChecked
import Derived.Laws.StructEq
import Derived.Laws.Cover2
import Derived.Laws.BytesArg
import Derived.KernelRfl
-- The model's key, as plain data: two models of one key answer alike from then on.
section
namespace Go.Proofs.YtdjooacjjnjfmaaGreat
set_option linter.unusedVariables false
set_option linter.unusedSimpArgs false
set_option maxRecDepth 20000
open Go.RowKit Go.Proofs.YtdjooacjjnjfmaaGreatMem Go.Proofs.YtdjooacjjnjfmaaGreatMapK

/-! ### The start of a flow without packets plays no part -/
def FlS.nrm (x : FlS) : FlS := { x with start := x.start0 }
def nrmE (e : Int × FlS) : Int × FlS := (e.1, e.2.nrm)
def SfS.nrm (s : SfS) : SfS := { s with fs := s.fs.map nrmE }
def MdS.nrm (m : MdS) : MdS := ⟨m.s.nrm, m.served⟩
theorem FlS.nrm_of {x : FlS} (h : x.l ≠ []) : x.nrm = x := by unfold FlS.nrm FlS.start0; rw [if_neg h]
theorem FlS.nrm_has (x : FlS) : x.nrm.has = x.has := rfl
theorem FlS.nrm_start0 (x : FlS) : x.nrm.start0 = x.start0 := by
  show (if x.l = [] then 0 else x.start0) = x.start0
  unfold FlS.start0
  split <;> simp_all
theorem FlS.nrm_nrm (x : FlS) : x.nrm.nrm = x.nrm := by
  show { x.nrm with start := x.nrm.start0 } = x.nrm
  rw [FlS.nrm_start0]
  rfl
theorem getF_nrm (fs : List (Int × FlS)) (id : Int) : getF (fs.map nrmE) id = (getF fs id).map FlS.nrm := by
  unfold getF
  induction fs with
  | nil => rfl
  | cons e l ih =>
    simp only [List.map_cons, List.find?_cons]
    by_cases h : e.1 = id
    · simp [nrmE, h]
    · have h2 : decide ((nrmE e).1 = id) = false := by simp [nrmE, h]
      have h3 : decide (e.1 = id) = false := by simp [h]
      rw [h2, h3]
      exact ih
theorem setF_nrm (fs : List (Int × FlS)) (id : Int) (x : FlS) : (setF fs id x).map nrmE = setF (fs.map nrmE) id x.nrm := by
  unfold setF
  rw [List.map_map, List.map_map]
  refine List.map_congr_left fun e _ => ?_
  simp only [Function.comp]
  by_cases h : e.1 = id
  · rw [if_pos h, if_pos (show (nrmE e).1 = id from h)]; rfl
  · rw [if_neg h, if_neg (show ¬ (nrmE e).1 = id from h)]
theorem fst_nrm (fs : List (Int × FlS)) : (fs.map nrmE).map (·.1) = fs.map (·.1) := by rw [List.map_map]; rfl
theorem entL_nrm (fs : List (Int × FlS)) : entL (fs.map nrmE) = entL fs := by
  unfold entL
  induction fs with
  | nil => rfl
  | cons e l ih =>
    rw [List.map_cons, List.filter_cons, List.filter_cons]
    have h1 : (nrmE e).2.has = e.2.has := rfl
    rw [h1]
    cases h : e.2.has with
    | false => simpa using ih
    | true =>
      have hl : e.2.l ≠ [] := by intro h0; unfold FlS.has at h; rw [h0] at h; cases h
      have e1 : nrmE e = e := by unfold nrmE; rw [FlS.nrm_of hl]
      simp only [if_true, List.map_cons, e1]
      rw [ih]
theorem SfS.first_nrm (s : SfS) : s.nrm.first = s.first := by unfold SfS.first SfS.nrm; simp only [entL_nrm]
theorem FlS.arrive_nrm (x : FlS) (v : Int) (p : Pk) : (x.nrm.arrive v p).nrm = (x.arrive v p).nrm := by
  unfold FlS.arrive
  have hf : x.nrm.full = x.full := rfl
  rw [hf]
  split
  · exact FlS.nrm_nrm x
  · by_cases h : x.l = []
    · have : x.nrm.put v p = x.put v p := by
        unfold FlS.put
        rw [if_pos h, if_pos (show x.nrm.l = [] from h)]
        rfl
      rw [this]
    · rw [FlS.nrm_of h]
theorem FlS.serve_nrm (x : FlS) : x.nrm.serve.nrm = x.serve.nrm := by
  by_cases h : x.l = []
  · have e1 : x.serve = x := by unfold FlS.serve; rw [h]
    have e2 : x.nrm.serve = x.nrm := by unfold FlS.serve; rw [show x.nrm.l = [] from h]
    rw [e1, e2, FlS.nrm_nrm]
  · rw [FlS.nrm_of h]
theorem FlS.out_nrm (x : FlS) : x.nrm.out = x.out := by
  by_cases h : x.l = []
  · unfold FlS.out; rw [h, show x.nrm.l = [] from h]
  · rw [FlS.nrm_of h]
theorem SfS.nrm_eq {v most v' most' : Int} {fs fs' : List (Int × FlS)} (h1 : v = v') (h2 : most = most') (h3 : fs.map nrmE = fs'.map nrmE) : (SfS.mk v most fs).nrm = (SfS.mk v' most' fs').nrm := by
  unfold SfS.nrm
  simp only [h1, h2, h3]
theorem nrmE_nrmE (fs : List (Int × FlS)) : (fs.map nrmE).map nrmE = fs.map nrmE := by
  rw [List.map_map]
  refine List.map_congr_left fun e _ => ?_
  simp only [Function.comp, nrmE, FlS.nrm_nrm]
theorem SfS.nrm_nrm (s : SfS) : s.nrm.nrm = s.nrm := SfS.nrm_eq rfl rfl (nrmE_nrmE s.fs)
theorem SfS.add_nrm (s : SfS) (id r m : Int) : (s.nrm.add id r m).nrm = (s.add id r m).nrm := by
  unfold SfS.add
  have h : (getF s.nrm.fs id).isSome = (getF s.fs id).isSome := by show (getF (s.fs.map nrmE) id).isSome = _; rw [getF_nrm]; simp
  rw [h]
  split
  · exact SfS.nrm_nrm s
  · refine SfS.nrm_eq rfl rfl ?_
    show (s.fs.map nrmE ++ [(id, FlS.new r m)]).map nrmE = (s.fs ++ [(id, FlS.new r m)]).map nrmE
    rw [List.map_append, List.map_append, nrmE_nrmE]
theorem SfS.arrive_nrm (s : SfS) (p : Pk) : (s.nrm.arrive p).nrm = (s.arrive p).nrm ∧ s.nrm.arriveE p = s.arriveE p := by
  unfold SfS.arrive SfS.arriveE
  have h : getF s.nrm.fs p.flow = (getF s.fs p.flow).map FlS.nrm := getF_nrm s.fs p.flow
  rw [h]
  cases getF s.fs p.flow with
  | none => exact ⟨SfS.nrm_nrm s, rfl⟩
  | some x =>
    refine ⟨SfS.nrm_eq rfl rfl ?_, rfl⟩
    show (setF (s.fs.map nrmE) p.flow (x.nrm.arrive s.v p)).map nrmE = (setF s.fs p.flow (x.arrive s.v p)).map nrmE
    rw [setF_nrm, setF_nrm, nrmE_nrmE, FlS.arrive_nrm]
theorem SfS.remove_nrm (s : SfS) (id : Int) : (s.nrm.remove id).nrm = (s.remove id).nrm ∧ s.nrm.removeE id = s.removeE id := by
  unfold SfS.remove SfS.removeE
  have h : getF s.nrm.fs id = (getF s.fs id).map FlS.nrm := getF_nrm s.fs id
  rw [h]
  cases getF s.fs id with
  | none => exact ⟨SfS.nrm_nrm s, rfl⟩
  | some x =>
    simp only [Option.map_some]
    refine ⟨?_, rfl⟩
    by_cases hl : x.l = []
    · rw [if_pos (show x.nrm.l = [] from hl), if_pos hl]
      refine SfS.nrm_eq rfl rfl ?_
      show ((s.fs.map nrmE).filter _).map nrmE = _
      rw [List.filter_map, nrmE_nrmE]
      rfl
    · rw [if_neg (show ¬ x.nrm.l = [] from hl), if_neg hl]
      exact SfS.nrm_nrm s
theorem SfS.serve_nrm (s : SfS) : s.nrm.serve.nrm = s.serve.nrm ∧ s.nrm.has = s.has ∧ s.nrm.head = s.head := by
  have he : entL s.nrm.fs = entL s.fs := entL_nrm s.fs
  have hg : getF s.nrm.fs s.first.2 = (getF s.fs s.first.2).map FlS.nrm := getF_nrm s.fs _
  refine ⟨?_, by unfold SfS.has; rw [he], ?_⟩
  · unfold SfS.serve
    rw [he, SfS.first_nrm, hg]
    split
    · exact SfS.nrm_eq rfl rfl (nrmE_nrmE s.fs)
    · cases getF s.fs s.first.2 with
      | none => exact SfS.nrm_nrm s
      | some x =>
        refine SfS.nrm_eq rfl ?_ ?_
        · show max s.most x.nrm.out = _; rw [FlS.out_nrm]
        · show (setF (s.fs.map nrmE) s.first.2 x.nrm.serve).map nrmE = (setF s.fs s.first.2 x.serve).map nrmE
          rw [setF_nrm, setF_nrm, nrmE_nrmE, FlS.serve_nrm]
  · unfold SfS.head
    rw [he, SfS.first_nrm, hg]
    split
    · rfl
    · cases getF s.fs s.first.2 with
      | none => rfl
      | some x => rfl
theorem SfS.mates_nrm (s : SfS) (k id : Int) : s.nrm.mates k id = s.mates k id := by
  unfold SfS.mates
  show ((s.fs.map nrmE).filter _).length = _
  rw [List.filter_map, List.length_map]
  rfl
theorem SfS.regE_nrm (c : Cfg) (s : SfS) (d : CallS) : s.nrm.regE c d = s.regE c d := by
  unfold SfS.regE
  rw [SfS.mates_nrm]
  have h : (getF s.nrm.fs d.flow).isSome = (getF s.fs d.flow).isSome := by show (getF (s.fs.map nrmE) d.flow).isSome = _; rw [getF_nrm]; simp
  rw [h]
theorem MdS.nrm_eq {s s' : SfS} {k k' : Int} (h : s.nrm = s'.nrm) (hk : k = k') : (MdS.mk s k).nrm = (MdS.mk s' k').nrm := by unfold MdS.nrm; simp only [h, hk]
theorem MdS.one_nrm (m : MdS) : m.nrm.one.nrm = m.one.nrm ∧ m.nrm.s.has = m.s.has ∧ m.nrm.s.head = m.s.head := by
  obtain ⟨h1, h2, h3⟩ := m.s.serve_nrm
  refine ⟨MdS.nrm_eq h1 ?_, h2, h3⟩
  show (if m.s.nrm.has = true then m.served + 1 else m.served) = _
  rw [h2]
theorem MdS.bat_nrm : ∀ (k : Nat) (m m' : MdS) (ps : List Pk), m.nrm = m'.nrm → (m.bat k ps).1.nrm = (m'.bat k ps).1.nrm ∧ (m.bat k ps).2 = (m'.bat k ps).2
  | 0, m, m', ps, h => ⟨h, rfl⟩
  | k + 1, m, m', ps, h => by
    obtain ⟨a1, a2, a3⟩ := m.one_nrm
    obtain ⟨b1, b2, b3⟩ := m'.one_nrm
    have h1 : m.one.nrm = m'.one.nrm := by rw [← a1, h, b1]
    have h2 : m.s.has = m'.s.has := by rw [← a2, h, b2]
    have h3 : m.s.head = m'.s.head := by rw [← a3, h, b3]
    unfold MdS.bat
    rw [h2, h3]
    split
    · exact MdS.bat_nrm k _ _ _ h1
    · exact ⟨h1, rfl⟩
theorem MdS.nrm_nrm (m : MdS) : m.nrm.nrm = m.nrm := MdS.nrm_eq (SfS.nrm_nrm m.s) rfl
theorem MdS.doo_nrm (c : Cfg) (m : MdS) (d : CallS) : (m.nrm.doo c d).1.nrm = (m.doo c d).1.nrm ∧ (m.nrm.doo c d).2 = (m.doo c d).2 := by
  unfold MdS.doo
  split
  · refine ⟨MdS.nrm_eq ?_ rfl, by show RetS.code (m.s.nrm.regE c d) = _; rw [SfS.regE_nrm]⟩
    show (m.s.nrm.reg c d).nrm = (m.s.reg c d).nrm
    unfold SfS.reg
    rw [SfS.regE_nrm]
    split
    · exact SfS.add_nrm _ _ _ _
    · exact SfS.nrm_nrm _
  split
  · obtain ⟨h1, h2⟩ := m.s.remove_nrm d.flow
    exact ⟨MdS.nrm_eq h1 rfl, by show RetS.code (m.s.nrm.removeE d.flow) = _; rw [h2]⟩
  split
  · obtain ⟨h1, h2⟩ := m.s.arrive_nrm ⟨d.flow, d.a, d.b⟩
    refine ⟨MdS.nrm_eq ?_ rfl, ?_⟩
    · show (m.s.nrm.enq d).nrm = (m.s.enq d).nrm
      unfold SfS.enq
      split
      · exact h1
      · exact SfS.nrm_nrm _
    · show RetS.code (m.s.nrm.enqE d) = RetS.code (m.s.enqE d)
      unfold SfS.enqE
      rw [h2]
  split
  · obtain ⟨h1, h2, h3⟩ := m.one_nrm
    refine ⟨h1, ?_⟩
    show m.nrm.oneRet = m.oneRet
    unfold MdS.oneRet
    rw [h2, h3]
  split
  · split
    · exact MdS.bat_nrm _ _ _ _ (MdS.nrm_nrm m)
    · exact ⟨MdS.nrm_nrm m, rfl⟩
  split
  · exact ⟨MdS.nrm_nrm m, rfl⟩
  · exact ⟨MdS.nrm_nrm m, rfl⟩
theorem MSim.nrm {m y : MdS} (h : MSim m y) : MSim m.nrm y.nrm := by
  refine ⟨⟨h.s.v, h.s.most, h.s.perm.map _, ?_⟩, h.served⟩
  have := rise_map.1 h.s.rise
  rw [rise_map]
  show ((y.s.fs.map nrmE).map (·.1)).Pairwise _
  rw [fst_nrm]
  exact this

/-! ### Two models that answer alike -/
def KSim (m m' : MdS) : Prop := ∃ y, MSim m.nrm y ∧ MSim m'.nrm y
theorem KSim.doo {m m' : MdS} (h : KSim m m') (c : Cfg) (d : CallS) : KSim (m.doo c d).1 (m'.doo c d).1 ∧ (m.doo c d).2 = (m'.doo c d).2 := by
  obtain ⟨y, h1, h2⟩ := h
  obtain ⟨a1, a2⟩ := h1.doo c d
  obtain ⟨b1, b2⟩ := h2.doo c d
  obtain ⟨n1, n2⟩ := MdS.doo_nrm c m d
  obtain ⟨n3, n4⟩ := MdS.doo_nrm c m' d
  refine ⟨⟨(y.dooR c d).1.nrm, ?_, ?_⟩, by rw [← n2, a2, ← b2, n4]⟩
  · rw [← n1]; exact a1.nrm
  · rw [← n3]; exact b1.nrm
theorem KSim.symm {m m' : MdS} (h : KSim m m') : KSim m' m := let ⟨y, a, b⟩ := h; ⟨y, b, a⟩

/-! ### The key -/
/-- Flows by rising numbers. -/
def sortF (fs : List (Int × FlS)) : List (Int × FlS) := fs.mergeSort fun a c => decide (a.1 ≤ c.1)
theorem sortF_perm (fs : List (Int × FlS)) : (sortF fs).Perm fs := List.mergeSort_perm _ _
theorem sortF_rise {fs : List (Int × FlS)} (hn : (fs.map (·.1)).Nodup) : (sortF fs).Pairwise fun a c => a.1 < c.1 := by
  have h1 := List.pairwise_mergeSort (le := fun a c : Int × FlS => decide (a.1 ≤ c.1)) (fun a b c h1 h2 => by simp only [decide_eq_true_eq] at *; omega) (fun a b => by simp only [Bool.or_eq_true, decide_eq_true_eq]; omega) fs
  have h2 : ((sortF fs).map (·.1)).Nodup := ((sortF_perm fs).map (·.1)).nodup_iff.2 hn
  rw [List.Nodup, List.pairwise_map] at h2
  refine (h1.and h2).imp fun {a b} h => ?_
  have h3 := h.1
  simp only [decide_eq_true_eq] at h3
  have := h.2
  omega
def toU (z : Int) : Int := IntKind.u64.wrap z
theorem toU_inj {a b : Int} (ha : I64 a) (hb : I64 b) (h : toU a = toU b) : a = b := by
  unfold toU at h
  rw [IntKind.wrap_u64, IntKind.wrap_u64] at h
  unfold I64 at *
  omega
theorem toU_w64 (z : Int) : W64 (toU z) := by unfold toU; rw [IntKind.wrap_u64]; unfold W64; omega
def pkW (p : Pk) : List Int := [toU p.flow, toU p.len, toU p.mark]
def flW (x : FlS) : List Int := [x.r, toU x.most, x.start0, x.finish, toU (x.l.length : Int)] ++ x.l.flatMap pkW
def enW (e : Int × FlS) : List Int := toU e.1 :: flW e.2
def sfW (s : SfS) : List Int := s.v :: s.most :: (sortF s.fs).flatMap enW
def mdW (m : MdS) : List Int := sfW m.s ++ [toU m.served]
theorem pks_inj : ∀ {l l' : List Pk} {t t' : List Int}, (∀ p ∈ l, p.Ok) → (∀ p ∈ l', p.Ok) → l.length = l'.length → l.flatMap pkW ++ t = l'.flatMap pkW ++ t' → l = l' ∧ t = t'
  | [], [], t, t', _, _, _, h => ⟨rfl, by simpa using h⟩
  | [], _ :: _, _, _, _, _, hl, _ => by simp at hl
  | _ :: _, [], _, _, _, _, hl, _ => by simp at hl
  | p :: l, p' :: l', t, t', ho, ho', hl, h => by
    simp only [List.flatMap_cons, pkW, List.cons_append, List.nil_append, List.cons.injEq] at h
    obtain ⟨h1, h2, h3, h4⟩ := h
    obtain ⟨a1, a2, a3⟩ := ho p (List.mem_cons_self ..)
    obtain ⟨b1, b2, b3⟩ := ho' p' (List.mem_cons_self ..)
    have e1 := toU_inj a1 b1 h1
    have e2 := toU_inj a2 b2 h2
    have e3 := toU_inj a3 b3 h3
    obtain ⟨h5, h6⟩ := pks_inj (fun q hq => ho q (List.mem_cons_of_mem _ hq)) (fun q hq => ho' q (List.mem_cons_of_mem _ hq)) (by simpa using hl) h4
    refine ⟨?_, h6⟩
    obtain ⟨x1, x2, x3⟩ := p
    obtain ⟨y1, y2, y3⟩ := p'
    simp only at e1 e2 e3
    rw [e1, e2, e3, h5]
theorem enW_inj {e e' : Int × FlS} {t t' : List Int} (h1 : I64 e.1) (h2 : I64 e'.1) (o1 : e.2.Ok) (o2 : e'.2.Ok) (h : enW e ++ t = enW e' ++ t') : nrmE e = nrmE e' ∧ t = t' := by
  obtain ⟨id, r, m, st, f, l⟩ := e
  obtain ⟨id', r', m', st', f', l'⟩ := e'
  simp only [enW, flW, List.cons_append, List.nil_append, List.cons.injEq] at h
  obtain ⟨a1, a2, a3, a4, a5, a6, a7⟩ := h
  have i64 : ∀ x : FlS, x.Ok → I64 x.most ∧ I64 (x.l.length : Int) := fun x o => by
    have := o.m1; have := o.m8; have := o.len
    unfold I64
    omega
  have e1 := toU_inj h1 h2 a1
  have e2 := toU_inj (i64 _ o1).1 (i64 _ o2).1 a3
  have e3 := toU_inj (i64 _ o1).2 (i64 _ o2).2 a6
  simp only at e1 e2 e3 a2 a5
  obtain ⟨e4, e5⟩ := pks_inj o1.pk o2.pk (by simp only; omega) a7
  simp only at e4
  refine ⟨?_, e5⟩
  unfold nrmE FlS.nrm
  simp only [a4]
  simp only [e1, e2, e4, a2, a5]
theorem ens_inj : ∀ {fs fs' : List (Int × FlS)} {t t' : Int}, (∀ e ∈ fs, I64 e.1 ∧ e.2.Ok) → (∀ e ∈ fs', I64 e.1 ∧ e.2.Ok) → fs.flatMap enW ++ [t] = fs'.flatMap enW ++ [t'] → fs.map nrmE = fs'.map nrmE ∧ t = t'
  | [], [], t, t', _, _, h => ⟨rfl, by simpa using h⟩
  | [], e :: l, t, t', _, _, h => by
    have := congrArg List.length h
    simp [enW, flW] at this
  | e :: l, [], t, t', _, _, h => by
    have := congrArg List.length h
    simp [enW, flW] at this
  | e :: l, e' :: l', t, t', ho, ho', h => by
    rw [List.flatMap_cons, List.flatMap_cons, List.append_assoc, List.append_assoc] at h
    obtain ⟨a1, a2⟩ := ho e (List.mem_cons_self ..)
    obtain ⟨b1, b2⟩ := ho' e' (List.mem_cons_self ..)
    obtain ⟨h1, h2⟩ := enW_inj a1 b1 a2 b2 h
    obtain ⟨h3, h4⟩ := ens_inj (fun x hx => ho x (List.mem_cons_of_mem _ hx)) (fun x hx => ho' x (List.mem_cons_of_mem _ hx)) h2
    exact ⟨by rw [List.map_cons, List.map_cons, h1, h3], h4⟩
theorem MSim.sorted {m : MdS} (hn : (m.s.fs.map (·.1)).Nodup) : MSim m.nrm ⟨⟨m.s.v, m.s.most, (sortF m.s.fs).map nrmE⟩, m.served⟩ := by
  refine ⟨⟨rfl, rfl, ((sortF_perm m.s.fs).map nrmE).symm, ?_⟩, rfl⟩
  rw [rise_map]
  show (((sortF m.s.fs).map nrmE).map (·.1)).Pairwise _
  rw [fst_nrm]
  exact rise_map.1 (sortF_rise hn)
/-- One key: alike. -/
theorem mdW_sim {m m' : MdS} (o : m.s.Ok) (o' : m'.s.Ok) (hn : (m.s.fs.map (·.1)).Nodup) (hn' : (m'.s.fs.map (·.1)).Nodup) (hs : I64 m.served) (hs' : I64 m'.served) (h : mdW m = mdW m') : KSim m m' := by
  unfold mdW sfW at h
  simp only [List.cons_append, List.cons.injEq] at h
  obtain ⟨h1, h2, h3⟩ := h
  obtain ⟨h4, h5⟩ := ens_inj (fun e he => ⟨o.ids e ((sortF_perm _).mem_iff.1 he), o.fs e ((sortF_perm _).mem_iff.1 he)⟩) (fun e he => ⟨o'.ids e ((sortF_perm _).mem_iff.1 he), o'.fs e ((sortF_perm _).mem_iff.1 he)⟩) h3
  have h6 := toU_inj hs hs' h5
  refine ⟨_, MSim.sorted hn, ?_⟩
  rw [h1, h2, h4, h6]
  exact MSim.sorted hn'
theorem KSim.refl {m : MdS} (hn : (m.s.fs.map (·.1)).Nodup) : KSim m m := ⟨_, MSim.sorted hn, MSim.sorted hn⟩

/-! ### A number as eight bytes -/
def byt (n : Int) : List Int := [n % 256, n / 256 % 256, n / 256 / 256 % 256, n / 256 / 256 / 256 % 256, n / 256 / 256 / 256 / 256 % 256, n / 256 / 256 / 256 / 256 / 256 % 256, n / 256 / 256 / 256 / 256 / 256 / 256 % 256, n / 256 / 256 / 256 / 256 / 256 / 256 / 256 % 256]
theorem byt_inj {a b : Int} (ha : W64 a) (hb : W64 b) {t t' : List Int} (h : byt a ++ t = byt b ++ t') : a = b ∧ t = t' := by
  unfold byt at h
  simp only [List.cons_append, List.nil_append, List.cons.injEq] at h
  obtain ⟨h0, h1, h2, h3, h4, h5, h6, h7, h8⟩ := h
  refine ⟨?_, h8⟩
  unfold W64 at *
  omega
theorem byts_inj : ∀ {l l' : List Int}, (∀ a ∈ l, W64 a) → (∀ a ∈ l', W64 a) → l.flatMap byt = l'.flatMap byt → l = l'
  | [], [], _, _, _ => rfl
  | [], b :: l', _, _, h => by simp [byt] at h
  | a :: l, [], _, _, h => by simp [byt] at h
  | a :: l, b :: l', ha, hb, h => by
    rw [List.flatMap_cons, List.flatMap_cons] at h
    obtain ⟨h1, h2⟩ := byt_inj (ha a (List.mem_cons_self ..)) (hb b (List.mem_cons_self ..)) h
    rw [h1, byts_inj (fun x hx => ha x (List.mem_cons_of_mem _ hx)) (fun x hx => hb x (List.mem_cons_of_mem _ hx)) h2]
theorem mdW_w64 {m : MdS} (o : m.s.Ok) : ∀ a ∈ mdW m, W64 a := by
  intro a ha
  unfold mdW sfW at ha
  simp only [List.cons_append, List.mem_cons, List.mem_append, List.mem_flatMap, List.not_mem_nil, or_false] at ha
  rcases ha with rfl | rfl | ⟨e, he, ha⟩ | rfl
  · exact o.v
  · exact o.most
  · have ho := o.fs e ((sortF_perm _).mem_iff.1 he)
    unfold enW flW at ha
    simp only [List.cons_append, List.nil_append, List.mem_cons, List.mem_flatMap] at ha
    rcases ha with rfl | rfl | rfl | rfl | rfl | rfl | ⟨p, hp, ha⟩
    · exact toU_w64 _
    · exact ho.r
    · exact toU_w64 _
    · unfold FlS.start0
      split
      · unfold W64; omega
      · exact ho.start
    · exact ho.finish
    · exact toU_w64 _
    · unfold pkW at ha
      simp only [List.mem_cons, List.not_mem_nil, or_false] at ha
      rcases ha with rfl | rfl | rfl <;> exact toU_w64 _
  · exact toU_w64 _
/-- The bytes of a key: what was done, how the model is. -/
def keyB (done : Int) (m : MdS) : List Int := (done :: mdW m).flatMap byt
theorem keyB_inj {d d' : Int} {m m' : MdS} (hd : W64 d) (hd' : W64 d') (o : m.s.Ok) (o' : m'.s.Ok) (hn : (m.s.fs.map (·.1)).Nodup) (hn' : (m'.s.fs.map (·.1)).Nodup) (hs : I64 m.served) (hs' : I64 m'.served) (h : keyB d m = keyB d' m') : d = d' ∧ KSim m m' := by
  have h1 := byts_inj (l := d :: mdW m) (l' := d' :: mdW m') (fun a ha => by
    rcases List.mem_cons.1 ha with rfl | ha
    · exact hd
    · exact mdW_w64 o a ha) (fun a ha => by
    rcases List.mem_cons.1 ha with rfl | ha
    · exact hd'
    · exact mdW_w64 o' a ha) h
  simp only [List.cons.injEq] at h1
  exact ⟨h1.1, mdW_sim o o' hn hn' hs hs' h1.2⟩
theorem byt_bd {n : Int} (h : 0 ≤ n) : ∀ b ∈ byt n, 0 ≤ b ∧ b < 256 := by
  intro b hb
  unfold byt at hb
  simp only [List.mem_cons, List.not_mem_nil, or_false] at hb
  rcases hb with rfl | rfl | rfl | rfl | rfl | rfl | rfl | rfl <;> omega
end Go.Proofs.YtdjooacjjnjfmaaGreat
end

-- A string as a map's key; bytes as a string.
section
namespace Go.Proofs.YtdjooacjjnjfmaaGreat
set_option linter.unusedVariables false
set_option linter.unusedSimpArgs false
open Go Go.Proofs.YtdjooacjjnjfmaaGreatMapK

theorem check_strK (e : Bool) (v : ByteArray) (w : World) : (Instr.checkKey e 10000 9 (.string v)).run Tryz.prog w = .ok () w := by
  rw [show (10000 : Nat) = 9999 + 1 from rfl]
  unfold Instr.checkKey
  simp [run_underlying Tryz.underlying9, Result.andThen]
theorem ba_beq (a b : ByteArray) : (a == b) = decide (a = b) := by
  show (a.data == b.data) = _
  by_cases h : a = b
  · subst h; simp
  · have h2 : a.data ≠ b.data := fun e => h (ByteArray.ext e)
    simp [h, h2]
theorem now_str (k : ByteArray) : ∀ (es : List MapEntry) (ks : List ByteArray) (i : Nat), es.map (·.key) = ks.map Value.string →
    Instr.findNow .string (.string k) es i = some (findP k ks es i) := by
  intro es
  induction es with
  | nil => intro ks i h; cases ks <;> first | rfl | simp at h
  | cons e es ih =>
    intro ks i h
    cases ks with
    | nil => simp at h
    | cons k' ks =>
      simp only [List.map_cons, List.cons.injEq] at h
      have ih' := ih ks (i + 1) h.2
      simp only [Instr.findNow, h.1, findP, Instr.sameNow, ba_beq]
      by_cases hk : k = k'
      · simp [hk]
      · simp [hk, ih']
theorem find_str (k : ByteArray) (es : List MapEntry) (ks : List ByteArray) (w : World) (h : es.map (·.key) = ks.map Value.string) : (Instr.findKey 9 (.string k) es).run Tryz.prog w = .ok (findP k ks es 0) w := by
  simp only [Instr.findKey, Sem.run_bind, run_underlying Tryz.underlying9, Result.andThen, now_str k es ks 0 h]
  rfl
theorem strKey : KeyT Tryz.prog 9 Value.string :=
  ⟨fun e k w => check_strK e k w, fun k => by simp [Instr.sameBits, ba_beq], fun k es ks w h => find_str k es ks w h⟩
theorem strOf_inj {a b : List Int} (ha : ∀ x ∈ a, 0 ≤ x ∧ x < 256) (hb : ∀ x ∈ b, 0 ≤ x ∧ x < 256) (h : strOfNums a = strOfNums b) : a = b := by
  have h1 := congrArg (fun s : ByteArray => s.data.toList) h
  simp only [strOfNums_data] at h1
  have key : ∀ {a b : List Int}, (∀ x ∈ a, 0 ≤ x ∧ x < 256) → (∀ x ∈ b, 0 ≤ x ∧ x < 256) → (a.map fun n => UInt8.ofNat n.toNat) = (b.map fun n => UInt8.ofNat n.toNat) → a = b := by
    intro a
    induction a with
    | nil => intro b _ _ h; cases b with
      | nil => rfl
      | cons y b => simp at h
    | cons x a ih =>
      intro b ha hb h
      cases b with
      | nil => simp at h
      | cons y b =>
        simp only [List.map_cons, List.cons.injEq] at h
        obtain ⟨a1, a2⟩ := ha x (List.mem_cons_self ..)
        obtain ⟨b1, b2⟩ := hb y (List.mem_cons_self ..)
        have e := congrArg UInt8.toNat h.1
        simp only [UInt8.toNat_ofNat'] at e
        rw [show x = y by (simp at e; omega), ih (fun z hz => ha z (List.mem_cons_of_mem _ hz)) (fun z hz => hb z (List.mem_cons_of_mem _ hz)) h.2]
  exact key ha hb h1
end Go.Proofs.YtdjooacjjnjfmaaGreat
end
