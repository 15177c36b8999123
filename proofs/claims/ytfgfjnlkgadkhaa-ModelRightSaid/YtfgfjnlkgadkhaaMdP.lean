/- The model as plain data: what each call does and tells; the reference's likewise; both stay alike. -/
import Derived.Test.YtfgfjnlkgadkhaaMod6
import Derived.Test.YtfgfjnlkgadkhaaRfs5a
namespace Go.Proofs.Ytfgfjnlkgadkhaa
set_option linter.unusedVariables false
set_option linter.unusedSimpArgs false
set_option maxRecDepth 20000
open Go.RowKit Go.Proofs.YtfgfjnlkgadkhaaMem Go.Proofs.YtfgfjnlkgadkhaaMapK

structure RetS where
  e : Int
  ps : List Pk
  n : Int
  v : Int
def RetS.code (e : Int) : RetS := ⟨e, [], 0, 0⟩
structure MdS where
  s : SfS
  served : Int
def MdS.new : MdS := ⟨SfS.new, 0⟩
def SfS.mates (s : SfS) (k id : Int) : Nat := (s.fs.filter fun e => decide (e.1.tmod k = id.tmod k)).length
/-- What registering tells. -/
def SfS.regE (c : Cfg) (s : SfS) (d : CallS) : Int :=
  if inB d.flow 0 1048576 = false then 1 else if invB c.unit d.a = false then 4 else if inB d.b 1 8 = false then 1 else if (getF s.fs d.flow).isSome then 6 else if c.slots ≤ s.mates c.shards d.flow then 7 else 0
def SfS.reg (c : Cfg) (s : SfS) (d : CallS) : SfS := if s.regE c d = 0 then s.add d.flow (invR c.unit d.a) d.b else s
def SfS.regR (c : Cfg) (s : SfS) (d : CallS) : SfS := if s.regE c d = 0 then s.addR d.flow (invR c.unit d.a) d.b else s
def SfS.enqE (s : SfS) (d : CallS) : Int := if inB d.a 1 65536 then s.arriveE ⟨d.flow, d.a, d.b⟩ else 3
def SfS.enq (s : SfS) (d : CallS) : SfS := if inB d.a 1 65536 then s.arrive ⟨d.flow, d.a, d.b⟩ else s
def MdS.one (m : MdS) : MdS := ⟨m.s.serve, if m.s.has then m.served + 1 else m.served⟩
def MdS.oneRet (m : MdS) : RetS := if m.s.has then ⟨0, [m.s.head], 0, 0⟩ else .code 10
/-- A batch under way: so many packets more at most, behind what came. -/
def MdS.bat : Nat → MdS → List Pk → MdS × RetS
  | 0, m, ps => (m, ⟨0, ps, 0, 0⟩)
  | k + 1, m, ps => if m.s.has then bat k m.one (ps ++ [m.s.head]) else (m.one, ⟨10, ps, 0, 0⟩)
def MdS.doo (c : Cfg) (m : MdS) (d : CallS) : MdS × RetS :=
  if d.op = 1 then (⟨m.s.reg c d, m.served⟩, .code (m.s.regE c d))
  else if d.op = 2 then (⟨m.s.remove d.flow, m.served⟩, .code (m.s.removeE d.flow))
  else if d.op = 3 then (⟨m.s.enq d, m.served⟩, .code (m.s.enqE d))
  else if d.op = 4 then (m.one, m.oneRet)
  else if d.op = 5 then (if inB d.a 1 16 then m.bat d.a.toNat [] else (m, .code 1))
  else if d.op = 6 then (m, ⟨0, [], m.served, m.s.v⟩)
  else (m, .code 2)
def MdS.dooR (c : Cfg) (m : MdS) (d : CallS) : MdS × RetS :=
  if d.op = 1 then (⟨m.s.regR c d, m.served⟩, .code (m.s.regE c d)) else m.doo c d
structure MSim (m x : MdS) : Prop where
  s : Sim m.s x.s
  served : m.served = x.served
theorem MSim.new : MSim .new .new := ⟨Sim.new, rfl⟩
theorem Sim.mates {s t : SfS} (h : Sim s t) (k id : Int) : s.mates k id = t.mates k id := (h.perm.filter _).length_eq
theorem Sim.regE {s t : SfS} (h : Sim s t) (c : Cfg) (d : CallS) : s.regE c d = t.regE c d := by unfold SfS.regE; rw [h.get, h.mates]
theorem MSim.one {m x : MdS} (h : MSim m x) : MSim m.one x.one ∧ m.s.has = x.s.has ∧ m.s.head = x.s.head := by
  obtain ⟨h1, h2, h3⟩ := h.s.serve
  refine ⟨⟨h1, ?_⟩, h2, h3⟩
  show (if _ then _ else _) = (if _ then _ else _)
  rw [h2, h.served]
theorem MSim.bat : ∀ (k : Nat) {m x : MdS} (h : MSim m x) (ps : List Pk), MSim (m.bat k ps).1 (x.bat k ps).1 ∧ (m.bat k ps).2 = (x.bat k ps).2
  | 0, m, x, h, ps => ⟨h, rfl⟩
  | k + 1, m, x, h, ps => by
    obtain ⟨h1, h2, h3⟩ := h.one
    unfold MdS.bat
    rw [h2, h3]
    split
    · exact MSim.bat k h1 _
    · exact ⟨h1, rfl⟩
theorem MSim.doo {m x : MdS} (h : MSim m x) (c : Cfg) (d : CallS) : MSim (m.doo c d).1 (x.dooR c d).1 ∧ (m.doo c d).2 = (x.dooR c d).2 := by
  unfold MdS.dooR
  by_cases h1 : d.op = 1
  · rw [if_pos h1]
    unfold MdS.doo
    rw [if_pos h1]
    have e := h.s.regE c d
    refine ⟨⟨?_, h.served⟩, by rw [e]⟩
    show Sim (m.s.reg c d) (x.s.regR c d)
    unfold SfS.reg SfS.regR
    rw [e]
    split
    · exact h.s.add _ _ _
    · exact h.s
  · rw [if_neg h1]
    unfold MdS.doo
    rw [if_neg h1, if_neg h1]
    by_cases h2 : d.op = 2
    · rw [if_pos h2, if_pos h2]
      obtain ⟨e1, e2⟩ := h.s.remove d.flow
      exact ⟨⟨e1, h.served⟩, by rw [e2]⟩
    rw [if_neg h2, if_neg h2]
    by_cases h3 : d.op = 3
    · rw [if_pos h3, if_pos h3]
      obtain ⟨e1, e2⟩ := h.s.arrive ⟨d.flow, d.a, d.b⟩
      unfold SfS.enq SfS.enqE
      by_cases hi : inB d.a 1 65536 = true
      · rw [if_pos hi, if_pos hi, if_pos hi, if_pos hi]; exact ⟨⟨e1, h.served⟩, by rw [e2]⟩
      · rw [if_neg hi, if_neg hi, if_neg hi, if_neg hi]; exact ⟨⟨h.s, h.served⟩, rfl⟩
    rw [if_neg h3, if_neg h3]
    by_cases h4 : d.op = 4
    · rw [if_pos h4, if_pos h4]
      obtain ⟨e1, e2, e3⟩ := h.one
      refine ⟨e1, ?_⟩
      show m.oneRet = x.oneRet
      unfold MdS.oneRet
      rw [e2, e3]
    rw [if_neg h4, if_neg h4]
    by_cases h5 : d.op = 5
    · rw [if_pos h5, if_pos h5]
      by_cases hi : inB d.a 1 16 = true
      · rw [if_pos hi, if_pos hi]; exact h.bat _ _
      · rw [if_neg hi, if_neg hi]; exact ⟨h, rfl⟩
    rw [if_neg h5, if_neg h5]
    by_cases h6 : d.op = 6
    · rw [if_pos h6, if_pos h6]; exact ⟨h, by rw [h.served, h.s.v]⟩
    rw [if_neg h6, if_neg h6]
    exact ⟨h, rfl⟩

/-- What is right stays right; no more flows than were registered; no more served than were asked for. -/
structure MdS.Ok (m : MdS) (k : Nat) : Prop where
  s : m.s.Ok
  len : m.s.fs.length ≤ k
  served : 0 ≤ m.served ∧ m.served ≤ 16 * k
  nodup : (m.s.fs.map (·.1)).Nodup
theorem MdS.new_ok : MdS.new.Ok 0 := ⟨SfS.new_ok, Nat.le_refl _, ⟨Int.le_refl _, Int.le_refl _⟩, List.nodup_nil⟩
theorem SfS.serve_len (s : SfS) : s.serve.fs.length = s.fs.length := by
  unfold SfS.serve
  split
  · rfl
  · split
    · rfl
    · exact setF_length _ _ _
theorem SfS.serve_fst (s : SfS) : s.serve.fs.map (·.1) = s.fs.map (·.1) := by
  unfold SfS.serve
  split
  · rfl
  · split
    · rfl
    · exact setF_fst _ _ _
theorem SfS.arrive_fst (s : SfS) (p : Pk) : (s.arrive p).fs.map (·.1) = s.fs.map (·.1) := by
  unfold SfS.arrive
  split
  · rfl
  · exact setF_fst _ _ _
theorem SfS.remove_sub (s : SfS) (id : Int) : ((s.remove id).fs.map (·.1)).Sublist (s.fs.map (·.1)) := by
  unfold SfS.remove
  split
  · exact List.Sublist.refl _
  · split
    · exact (List.filter_sublist).map _
    · exact List.Sublist.refl _
theorem SfS.add_fst {s : SfS} {id r m : Int} (h : getF s.fs id = none) : (s.add id r m).fs.map (·.1) = s.fs.map (·.1) ++ [id] := by
  unfold SfS.add
  rw [h]
  simp
theorem invR_w64 {u k : Int} (hu : W64 u) : W64 (invR u k) := by
  unfold invR
  split
  · rename_i h
    have h1 : 0 ≤ u / k := Int.ediv_nonneg hu.1 (by omega)
    have h2 : u / k ≤ u := Int.ediv_le_self _ hu.1
    unfold W64 at *
    omega
  · unfold W64; omega
structure CallS.Ok (d : CallS) : Prop where
  op : I64 d.op
  flow : I64 d.flow
  a : I64 d.a
  b : I64 d.b
theorem MdS.one_ok' {m : MdS} {k : Nat} {j : Int} (h : m.s.Ok) (hl : m.s.fs.length ≤ k) (hs : 0 ≤ m.served ∧ m.served ≤ j) (hn : (m.s.fs.map (·.1)).Nodup) : m.one.s.Ok ∧ m.one.s.fs.length ≤ k ∧ (0 ≤ m.one.served ∧ m.one.served ≤ j + 1) ∧ (m.one.s.fs.map (·.1)).Nodup := by
  refine ⟨SfS.serve_ok h, ?_, ?_, ?_⟩
  · show m.s.serve.fs.length ≤ k
    rw [SfS.serve_len]; exact hl
  · show 0 ≤ (if m.s.has then m.served + 1 else m.served) ∧ (if m.s.has then m.served + 1 else m.served) ≤ j + 1
    split <;> omega
  · show (m.s.serve.fs.map (·.1)).Nodup
    rw [SfS.serve_fst]; exact hn
theorem MdS.bat_ok' : ∀ (n : Nat) {m : MdS} {k : Nat} {j : Int} (ps : List Pk) (h : m.s.Ok) (hl : m.s.fs.length ≤ k) (hs : 0 ≤ m.served ∧ m.served ≤ j) (hn : (m.s.fs.map (·.1)).Nodup), (m.bat n ps).1.s.Ok ∧ (m.bat n ps).1.s.fs.length ≤ k ∧ (0 ≤ (m.bat n ps).1.served ∧ (m.bat n ps).1.served ≤ j + n) ∧ ((m.bat n ps).1.s.fs.map (·.1)).Nodup
  | 0, m, k, j, ps, h, hl, hs, hn => ⟨h, hl, by show 0 ≤ m.served ∧ m.served ≤ j + ((0 : Nat) : Int); omega, hn⟩
  | n + 1, m, k, j, ps, h, hl, hs, hn => by
    unfold MdS.bat
    obtain ⟨a1, a2, a3, a4⟩ := MdS.one_ok' (k := k) h hl hs hn
    split
    · obtain ⟨b1, b2, b3, b4⟩ := MdS.bat_ok' n (ps ++ [m.s.head]) a1 a2 a3 a4
      exact ⟨b1, b2, ⟨b3.1, by omega⟩, b4⟩
    · refine ⟨a1, a2, ⟨a3.1, ?_⟩, a4⟩
      show m.one.served ≤ _
      omega
theorem MdS.doo_ok {m : MdS} {k : Nat} (ok : m.Ok k) {c : Cfg} (hc : W64 c.unit) {d : CallS} (hd : d.Ok) : (m.doo c d).1.Ok (k + 1) := by
  have hs := ok.served
  unfold MdS.doo
  split
  · refine ⟨?_, ?_, ⟨hs.1, by show m.served ≤ _; omega⟩, ?_⟩
    · show (m.s.reg c d).Ok
      unfold SfS.reg
      split
      · exact SfS.add_ok ok.s hd.flow (invR_w64 hc)
      · exact ok.s
    · show (m.s.reg c d).fs.length ≤ k + 1
      have := ok.len
      unfold SfS.reg
      split
      · unfold SfS.add
        split
        · omega
        · simp; omega
      · omega
    · show ((m.s.reg c d).fs.map (·.1)).Nodup
      unfold SfS.reg
      split
      · cases hg : getF m.s.fs d.flow with
        | none =>
          rw [SfS.add_fst hg, List.nodup_append]
          refine ⟨ok.nodup, by simp, fun a ha b hb => ?_⟩
          simp only [List.mem_singleton] at hb
          subst hb
          obtain ⟨e, he, rfl⟩ := List.mem_map.1 ha
          exact getF_no hg e he
        | some x => unfold SfS.add; rw [hg]; exact ok.nodup
      · exact ok.nodup
  split
  · refine ⟨SfS.remove_ok ok.s, ?_, ⟨hs.1, by show m.served ≤ _; omega⟩, ok.nodup.sublist (SfS.remove_sub _ _)⟩
    have h1 := (SfS.remove_sub m.s d.flow).length_le
    have h2 := ok.len
    simp only [List.length_map] at h1
    show (m.s.remove d.flow).fs.length ≤ k + 1
    omega
  split
  · refine ⟨?_, ?_, ⟨hs.1, by show m.served ≤ _; omega⟩, ?_⟩
    · show (m.s.enq d).Ok
      unfold SfS.enq
      split
      · exact SfS.arrive_ok ok.s ⟨hd.flow, hd.a, hd.b⟩
      · exact ok.s
    · show (m.s.enq d).fs.length ≤ k + 1
      have h2 := ok.len
      unfold SfS.enq
      split
      · have h1 := congrArg List.length (SfS.arrive_fst m.s ⟨d.flow, d.a, d.b⟩)
        simp only [List.length_map] at h1
        omega
      · omega
    · show ((m.s.enq d).fs.map (·.1)).Nodup
      unfold SfS.enq
      split
      · rw [SfS.arrive_fst]; exact ok.nodup
      · exact ok.nodup
  have hl := ok.len
  split
  · obtain ⟨a1, a2, a3, a4⟩ := MdS.one_ok' (k := k) ok.s ok.len hs ok.nodup
    exact ⟨a1, by show m.one.s.fs.length ≤ _; omega, ⟨a3.1, by show m.one.served ≤ _; omega⟩, a4⟩
  have hkeep : m.Ok (k + 1) := ⟨ok.s, by omega, by omega, ok.nodup⟩
  split
  · split
    · rename_i hi
      have hi2 : d.a ≤ 16 ∧ 1 ≤ d.a := by unfold inB at hi; simp at hi; omega
      obtain ⟨a1, a2, a3, a4⟩ := MdS.bat_ok' d.a.toNat [] (k := k) ok.s ok.len hs ok.nodup
      exact ⟨a1, by show (m.bat d.a.toNat []).1.s.fs.length ≤ _; omega, ⟨a3.1, by show (m.bat d.a.toNat []).1.served ≤ _; omega⟩, a4⟩
    · exact hkeep
  split
  · exact hkeep
  · exact hkeep
end Go.Proofs.Ytfgfjnlkgadkhaa
