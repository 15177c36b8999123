/- Several texts in one: Rfs Rfs2 Rfs3 Rfs4 Rfs5a Rfs5 Rfs6. -/
import Derived.Test.YtdjooacjjnjfmaaGreatGc
import Derived.Test.YtdjooacjjnjfmaaGreatGd
import Derived.Test.YtdjooacjjnjfmaaGreatGa
import Derived.Deep.CutRange
import Derived.Deep.RegionHeld3
import Derived.Deep.QuietTactic
import Derived.BigQuiet
import Derived.Deep.RegionLaw
import Derived.Deep.CutBlock
-- The reference's flows (its Sfq), as they lie in memory; where a flow stands among them.
section
namespace Go.Proofs.YtdjooacjjnjfmaaGreat
set_option linter.unusedVariables false
set_option linter.unusedSimpArgs false
set_option maxRecDepth 20000
open Go.RowKit Go.Proofs.YtdjooacjjnjfmaaGreatMem Go.Proofs.YtdjooacjjnjfmaaGreatMapK

def FlR.ptr (e : FlR) : Value := .pointer (some ⟨e.b, 0, none⟩)
def ptrs (l : List FlR) : List Value := l.map FlR.ptr
theorem ptrs_length (l : List FlR) : (ptrs l).length = l.length := List.length_map _
theorem ptrs_one (l : List FlR) : ∀ u ∈ ptrs l, u.oneCell' = true := by
  intro u hu
  obtain ⟨e, _, rfl⟩ := List.mem_map.1 hu
  rfl
theorem ERf : ElT Tryz.prog 84 121 (.pointer none) 1 := ⟨Tryz.underlying84, ⟨8, by kernel_rfl, by omega⟩, rfl, by omega⟩

structure RfR (w : World) (b : Nat) (v most : Int) (l : List FlR) (F : Nat → Prop) : Prop where
  row : ∃ ao cap, Blk w b [.slice ao l.length cap, .int .u64 v, .int .u64 most] 86 ∧ w.ownsRow 0 121 1 (.slice ao l.length cap) l.length (ptrs l) ∧ (∀ a, ao = some a → F a.block ∧ a.block ≠ b ∧ ∀ e ∈ l, ¬ e.G a.block)
  flows : ∀ e ∈ l, RefAt w e.b e.id e.x e.G
  hb : F b
  sub : ∀ e ∈ l, ∀ k, e.G k → F k ∧ k ≠ b
  disj : l.Pairwise fun e e' => ∀ k, e.G k → ¬ e'.G k
  lt : Lt F w
  ok : ∀ e ∈ l, e.x.Ok
  rise : l.Pairwise fun e e' => e.id < e'.id
section
variable {w w' : World} {b : Nat} {v most : Int} {l : List FlR} {F S : Nat → Prop}
theorem RfR.fr (h : RfR w b v most l F) (hf : Fr S w w') (hn : ∀ k, F k → ¬ S k) : RfR w' b v most l F := by
  obtain ⟨ao, cap, h1, h2, h3⟩ := h.row
  refine ⟨⟨ao, cap, h1.fr hf (hn b h.hb), owns_fr h2 hf fun k hk => ?_, h3⟩, fun e he => (h.flows e he).fr hf fun k hk => hn k (h.sub e he k hk).1, h.hb, h.sub, h.disj, h.lt.mono hf.size, h.ok, h.rise⟩
  cases ao with
  | none => cases hk
  | some a => cases hk; exact hn _ (h3 a rfl).1
theorem RfR.below (h : RfR w b v most l F) (hb : Below w.heap.size w w') : RfR w' b v most l F := h.fr (Fr.of_below (S := fun _ => False) hb) fun _ _ f => f
theorem RfR.mono {G : Nat → Prop} (h : RfR w b v most l F) (hF : ∀ k, F k → G k) (hG : Lt G w) : RfR w b v most l G := by
  obtain ⟨ao, cap, h1, h2, h3⟩ := h.row
  exact ⟨⟨ao, cap, h1, h2, fun a ha => ⟨hF _ (h3 a ha).1, (h3 a ha).2⟩⟩, h.flows, hF b h.hb, fun e he k hk => ⟨hF k (h.sub e he k hk).1, (h.sub e he k hk).2⟩, h.disj, hG, h.ok, h.rise⟩
end
theorem RfR.ids {w : World} {b : Nat} {v most : Int} {l : List FlR} {F : Nat → Prop} (h : RfR w b v most l F) : (l.map (·.id)).Nodup := by
  rw [List.Nodup, List.pairwise_map]
  exact h.rise.imp fun h e => by omega
/-- What a walk reads of it. -/
theorem RfR.cells {w : World} {b : Nat} {v most : Int} {l : List FlR} {F : Nat → Prop} (h : RfR w b v most l F) :
    ∃ ao cap, w.cell? ⟨b, 0, none⟩ = some (.slice ao l.length cap) ∧ w.cell? ⟨b, 1, none⟩ = some (.int .u64 v) ∧ w.cell? ⟨b, 2, none⟩ = some (.int .u64 most) ∧ l.length ≤ cap ∧ (l.length : Int) ≤ 9223372036854775807 ∧ (ao = none → l.length = 0 ∧ cap = 0) ∧
      ∀ k e, l[k]? = some e → ∃ g, ao = some ⟨g, 0, none⟩ ∧ g < w.heap.size ∧ w.cell? ⟨g, k, none⟩ = some (.pointer (some ⟨e.b, 0, none⟩)) ∧ w.cell? ⟨e.b, 0, none⟩ = some (.int .i64 e.id) ∧ e.b < w.heap.size := by
  obtain ⟨ao, cap, h1, h2, h3⟩ := h.row
  have hrd := owns_rdS h2 (ptrs_one l)
  have c0 := h1.cell 0
  have c1 := h1.cell 1
  have c2 := h1.cell 2
  simp only [List.getElem?_cons_succ, List.getElem?_cons_zero] at c0 c1 c2
  refine ⟨ao, cap, c0, c1, c2, hrd.le, by have := hrd.small; omega, hrd.nil, fun k e he => ?_⟩
  have hk : k < l.length := by
    rcases Nat.lt_or_ge k l.length with h | h
    · exact h
    · rw [List.getElem?_eq_none h] at he; cases he
  obtain ⟨g, cap', hv, _, hlt⟩ := h2.form (by omega)
  simp only [Value.slice.injEq] at hv
  obtain ⟨rfl, _, rfl⟩ := hv
  obtain ⟨ao2, cap2, B, -, -, -, hl2⟩ := h.flows e (List.mem_of_getElem? he)
  have i0 := B.cell 0
  simp only [List.getElem?_cons_zero] at i0
  refine ⟨g, rfl, hlt, ?_, i0, B.lt⟩
  rw [h2.cellAt k (by omega)]
  unfold ptrs
  rw [List.getElem?_map, he]
  rfl

/-- Where a flow stands. -/
def posR : List FlR → Int → Nat
  | [], _ => 0
  | e :: l, id => if e.id = id then 0 else posR l id + 1
theorem posR_le (l : List FlR) (id : Int) : posR l id ≤ l.length := by
  induction l with
  | nil => exact Nat.le_refl _
  | cons e l ih => unfold posR; split <;> simp <;> omega
theorem getR_cons (e : FlR) (l : List FlR) (id : Int) : getR (e :: l) id = if e.id = id then some e else getR l id := by
  unfold getR
  rw [List.find?_cons]
  by_cases h : e.id = id
  · simp [h]
  · simp [h]
theorem posR_at {l : List FlR} {id : Int} (h : posR l id < l.length) : ∃ e, l[posR l id]? = some e ∧ e.id = id ∧ getR l id = some e := by
  induction l with
  | nil => simp [posR] at h
  | cons e l ih =>
    rw [getR_cons]
    unfold posR at h ⊢
    by_cases he : e.id = id
    · rw [if_pos he, if_pos he]; exact ⟨e, rfl, he, rfl⟩
    · rw [if_neg he] at h ⊢
      rw [if_neg he]
      obtain ⟨e', h1, h2, h3⟩ := ih (by simpa using h)
      exact ⟨e', by simpa using h1, h2, h3⟩
theorem posR_none {l : List FlR} {id : Int} (h : ¬ posR l id < l.length) : getR l id = none := by
  induction l with
  | nil => rfl
  | cons e l ih =>
    rw [getR_cons]
    unfold posR at h
    by_cases he : e.id = id
    · rw [if_pos he] at h; simp at h
    · rw [if_neg he] at h ⊢
      exact ih (by simpa using h)
theorem posR_lt {l : List FlR} {id : Int} {k : Nat} {e : FlR} (h : k < posR l id) (hk : l[k]? = some e) : e.id ≠ id := by
  induction l generalizing k with
  | nil => cases hk
  | cons a l ih =>
    unfold posR at h
    by_cases he : a.id = id
    · rw [if_pos he] at h; omega
    · rw [if_neg he] at h
      cases k with
      | zero => simp at hk; subst hk; exact he
      | succ k => exact ih (k := k) (by omega) (by simpa using hk)
def atR (l : List FlR) (id : Int) : Int := if posR l id < l.length then posR l id else -1

set_option maxHeartbeats 1000000 in
theorem at_any (b : Nat) (v most : Int) (l : List FlR) (F : Nat → Prop) (id : Int) (w : World) (h : RfR w b v most l F) :
    Calls Tryz.prog 81 #[.pointer (some ⟨b, 0, none⟩), .int .i64 id] w fun e w' => e = .returned (.int .i64 (atR l id)) ∧ w = w' := by
  obtain ⟨ao, cap, c0, c1, c2, hc, hl63, hnil, hat⟩ := h.cells
  have hbl := h.lt b h.hb
  have HA := Lib.hid hat
  have hp := posR_le l id
  have HR := Lib.hid (show atR l id = if posR l id < l.length then (posR l id : Int) else -1 from rfl)
  generalize atR l id = R at *
  obtain ⟨n, hn⟩ : ∃ n, l.length = n := ⟨_, rfl⟩
  rw [hn] at hc hl63 hnil c0 hp HR
  clear hat h c1 c2
  have HN := Lib.hid hn
  clear hn
  go_enter Tryz.func81, Tryz.ntmps81
  go_wp2_with fail
  go_loopw [5] (fun v5 wr => ∃ k : Nat, k ≤ posR l id ∧ v5 = .int .i64 k ∧ w = wr) (fun v5 _ => n - (intOf v5).toNat)
  case atStart => exact ⟨0, Nat.zero_le _, rfl, rfl⟩
  case round =>
    obtain ⟨k, hk, rfl, rfl⟩ := hrel
    by_cases hkn : k < n
    · obtain ⟨e, he⟩ : ∃ e, l[k]? = some e := ⟨l[k]'(by rw [HN.out]; exact hkn), List.getElem?_eq_getElem _⟩
      obtain ⟨g, rfl, hg, cg, ci, heb⟩ := HA.out k e he
      have i1 : (k : Int) < (n : Int) := by omega
      by_cases hid : e.id = id
      · have hkp : k = posR l id := by
          rcases Nat.lt_or_ge k (posR l id) with h | h
          · exact absurd hid (posR_lt h he)
          · omega
        have hR : R = k := by rw [HR.out, ← hkp, if_pos hkn]
        subst hR
        have q : (e.id == id) = true := by simpa using hid
        clear HR hid hkp
        go_wp2
        go_ret
        exact ⟨rfl, rfl⟩
      · have q : (e.id == id) = false := by simpa using hid
        have hkp : k + 1 ≤ posR l id := by
          rcases Nat.lt_or_ge k (posR l id) with h | h
          · omega
          · have : k = posR l id := by omega
            obtain ⟨e', h1, h2, -⟩ := posR_at (l := l) (id := id) (by rw [HN.out]; omega)
            rw [← this, he] at h1
            cases h1
            exact absurd h2 hid
        clear hid
        go_wp2
        go_roundw
        case rel => exact ⟨k + 1, hkp, by go_num, by first | rfl | trivial⟩
        case measure => simp [intOf]; omega
    · obtain rfl : k = n := by omega
      have hR : R = -1 := by rw [HR.out, if_neg (by omega)]
      subst hR
      clear HR
      go_wp2
      go_ret
      exact ⟨rfl, rfl⟩
end Go.Proofs.YtdjooacjjnjfmaaGreat
end

-- The reference's flows: one flow turned; a packet comes.
section
namespace Go.Proofs.YtdjooacjjnjfmaaGreat
set_option linter.unusedVariables false
set_option linter.unusedSimpArgs false
set_option maxRecDepth 20000
open Go.RowKit Go.Proofs.YtdjooacjjnjfmaaGreatMem Go.Proofs.YtdjooacjjnjfmaaGreatMapK

theorem setR_ptrs (l : List FlR) (id : Int) (x : FlS) (G : Nat → Prop) : ptrs (setR l id x G) = ptrs l := by
  unfold setR ptrs
  rw [List.map_map]
  refine List.map_congr_left fun e _ => ?_
  simp only [Function.comp]
  split <;> rfl
theorem setR_length (l : List FlR) (id : Int) (x : FlS) (G : Nat → Prop) : (setR l id x G).length = l.length := by unfold setR; simp
theorem RfR.same {w : World} {b : Nat} {v most : Int} {l : List FlR} {F : Nat → Prop} (h : RfR w b v most l F) {e e' : FlR} (he : e ∈ l) (he' : e' ∈ l) (hi : e.id = e'.id) : e = e' := by
  have : ∀ {l : List FlR}, (l.map (·.id)).Nodup → ∀ e e', e ∈ l → e' ∈ l → e.id = e'.id → e = e' := by
    intro l
    induction l with
    | nil => intro _ e e' h; cases h
    | cons a l ih =>
      intro hn e e' he he' hi
      simp only [List.map_cons, List.nodup_cons] at hn
      rcases List.mem_cons.1 he with h3 | h3 <;> rcases List.mem_cons.1 he' with h4 | h4
      · rw [h3, h4]
      · rw [h3] at hi; exact absurd (List.mem_map.2 ⟨e', h4, hi.symm⟩) hn.1
      · rw [h4] at hi; exact absurd (List.mem_map.2 ⟨e, h3, hi⟩) hn.1
      · exact ih hn.2 e e' h3 h4 hi
  exact this h.ids e e' he he' hi
theorem RfR.apart {w : World} {b : Nat} {v most : Int} {l : List FlR} {F : Nat → Prop} (h : RfR w b v most l F) {e e' : FlR} (he : e ∈ l) (he' : e' ∈ l) (hi : e.id ≠ e'.id) : ∀ k, e.G k → ¬ e'.G k := by
  have : ∀ {l : List FlR}, l.Pairwise (fun e e' => ∀ k, e.G k → ¬ e'.G k) → ∀ e e', e ∈ l → e' ∈ l → e.id ≠ e'.id → ∀ k, e.G k → ¬ e'.G k := by
    intro l hp
    induction hp with
    | nil => intro e e' h; cases h
    | @cons a l h1 h2 ih =>
      intro e e' he he' hi k hk hk'
      rcases List.mem_cons.1 he with h3 | h3 <;> rcases List.mem_cons.1 he' with h4 | h4
      · rw [h3, h4] at hi; exact hi rfl
      · rw [h3] at hk; exact h1 e' h4 k hk hk'
      · rw [h4] at hk'; exact h1 e h3 k hk' hk
      · exact ih e e' h3 h4 hi k hk hk'
  exact this h.disj e e' he he' hi
/-- One flow was turned. -/
theorem RfR.turned {w w' : World} {b : Nat} {v most : Int} {l : List FlR} {F : Nat → Prop} (h : RfR w b v most l F) {e : FlR} (he : e ∈ l) {x : FlS} (hp : RefPost e.b e.id x e.G w w') (hx : x.Ok) :
    RfR w' b v most (setR l e.id x (Ext e.G w w')) (Ext F w w') ∧ Fr F w w' := by
  obtain ⟨hp, hf⟩ := hp
  have hF : Fr F w w' := hf.mono fun k _ hk => (h.sub e he k hk).1
  have hbn : ¬ e.G b := fun hk => (h.sub e he b hk).2 rfl
  have hbl := h.lt b h.hb
  obtain ⟨ao, cap, h1, h2, h3⟩ := h.row
  have hap : ∀ e1 ∈ l, e1.id ≠ e.id → ∀ k, e1.G k → ¬ Ext e.G w w' k := by
    intro e1 h1 hi k hk hk'
    rcases hk' with hk' | hk'
    · exact h.apart h1 he hi k hk hk'
    · have := h.lt k (h.sub e1 h1 k hk).1; omega
  refine ⟨{ row := ⟨ao, cap, ?_, ?_, ?_⟩, flows := ?_, hb := .inl h.hb, sub := ?_, disj := ?_, lt := h.lt.ext hf.size, ok := ?_, rise := ?_ }, hF⟩
  · rw [setR_length]; exact h1.fr hf hbn
  · rw [setR_length, setR_ptrs]
    refine owns_fr h2 hf fun k hk => ?_
    cases ao with
    | none => cases hk
    | some a => cases hk; exact (h3 a rfl).2.2 e he
  · intro a ha
    obtain ⟨h4, h5, h6⟩ := h3 a ha
    have hlt := h.lt _ h4
    refine ⟨.inl h4, h5, fun e1 he1 => ?_⟩
    rcases setR_mem he1 with ⟨e0, h0, hi, rfl⟩ | ⟨h0, hi⟩
    · intro hk
      rcases hk with hk | hk
      · exact h6 e he hk
      · omega
    · exact h6 e1 h0
  · intro e1 h1
    rcases setR_mem h1 with ⟨e0, h0, hi, rfl⟩ | ⟨h0, hi⟩
    · obtain rfl := h.same h0 he hi
      exact hp
    · exact (h.flows e1 h0).fr hf fun k hk hk' => h.apart h0 he hi k hk hk'
  · intro e1 h1 k hk
    rcases setR_mem h1 with ⟨e0, h0, hi, rfl⟩ | ⟨h0, hi⟩
    · rcases hk with hk | hk
      · exact ⟨.inl (h.sub e he k hk).1, (h.sub e he k hk).2⟩
      · exact ⟨.inr hk, by omega⟩
    · exact ⟨.inl (h.sub e1 h0 k hk).1, (h.sub e1 h0 k hk).2⟩
  · have hd := h.disj.and h.rise
    unfold setR
    rw [List.pairwise_map]
    refine List.Pairwise.imp_of_mem ?_ hd
    rintro a c ha hc ⟨h1, h2⟩
    by_cases ha' : a.id = e.id
    · have hc' : c.id ≠ e.id := by omega
      rw [if_pos ha', if_neg hc']
      exact fun k hk hk' => hap c hc hc' k hk' hk
    · rw [if_neg ha']
      by_cases hc' : c.id = e.id
      · rw [if_pos hc']
        exact hap a ha ha'
      · rw [if_neg hc']; exact h1
  · intro e1 h1
    rcases setR_mem h1 with ⟨e0, h0, hi, rfl⟩ | ⟨h0, hi⟩
    · exact hx
    · exact h.ok e1 h0
  · have hd := h.rise
    unfold setR
    rw [List.pairwise_map]
    refine hd.imp fun {a c} h => ?_
    split <;> split <;> exact h

/-- The reference's flows, as plain data. -/
def RfsAt (w : World) (b : Nat) (t : SfS) (F : Nat → Prop) : Prop := ∃ l, l.map FlR.pl = t.fs ∧ RfR w b t.v t.most l F
theorem RfsAt.fr {w w' : World} {b : Nat} {t : SfS} {F S : Nat → Prop} (h : RfsAt w b t F) (hf : Fr S w w') (hn : ∀ k, F k → ¬ S k) : RfsAt w' b t F := let ⟨l, e, h⟩ := h; ⟨l, e, h.fr hf hn⟩
theorem RfsAt.below {w w' : World} {b : Nat} {t : SfS} {F : Nat → Prop} (h : RfsAt w b t F) (hb : Below w.heap.size w w') : RfsAt w' b t F := let ⟨l, e, h⟩ := h; ⟨l, e, h.below hb⟩
theorem RfsAt.lt {w : World} {b : Nat} {t : SfS} {F : Nat → Prop} (h : RfsAt w b t F) : Lt F w := let ⟨_, _, h⟩ := h; h.lt
def RfsPost (b : Nat) (t : SfS) (F : Nat → Prop) (w w' : World) : Prop := RfsAt w' b t (Ext F w w') ∧ Fr F w w'
theorem RfsAt.still {w w' : World} {b : Nat} {t : SfS} {F : Nat → Prop} (h : RfsAt w b t F) (hb : Below w.heap.size w w') : RfsPost b t F w w' := by
  obtain ⟨l, e, h⟩ := h
  exact ⟨⟨l, e, (h.below hb).mono (fun k hk => .inl hk) (h.lt.ext hb.size)⟩, Fr.of_below hb⟩

set_option maxHeartbeats 1000000 in
theorem arriveR_any (b : Nat) (t : SfS) (F : Nat → Prop) (p : Pk) (w : World) (h : RfsAt w b t F) (hv : W64 t.v) (hp : p.Ok) :
    Calls Tryz.prog 49 #[.pointer (some ⟨b, 0, none⟩), .agg #[.int .i64 p.flow, .int .i64 p.len, .int .i64 p.mark]] w fun e w' => e = .returned (.int .i64 (t.arriveE p)) ∧ RfsPost b (t.arrive p) F w w' := by
  obtain ⟨l, hl, h⟩ := h
  unfold SfS.arrive SfS.arriveE
  rw [← hl, getF_pl]
  have hb1 := below1 w (.cells #[.int .i64 p.flow, .int .i64 p.len, .int .i64 p.mark] 59)
  have h1 := h.below hb1
  have B1 := Blk.new w [.int .i64 p.flow, .int .i64 p.len, .int .i64 p.mark] 59
  have hF := h.lt
  have hlt := B1.lt
  generalize hW1 : w.alloc (.cells #[.int .i64 p.flow, .int .i64 p.len, .int .i64 p.mark] 59) = w1 at *
  have p0 := B1.cell 0
  have p1 := B1.cell 1
  have p2 := B1.cell 2
  simp only [List.getElem?_cons_succ, List.getElem?_cons_zero] at p0 p1 p2
  have hA := at_any b t.v t.most l F p.flow w1 h1
  have H0 := Lib.hid h
  by_cases hpos : posR l p.flow < l.length
  · obtain ⟨e, he, hid, hg⟩ := posR_at hpos
    have hm := List.mem_of_getElem? he
    obtain ⟨ao, cap, c0, c1, c2, hc, hl63, hnil, hat⟩ := h1.cells
    obtain ⟨g, rfl, hgl, cg, ci, heb⟩ := hat _ e he
    have hok := h.ok e hm
    have hA1 : atR l p.flow = posR l p.flow := by unfold atR; rw [if_pos hpos]
    rw [hA1] at hA
    rw [hg]
    have HL := Lib.hid hpos
    have H := Lib.hid h1
    have hnb : ¬ e.G b := fun hk => (h.sub e hm b hk).2 rfl
    have hnp : ¬ e.G w.heap.size := fun hk => by have := h.lt _ (h.sub e hm _ hk).1; omega
    have hng : ¬ e.G g := by
      obtain ⟨ao, cap', r1, -, r3⟩ := h1.row
      have := r1.cell 0
      simp only [List.getElem?_cons_zero] at this
      rw [this] at c0
      cases c0
      exact (r3 _ rfl).2.2 e hm
    have i1 : ((posR l p.flow : Nat) : Int) < (l.length : Int) := by omega
    have i2 : ¬ ((posR l p.flow : Nat) : Int) < 0 := by omega
    generalize posR l p.flow = k at *
    obtain ⟨n, hn⟩ : ∃ n, l.length = n := ⟨_, rfl⟩
    rw [hn] at c0 i1 hc hl63
    simp only [Option.map_some]
    generalize hR9 : (if e.x.full = true then (9 : Int) else 0) = R9
    clear h h1 hat hpos hA1 he hg hn ci heb c2
    go_enter Tryz.func49, Tryz.ntmps49
    go_wp2_with fail
    refine hA.mono ?_
    rintro e' w' ⟨rfl, rfl⟩
    go_upto_region 4 with fail
    refine wp_region_held_drew (S := (fun w' => w'.cell? ⟨b, 0, none⟩ = some (.slice (some ⟨g, 0, none⟩) n cap) ∧ w'.cell? ⟨b, 1, none⟩ = some (.int .u64 t.v) ∧ w'.cell? ⟨g, k, none⟩ = some (.pointer (some ⟨e.b, 0, none⟩)) ∧ w'.cell? ⟨w.heap.size, 0, none⟩ = some (.int .i64 p.flow) ∧ w'.cell? ⟨w.heap.size, 1, none⟩ = some (.int .i64 p.len) ∧ w'.cell? ⟨w.heap.size, 2, none⟩ = some (.int .i64 p.mark))) (by kernel_rfl) ?_ (fun hHeld => ?_)
    · exact ⟨c0, c1, cg, p0, p1, p2⟩
    refine wpAnyH_take (i := 0) (v := ?_) rfl (by kernel_rfl) (by kernel_rfl) (by kernel_rfl) (fun _ _ _ h => h) (Or.inl ⟨by rfl, ?_⟩) (by assumption) ?_
    rotate_left
    · intro w hSw
      (try dsimp only at hSw)
      first | (go_simp; done) | (go_simp; with_reducible rfl)
    try simp only [List.getElem_toArray, List.getElem_cons_succ, List.getElem_cons_zero, Act.put, List.setIfInBounds_toArray, List.set_cons_zero, List.set_cons_succ]
    refine wpAnyH_take (i := 1) (v := ?_) rfl (by kernel_rfl) (by kernel_rfl) (by kernel_rfl) (fun _ _ _ h => h) (Or.inl ⟨by rfl, ?_⟩) (by assumption) ?_
    rotate_left
    · intro w hSw
      (try dsimp only at hSw)
      first | (go_simp; done) | (go_simp; with_reducible rfl)
    try simp only [List.getElem_toArray, List.getElem_cons_succ, List.getElem_cons_zero, Act.put, List.setIfInBounds_toArray, List.set_cons_zero, List.set_cons_succ]
    refine wpAnyH_take (i := 2) (v := ?_) rfl (by kernel_rfl) (by kernel_rfl) (by kernel_rfl) (fun _ _ _ h => h) (Or.inl ⟨by rfl, ?_⟩) (by assumption) ?_
    rotate_left
    · intro w hSw
      (try dsimp only at hSw)
      first | (go_simp; done) | (go_simp; with_reducible rfl)
    try simp only [List.getElem_toArray, List.getElem_cons_succ, List.getElem_cons_zero, Act.put, List.setIfInBounds_toArray, List.set_cons_zero, List.set_cons_succ]
    refine wpAnyH_take (i := 3) (v := ?_) rfl (by kernel_rfl) (by kernel_rfl) (by kernel_rfl) (fun _ _ _ h => h) (Or.inl ⟨by rfl, ?_⟩) (by assumption) ?_
    rotate_left
    · intro w hSw
      (try dsimp only at hSw)
      first | (go_simp; done) | (go_simp; with_reducible rfl)
    try simp only [List.getElem_toArray, List.getElem_cons_succ, List.getElem_cons_zero, Act.put, List.setIfInBounds_toArray, List.set_cons_zero, List.set_cons_succ]
    refine wpAnyH_take (i := 4) (v := ?_) rfl (by kernel_rfl) (by kernel_rfl) (by kernel_rfl) (fun _ _ _ h => h) (Or.inl ⟨by rfl, ?_⟩) (by assumption) ?_
    rotate_left
    · intro w hSw
      (try dsimp only at hSw)
      first | (go_simp; done) | (go_simp; with_reducible rfl)
    try simp only [List.getElem_toArray, List.getElem_cons_succ, List.getElem_cons_zero, Act.put, List.setIfInBounds_toArray, List.set_cons_zero, List.set_cons_succ]
    refine wpAnyH_take (i := 5) (v := ?_) rfl (by kernel_rfl) (by kernel_rfl) (by kernel_rfl) (fun _ _ _ h => h) (Or.inl ⟨by rfl, ?_⟩) (by assumption) ?_
    rotate_left
    · intro w hSw
      (try dsimp only at hSw)
      first | (go_simp; done) | (go_simp; with_reducible rfl)
    try simp only [List.getElem_toArray, List.getElem_cons_succ, List.getElem_cons_zero, Act.put, List.setIfInBounds_toArray, List.set_cons_zero, List.set_cons_succ]
    refine wpAnyH_take (i := 6) (v := ?_) rfl (by kernel_rfl) (by kernel_rfl) (by kernel_rfl) (fun _ _ _ h => h) (Or.inl ⟨by rfl, ?_⟩) (by assumption) ?_
    rotate_left
    · intro w hSw
      (try dsimp only at hSw)
      first | (go_simp; done) | (go_simp; with_reducible rfl)
    try simp only [List.getElem_toArray, List.getElem_cons_succ, List.getElem_cons_zero, Act.put, List.setIfInBounds_toArray, List.set_cons_zero, List.set_cons_succ]
    refine wpAnyH_take (i := 7) (v := ?_) rfl (by kernel_rfl) (by kernel_rfl) (by kernel_rfl) (fun _ _ _ h => h) (Or.inl ⟨by rfl, ?_⟩) (by assumption) ?_
    rotate_left
    · intro w hSw
      (try dsimp only at hSw)
      first | (go_simp; done) | (go_simp; with_reducible rfl)
    try simp only [List.getElem_toArray, List.getElem_cons_succ, List.getElem_cons_zero, Act.put, List.setIfInBounds_toArray, List.set_cons_zero, List.set_cons_succ]
    refine wpAnyH_take (i := 8) (v := ?_) rfl (by kernel_rfl) (by kernel_rfl) (by kernel_rfl) (fun _ _ _ h => h) (Or.inl ⟨by rfl, ?_⟩) (by assumption) ?_
    rotate_left
    · intro w hSw
      (try dsimp only at hSw)
      first | (go_simp; done) | (go_simp; with_reducible rfl)
    try simp only [List.getElem_toArray, List.getElem_cons_succ, List.getElem_cons_zero, Act.put, List.setIfInBounds_toArray, List.set_cons_zero, List.set_cons_succ]
    refine wpAnyH_take (i := 9) (v := ?_) rfl (by kernel_rfl) (by kernel_rfl) (by kernel_rfl) (fun _ _ _ h => h) (Or.inl ⟨by rfl, ?_⟩) (by assumption) ?_
    rotate_left
    · intro w hSw
      (try dsimp only at hSw)
      first | (go_simp; done) | (go_simp; with_reducible rfl)
    try simp only [List.getElem_toArray, List.getElem_cons_succ, List.getElem_cons_zero, Act.put, List.setIfInBounds_toArray, List.set_cons_zero, List.set_cons_succ]
    refine wpAnyH_take (i := 10) (v := ?_) rfl (by kernel_rfl) (by kernel_rfl) (by kernel_rfl) (fun _ _ _ h => h) (Or.inl ⟨by rfl, ?_⟩) (by assumption) ?_
    rotate_left
    · intro w hSw
      (try dsimp only at hSw)
      first | (go_simp; done) | (go_simp; with_reducible rfl)
    try simp only [List.getElem_toArray, List.getElem_cons_succ, List.getElem_cons_zero, Act.put, List.setIfInBounds_toArray, List.set_cons_zero, List.set_cons_succ]
    refine wpAnyH_take (i := 11) (v := ?_) rfl (by kernel_rfl) (by kernel_rfl) (by kernel_rfl) (fun _ _ _ h => h) (Or.inl ⟨by rfl, ?_⟩) (by assumption) ?_
    rotate_left
    · intro w hSw
      (try dsimp only at hSw)
      first | (go_simp; done) | (go_simp; with_reducible rfl)
    try simp only [List.getElem_toArray, List.getElem_cons_succ, List.getElem_cons_zero, Act.put, List.setIfInBounds_toArray, List.set_cons_zero, List.set_cons_succ]
    refine wpAnyH_ready (rs := [12]) (by kernel_rfl) (by simp) ?_
    refine AllReadyH.cons rfl (fun K hK => ?_) AllReadyH.nil
    go_simp
    (go_at_call 84; refine (refArrive_any e.b e.id e.x e.G t.v p _ ((H.out.flows e hm).below (Below.refl _ _).drew) hok).mono ?_; rintro e2 w2 ⟨rfl, hp2⟩)
    refine hK.out _ _ ?_ (fun hHeld => ?_)
    · exact ⟨(hp2.2.cell (by exact Nat.lt_of_lt_of_le (hF b H0.out.hb) hb1.size) hnb).trans c0, (hp2.2.cell (by exact Nat.lt_of_lt_of_le (hF b H0.out.hb) hb1.size) hnb).trans c1, (hp2.2.cell (by exact hgl) hng).trans cg, (hp2.2.cell (by exact hlt) hnp).trans p0, (hp2.2.cell (by exact hlt) hnp).trans p1, (hp2.2.cell (by exact hlt) hnp).trans p2⟩
    clear hK K
    try simp only [List.getElem_toArray, List.getElem_cons_succ, List.getElem_cons_zero, Act.put, List.setIfInBounds_toArray, List.set_cons_zero, List.set_cons_succ]
    refine wpAnyH_take (i := 13) (v := ?_) rfl (by kernel_rfl) (by kernel_rfl) (by kernel_rfl) (fun _ _ _ h => h) (Or.inl ⟨by rfl, ?_⟩) (by assumption) ?_
    rotate_left
    · intro w hSw
      (try dsimp only at hSw)
      first | (go_simp; done) | (go_simp; with_reducible rfl)
    try simp only [List.getElem_toArray, List.getElem_cons_succ, List.getElem_cons_zero, Act.put, List.setIfInBounds_toArray, List.set_cons_zero, List.set_cons_succ]
    refine wpAnyH_done (by kernel_rfl) ?_ _
    obtain ⟨hR, hF2⟩ := (H.out.below (Below.refl _ _).drew).turned hm hp2 (FlS.arrive_ok hok hv hp)
    have hfin : RfsPost b { t with fs := setF (l.map FlR.pl) p.flow (e.x.arrive t.v p) } F w w2 := by
      rw [hid] at hR
      exact ⟨⟨_, setR_pl _ _ _ _, hR.mono (fun k hk => hk.imp id fun hk => ⟨Nat.le_trans hb1.size hk.1, hk.2⟩) (hF.ext (Nat.le_trans hb1.size hF2.size))⟩, Fr.after_below hb1.drew hF2⟩
    clear hR hF2 hp2 hHeld
    cases hfu : e.x.full
    · go_wp2
      go_ret
      exact ⟨by rw [← hR9, hfu]; rfl, by simpa only [hl] using hfin⟩
    · go_wp2
      go_ret
      exact ⟨by rw [← hR9, hfu]; rfl, by simpa only [hl] using hfin⟩
  · have hg := posR_none hpos
    have hA1 : atR l p.flow = -1 := by unfold atR; rw [if_neg hpos]
    rw [hA1] at hA
    rw [hg]
    clear h h1 hpos hA1 hg
    simp only [Option.map_none]
    go_enter Tryz.func49, Tryz.ntmps49
    go_wp2_with fail
    refine hA.mono ?_
    rintro e' w' ⟨rfl, rfl⟩
    go_wp2
    go_ret
    exact ⟨rfl, RfsAt.still ⟨l, hl, H0.out⟩ hb1⟩
end Go.Proofs.YtdjooacjjnjfmaaGreat
end

-- The reference's flows: one packet served.
section
namespace Go.Proofs.YtdjooacjjnjfmaaGreat
set_option linter.unusedVariables false
set_option linter.unusedSimpArgs false
set_option maxRecDepth 20000
open Go.RowKit Go.Proofs.YtdjooacjjnjfmaaGreatMem Go.Proofs.YtdjooacjjnjfmaaGreatMapK

theorem below_drewN (w : World) (n : Nat) : Below w.heap.size w (w.drewN n) := by
  induction n with
  | zero => exact Below.refl _ _
  | succ n ih => exact ih.drew
theorem refServe_any (b : Nat) (id : Int) (x : FlS) (F : Nat → Prop) (w : World) (h : RefAt w b id x F) (ok : x.Ok) :
    Calls Tryz.prog 109 #[.pointer (some ⟨b, 0, none⟩)] w fun e w' => e = .returned (.tuple #[x.head.val, .int .u64 x.out, .bool x.has]) ∧ RefPost b id x.serve F w w' := by
  cases hl : x.l with
  | nil =>
    have h1 : x.head = Pk.zero := by unfold FlS.head; rw [hl]
    have h2 : x.out = 0 := by unfold FlS.out; rw [hl]
    have h3 : x.has = false := by unfold FlS.has; rw [hl]; rfl
    have h4 : x.serve = x := by unfold FlS.serve; rw [hl]
    rw [h1, h2, h3, h4]
    exact (refServe_none b id x F w h hl).mono fun e w' hh => ⟨hh.1, RefPost.of_below h hh.2⟩
  | cons p rest =>
    have h1 : x.head = p := by unfold FlS.head; rw [hl]
    have h2 : x.out = x.fin p := by unfold FlS.out; rw [hl]
    have h3 : x.has = true := by unfold FlS.has; rw [hl]; rfl
    have h4 : x.serve = { x with finish := x.fin p, start := x.fin p, l := rest } := by unfold FlS.serve; rw [hl]
    rw [h1, h2, h3, h4]
    exact refServe_some b id x F w p rest h ok hl

theorem RfR.cells2 {w : World} {b : Nat} {v most : Int} {l : List FlR} {F : Nat → Prop} (h : RfR w b v most l F) {k : Nat} {e : FlR} (he : l[k]? = some e) :
    ∃ a c, w.cell? ⟨e.b, 3, none⟩ = some (.slice a e.x.l.length c) ∧ w.cell? ⟨e.b, 4, none⟩ = some (.int .u64 e.x.start) := by
  obtain ⟨ao2, cap2, B, -⟩ := h.flows e (List.mem_of_getElem? he)
  have c3 := B.cell 3
  have c4 := B.cell 4
  simp only [List.getElem?_cons_succ, List.getElem?_cons_zero] at c3 c4
  exact ⟨_, _, c3, c4⟩
theorem RfR.setV {w : World} {b : Nat} {v most : Int} {l : List FlR} {F : Nat → Prop} (h : RfR w b v most l F) (x : Int) : RfR (w.setCell ⟨b, 1, none⟩ (.int .u64 x)) b x most l F ∧ Fr F w (w.setCell ⟨b, 1, none⟩ (.int .u64 x)) := by
  have hf : Fr (fun k => k = b) w (w.setCell ⟨b, 1, none⟩ (.int .u64 x)) := Fr.setCell (S := fun k => k = b) (a := ⟨b, 1, none⟩) (Fr.refl _ w) (.inl rfl) _
  obtain ⟨ao, cap, h1, h2, h3⟩ := h.row
  refine ⟨{ row := ⟨ao, cap, h1.set 1 _, owns_fr h2 hf fun k hk => ?_, h3⟩, flows := fun e he => (h.flows e he).fr hf fun k hk e' => (h.sub e he k hk).2 e', hb := h.hb, sub := h.sub, disj := h.disj, lt := h.lt.mono hf.size, ok := h.ok, rise := h.rise }, Fr.setCell (S := F) (a := ⟨b, 1, none⟩) (Fr.refl _ w) (.inl h.hb) _⟩
  cases ao with
  | none => cases hk
  | some a => cases hk; exact (h3 a rfl).2.1
theorem RfR.setMost {w : World} {b : Nat} {v most : Int} {l : List FlR} {F : Nat → Prop} (h : RfR w b v most l F) (x : Int) : RfR (w.setCell ⟨b, 2, none⟩ (.int .u64 x)) b v x l F ∧ Fr F w (w.setCell ⟨b, 2, none⟩ (.int .u64 x)) := by
  have hf : Fr (fun k => k = b) w (w.setCell ⟨b, 2, none⟩ (.int .u64 x)) := Fr.setCell (S := fun k => k = b) (a := ⟨b, 2, none⟩) (Fr.refl _ w) (.inl rfl) _
  obtain ⟨ao, cap, h1, h2, h3⟩ := h.row
  refine ⟨{ row := ⟨ao, cap, h1.set 2 _, owns_fr h2 hf fun k hk => ?_, h3⟩, flows := fun e he => (h.flows e he).fr hf fun k hk e' => (h.sub e he k hk).2 e', hb := h.hb, sub := h.sub, disj := h.disj, lt := h.lt.mono hf.size, ok := h.ok, rise := h.rise }, Fr.setCell (S := F) (a := ⟨b, 2, none⟩) (Fr.refl _ w) (.inl h.hb) _⟩
  cases ao with
  | none => cases hk
  | some a => cases hk; exact (h3 a rfl).2.1

/-- The best place among the first k. -/
def BestR (l : List FlR) (k : Nat) (B : Int) : Prop :=
  (B = -1 ∧ ∀ i e, i < k → l[i]? = some e → e.x.has = false) ∨
  ∃ (j : Nat) (ej : FlR), B = j ∧ j < k ∧ l[j]? = some ej ∧ ej.x.has = true ∧ ∀ i e, i < k → l[i]? = some e → e.x.has = true → ej.x.start < e.x.start ∨ (ej.x.start = e.x.start ∧ j ≤ i)
theorem BestR.zero (l : List FlR) : BestR l 0 (-1) := .inl ⟨rfl, fun i e h => by omega⟩
theorem lt_succ {i k : Nat} (h : i < k + 1) : i < k ∨ i = k := by omega
theorem BestR.no {l : List FlR} {k : Nat} {B : Int} {e : FlR} (h : BestR l k B) (he : l[k]? = some e) (hh : e.x.has = false) : BestR l (k + 1) B := by
  rcases h with ⟨h1, h2⟩ | ⟨j, ej, h1, h2, h3, h4, h5⟩
  · refine .inl ⟨h1, fun i e' hi he' => ?_⟩
    rcases lt_succ hi with hi | rfl
    · exact h2 i e' hi he'
    · rw [he] at he'; cases he'; exact hh
  · refine .inr ⟨j, ej, h1, by omega, h3, h4, fun i e' hi he' hh' => ?_⟩
    rcases lt_succ hi with hi | rfl
    · exact h5 i e' hi he' hh'
    · rw [he] at he'; cases he'; rw [hh] at hh'; cases hh'
theorem BestR.first {l : List FlR} {k : Nat} {B : Int} {e : FlR} (h : BestR l k B) (hB : B < 0) (he : l[k]? = some e) (hh : e.x.has = true) : BestR l (k + 1) k := by
  rcases h with ⟨h1, h2⟩ | ⟨j, ej, h1, h2, h3, h4, h5⟩
  · refine .inr ⟨k, e, rfl, by omega, he, hh, fun i e' hi he' hh' => ?_⟩
    rcases lt_succ hi with hi | rfl
    · rw [h2 i e' hi he'] at hh'; cases hh'
    · rw [he] at he'; cases he'; exact .inr ⟨rfl, Nat.le_refl _⟩
  · omega
theorem BestR.less {l : List FlR} {k j : Nat} {e ej : FlR} (h : BestR l k j) (hj : l[j]? = some ej) (he : l[k]? = some e) (hh : e.x.has = true) (hl : e.x.start < ej.x.start) : BestR l (k + 1) k := by
  rcases h with ⟨h1, h2⟩ | ⟨j', ej', h1, h2, h3, h4, h5⟩
  · omega
  · have : j' = j := by omega
    subst this
    rw [hj] at h3; cases h3
    refine .inr ⟨k, e, rfl, by omega, he, hh, fun i e' hi he' hh' => ?_⟩
    rcases lt_succ hi with hi | rfl
    · have := h5 i e' hi he' hh'; omega
    · rw [he] at he'; cases he'; exact .inr ⟨rfl, Nat.le_refl _⟩
theorem BestR.keep {l : List FlR} {k j : Nat} {e ej : FlR} (h : BestR l k j) (hj : l[j]? = some ej) (he : l[k]? = some e) (hl : ¬ e.x.start < ej.x.start) : BestR l (k + 1) j := by
  rcases h with ⟨h1, h2⟩ | ⟨j', ej', h1, h2, h3, h4, h5⟩
  · omega
  · have : j' = j := by omega
    subst this
    rw [hj] at h3; cases h3
    refine .inr ⟨j', ej, rfl, by omega, hj, h4, fun i e' hi he' hh' => ?_⟩
    rcases lt_succ hi with hi | rfl
    · exact h5 i e' hi he' hh'
    · rw [he] at he'; cases he'; omega
theorem BestR.got {l : List FlR} {k : Nat} {B : Int} (h : BestR l k B) (hB : ¬ B < 0) : ∃ (j : Nat) (ej : FlR), B = j ∧ j < k ∧ l[j]? = some ej ∧ ej.x.has = true := by
  rcases h with ⟨h1, h2⟩ | ⟨j, ej, h1, h2, h3, h4, h5⟩
  · omega
  · exact ⟨j, ej, h1, h2, h3, h4⟩
theorem entR_mem {l : List FlR} {p : Int × Int} (h : p ∈ entR l) : ∃ e ∈ l, e.x.has = true ∧ p = (e.x.start, e.id) := by
  obtain ⟨q, hq, h1, h2⟩ := entL_mem h
  obtain ⟨e, he, rfl⟩ := List.mem_map.1 hq
  exact ⟨e, he, h1, h2⟩
theorem entR_in {l : List FlR} {e : FlR} (he : e ∈ l) (hh : e.x.has = true) : (e.x.start, e.id) ∈ entR l :=
  List.mem_map.2 ⟨e.pl, List.mem_filter.2 ⟨List.mem_map.2 ⟨e, he, rfl⟩, hh⟩, rfl⟩
theorem BestR.none_ {l : List FlR} {B : Int} (h : BestR l l.length B) (hB : B < 0) : entR l = [] := by
  rcases h with ⟨h1, h2⟩ | ⟨j, ej, h1, h2, h3, h4, h5⟩
  · cases hx : entR l with
    | nil => rfl
    | cons p r =>
      obtain ⟨e, he, hh, -⟩ := entR_mem (p := p) (l := l) (by rw [hx]; exact List.mem_cons_self ..)
      obtain ⟨i, hi⟩ := List.getElem?_of_mem he
      have hlt : i < l.length := by
        rcases Nat.lt_or_ge i l.length with h | h
        · exact h
        · rw [List.getElem?_eq_none h] at hi; cases hi
      rw [h2 i e hlt hi] at hh; cases hh
  · omega
theorem rise_lt {l : List FlR} (h : l.Pairwise fun e e' => e.id < e'.id) {i j : Nat} {e e' : FlR} (hi : l[i]? = some e) (hj : l[j]? = some e') (hij : i < j) : e.id < e'.id := by
  have h1 : i < l.length := by
    rcases Nat.lt_or_ge i l.length with h | h
    · exact h
    · rw [List.getElem?_eq_none h] at hi; cases hi
  have h2 : j < l.length := by
    rcases Nat.lt_or_ge j l.length with h | h
    · exact h
    · rw [List.getElem?_eq_none h] at hj; cases hj
  rw [List.getElem?_eq_getElem h1] at hi
  rw [List.getElem?_eq_getElem h2] at hj
  cases hi; cases hj
  exact List.pairwise_iff_getElem.1 h i j h1 h2 hij
theorem BestR.isFirst {l : List FlR} (hr : l.Pairwise fun e e' => e.id < e'.id) {j : Nat} {ej : FlR} (h : BestR l l.length j) (hj : l[j]? = some ej) : IsFirst (entR l) (ej.x.start, ej.id) := by
  rcases h with ⟨h1, h2⟩ | ⟨j', ej', h1, h2, h3, h4, h5⟩
  · omega
  · have : j' = j := by omega
    subst this
    rw [hj] at h3; cases h3
    refine ⟨entR_in (List.mem_of_getElem? hj) h4, fun p hp => ?_⟩
    obtain ⟨e, he, hh, rfl⟩ := entR_mem hp
    obtain ⟨i, hi⟩ := List.getElem?_of_mem he
    have hlt : i < l.length := by
      rcases Nat.lt_or_ge i l.length with h | h
      · exact h
      · rw [List.getElem?_eq_none h] at hi; cases hi
    have hc := h5 i e hlt hi hh
    unfold aheadE aheadB
    simp only [decide_eq_false_iff_not]
    rcases hc with hc | ⟨hc, hle⟩
    · omega
    · rcases Nat.lt_or_ge j' i with hlt' | hge
      · have := rise_lt hr hj hi hlt'; omega
      · have : i = j' := by omega
        subst this
        rw [hj] at hi; cases hi; omega
end Go.Proofs.YtdjooacjjnjfmaaGreat
end

-- The reference's flows: one packet served, the walk.
section
namespace Go.Proofs.YtdjooacjjnjfmaaGreat
set_option linter.unusedVariables false
set_option linter.unusedSimpArgs false
set_option maxRecDepth 20000
open Go.RowKit Go.Proofs.YtdjooacjjnjfmaaGreatMem Go.Proofs.YtdjooacjjnjfmaaGreatMapK

theorem drewN_drewN (w : World) (n m : Nat) : (w.drewN n).drewN m = w.drewN (n + m) := by
  induction m with
  | zero => rfl
  | succ m ih => show ((w.drewN n).drewN m).drew = _; rw [ih]; rfl
theorem RfsAt.serve_eq {l : List FlR} {t : SfS} (hl : l.map FlR.pl = t.fs) : entL t.fs = entR l := by unfold entR; rw [hl]

set_option maxHeartbeats 2000000 in
theorem serveR_any (b : Nat) (t : SfS) (F : Nat → Prop) (w : World) (h : RfsAt w b t F) :
    Calls Tryz.prog 85 #[.pointer (some ⟨b, 0, none⟩)] w fun e w' => e = .returned (.tuple #[t.head.val, .bool t.has]) ∧ RfsPost b t.serve F w w' := by
  obtain ⟨l, hl, h⟩ := h
  have hF := h.lt
  have hb0 := below1 w (.cells #[.int .i64 0, .int .i64 0, .int .i64 0] 59)
  have h0 := h.below hb0
  have B0 := Blk.new w [.int .i64 0, .int .i64 0, .int .i64 0] 59
  have hbb := h.hb
  generalize hW0 : w.alloc (.cells #[.int .i64 0, .int .i64 0, .int .i64 0] 59) = w0 at *
  obtain ⟨ao, cap, c0, c1, c2, hc, hl63, hnil, hat⟩ := h0.cells
  have hbl := h0.lt b h0.hb
  have HA := Lib.hid hat
  have HL := Lib.hid hl
  have H0 := Lib.hid h0
  have HB := Lib.hid B0
  obtain ⟨n, hn⟩ : ∃ n, l.length = n := ⟨_, rfl⟩
  rw [hn] at c0 hc hl63 hnil
  have HN := Lib.hid hn
  clear hat hl h h0 B0 hn
  go_enter Tryz.func85, Tryz.ntmps85
  go_upto_region 1 with fail
  clear hW0
  go_wp2_with fail
  go_loopw [4, 5] (fun v4 v5 wr => ∃ (k : Nat) (B : Int), k ≤ n ∧ v5 = .int .i64 k ∧ v4 = .int .i64 B ∧ BestR l k B ∧ ∃ q, wr = w0.drewN q) (fun _ v5 _ => n - (intOf v5).toNat)
  case atStart => exact ⟨0, -1, Nat.zero_le _, rfl, rfl, BestR.zero l, 0, rfl⟩
  case round =>
    obtain ⟨k, B, hk, rfl, rfl, hB, q, hq⟩ := hrel
    have HQ := Lib.hid hq
    have hbq := below_drewN w0 q
    rw [← hq] at hbq
    have HBQ := Lib.hid hbq
    have c0 := (hbq.cell (p := ⟨b, 0, none⟩) hbl).trans c0
    have c1 := (hbq.cell (p := ⟨b, 1, none⟩) hbl).trans c1
    have c2 := (hbq.cell (p := ⟨b, 2, none⟩) hbl).trans c2
    have hbl := Nat.lt_of_lt_of_le hbl hbq.size
    clear hq hbq
    by_cases hkn : k < n
    · obtain ⟨e, he⟩ : ∃ e, l[k]? = some e := ⟨l[k]'(by rw [HN.out]; exact hkn), List.getElem?_eq_getElem _⟩
      obtain ⟨g, rfl, hg, cg, ci, heb⟩ := HA.out k e he
      obtain ⟨a3, c3', d3, d4⟩ := H0.out.cells2 he
      have cg := (HBQ.out.cell (p := ⟨g, k, none⟩) hg).trans cg
      have d3 := (HBQ.out.cell (p := ⟨e.b, 3, none⟩) heb).trans d3
      have d4 := (HBQ.out.cell (p := ⟨e.b, 4, none⟩) heb).trans d4
      have i1 : (k : Int) < (n : Int) := by omega
      have HE := Lib.hid he
      have HBR := Lib.hid hB
      clear he hB ci
      cases hh : e.x.has with
      | false =>
        have hl0 : e.x.l.length = 0 := by
          unfold FlS.has at hh
          simp only [Bool.not_eq_false', List.isEmpty_iff] at hh
          rw [hh]; rfl
        rw [hl0] at d3
        have HH := Lib.hid hh
        clear hh hl0
        go_wp2_with fail
        go_quiet (fail)
        go_wp2
        go_roundw
        case rel => exact ⟨k + 1, B, by omega, by go_num, rfl, HBR.out.no HE.out HH.out, q + nq, by rw [HQ.out]; exact drewN_drewN _ _ _⟩
        case measure => simp [intOf]; omega
      | true =>
        have hl0 : 0 < e.x.l.length := by
          unfold FlS.has at hh
          simp only [Bool.not_eq_true', List.isEmpty_eq_false_iff] at hh
          exact List.length_pos_iff.2 hh
        have hd : decide ((0 : Int) < (e.x.l.length : Int)) = true := decide_eq_true (by omega)
        have HH := Lib.hid hh
        clear hh
        by_cases hB0 : B < 0
        · have hd2 : decide (B < 0) = true := decide_eq_true hB0
          go_wp2_with fail
          go_quiet (fail)
          go_wp2
          go_roundw
          case rel => exact ⟨k + 1, k, by omega, by go_num, rfl, HBR.out.first hB0 HE.out HH.out, q + nq, by rw [HQ.out]; exact drewN_drewN _ _ _⟩
          case measure => simp [intOf]; omega
        · obtain ⟨j, ej, rfl, hjk, hj, hjh⟩ := HBR.out.got hB0
          have hd2 : decide ((j : Int) < 0) = false := decide_eq_false hB0
          have j1 : (j : Int) < (n : Int) := by omega
          obtain ⟨g', e', hg', cj, -, hejb⟩ := HA.out j ej hj
          simp only [Option.some.injEq, Addr.mk.injEq, and_true] at e'
          subst e'
          obtain ⟨a5, c5', -, d5⟩ := H0.out.cells2 hj
          have cj := (HBQ.out.cell (p := ⟨g, j, none⟩) hg').trans cj
          have d5 := (HBQ.out.cell (p := ⟨ej.b, 4, none⟩) hejb).trans d5
          have HJ := Lib.hid hj
          clear hj
          by_cases hlt : e.x.start < ej.x.start
          · have hd3 : decide (e.x.start < ej.x.start) = true := decide_eq_true hlt
            go_wp2_with fail
            go_quiet (fail)
            go_wp2
            go_roundw
            case rel => exact ⟨k + 1, k, by omega, by go_num, rfl, HBR.out.less HJ.out HE.out HH.out hlt, q + nq, by rw [HQ.out]; exact drewN_drewN _ _ _⟩
            case measure => simp [intOf]; omega
          · have hd3 : decide (e.x.start < ej.x.start) = false := decide_eq_false hlt
            go_wp2_with fail
            go_quiet (fail)
            go_wp2
            go_roundw
            case rel => exact ⟨k + 1, j, by omega, by go_num, rfl, HBR.out.keep HJ.out HE.out (Int.not_lt.2 hlt), q + nq, by rw [HQ.out]; exact drewN_drewN _ _ _⟩
            case measure => simp [intOf]; omega
    · obtain rfl : k = n := by omega
      have HR := Lib.hid (H0.out.below HBQ.out)
      have BR := Lib.hid (HB.out.below HBQ.out)
      have HBR := Lib.hid hB
      have hbw0 : b ≠ w.heap.size := by have := hF b hbb; omega
      have hbr := Lib.hid (hb0.trans (HBQ.out.mono hb0.size))
      clear hB hnil
      by_cases hB0 : B < 0
      · have hd2 : decide (B < 0) = true := decide_eq_true hB0
        have he : entL t.fs = [] := by rw [RfsAt.serve_eq HL.out]; exact (show BestR l l.length B by rw [HN.out]; exact HBR.out).none_ hB0
        have e1 : t.head = Pk.zero := by unfold SfS.head; rw [if_pos he]
        have e2 : t.has = false := by unfold SfS.has; rw [he]; rfl
        have e3 : t.serve = { t with v := max t.v t.most } := by unfold SfS.serve; rw [if_pos he]
        have E1 := Lib.hid e1
        have E2 := Lib.hid e2
        have E3 := Lib.hid e3
        clear e1 e2 e3 he
        have hcase : (t.v < t.most ∧ max t.v t.most = t.most) ∨ (t.most ≤ t.v ∧ max t.v t.most = t.v) := by omega
        have z1 : wr.frozen? ⟨b, 1, none⟩ = false := by obtain ⟨ao, cap, h1, -⟩ := HR.out.row; exact h1.frozen 1
        rcases hcase with ⟨hv, hm⟩ | ⟨hv, hm⟩
        · have HM := Lib.hid hm
          clear hm
          go_wp2_with fail
          go_region
          obtain ⟨hR2, hF2⟩ := HR.out.setV t.most
          replace hR2 := hR2.below (Below.refl _ _).drew
          replace hF2 := hF2.drew
          have B2 := (BR.out.set_far (a := ⟨b, 1, none⟩) (fun e => hbw0 e.symm) (.int .u64 t.most)).drew
          generalize (wr.setCell ⟨b, 1, none⟩ (.int .u64 t.most)).drew = W2 at *
          have y0 := B2.cell 0
          have y1 := B2.cell 1
          have y2 := B2.cell 2
          have x0 := B2.frozen 0
          have x1 := B2.frozen 1
          have x2 := B2.frozen 2
          simp only [List.getElem?_cons_succ, List.getElem?_cons_zero] at y0 y1 y2
          have HR2 := Lib.hid hR2
          have HF2 := Lib.hid hF2
          clear hR2 hF2 B2 c0 c1 c2 z1
          go_wp2
          refine bodyPost_ret (v := .tuple #[.agg #[.int .i64 0, .int .i64 0, .int .i64 0], .bool false]) (by simp [results, Tryz.results85, go_sem, y0, y1, y2, x0, x1, x2]) rfl ⟨by rw [E1.out, E2.out]; rfl, ?_⟩
          rw [E3.out, HM.out]
          have hS : Fr (fun k => k = w.heap.size) W2 (((W2.setCell ⟨w.heap.size, 0, none⟩ (.int .i64 0)).setCell ⟨w.heap.size, 1, none⟩ (.int .i64 0)).setCell ⟨w.heap.size, 2, none⟩ (.int .i64 0)) :=
            Fr.setCell (S := fun k => k = w.heap.size) (a := ⟨w.heap.size, 2, none⟩) (Fr.setCell (S := fun k => k = w.heap.size) (a := ⟨w.heap.size, 1, none⟩) (Fr.setCell (S := fun k => k = w.heap.size) (a := ⟨w.heap.size, 0, none⟩) (Fr.refl _ _) (.inl rfl) _) (.inl rfl) _) (.inl rfl) _
          have hT : Fr F w (((W2.setCell ⟨w.heap.size, 0, none⟩ (.int .i64 0)).setCell ⟨w.heap.size, 1, none⟩ (.int .i64 0)).setCell ⟨w.heap.size, 2, none⟩ (.int .i64 0)) :=
            (((Fr.after_below hbr.out HF2.out).setCell (a := ⟨w.heap.size, 0, none⟩) (.inr (Nat.le_refl _)) _).setCell (a := ⟨w.heap.size, 1, none⟩) (.inr (Nat.le_refl _)) _).setCell (a := ⟨w.heap.size, 2, none⟩) (.inr (Nat.le_refl _)) _
          refine ⟨⟨l, HL.out, (HR2.out.fr hS fun k hk e => ?_).mono (fun k hk => .inl hk) (hF.ext hT.size)⟩, hT⟩
          have := hF k hk
          omega
        · have HM := Lib.hid hm
          clear hm
          go_wp2_with fail
          go_region
          obtain ⟨hR2, hF2⟩ := HR.out.setV t.v
          replace hR2 := hR2.below (Below.refl _ _).drew
          replace hF2 := hF2.drew
          have B2 := (BR.out.set_far (a := ⟨b, 1, none⟩) (fun e => hbw0 e.symm) (.int .u64 t.v)).drew
          generalize (wr.setCell ⟨b, 1, none⟩ (.int .u64 t.v)).drew = W2 at *
          have y0 := B2.cell 0
          have y1 := B2.cell 1
          have y2 := B2.cell 2
          have x0 := B2.frozen 0
          have x1 := B2.frozen 1
          have x2 := B2.frozen 2
          simp only [List.getElem?_cons_succ, List.getElem?_cons_zero] at y0 y1 y2
          have HR2 := Lib.hid hR2
          have HF2 := Lib.hid hF2
          clear hR2 hF2 B2 c0 c1 c2 z1
          go_wp2
          refine bodyPost_ret (v := .tuple #[.agg #[.int .i64 0, .int .i64 0, .int .i64 0], .bool false]) (by simp [results, Tryz.results85, go_sem, y0, y1, y2, x0, x1, x2]) rfl ⟨by rw [E1.out, E2.out]; rfl, ?_⟩
          rw [E3.out, HM.out]
          have hS : Fr (fun k => k = w.heap.size) W2 (((W2.setCell ⟨w.heap.size, 0, none⟩ (.int .i64 0)).setCell ⟨w.heap.size, 1, none⟩ (.int .i64 0)).setCell ⟨w.heap.size, 2, none⟩ (.int .i64 0)) :=
            Fr.setCell (S := fun k => k = w.heap.size) (a := ⟨w.heap.size, 2, none⟩) (Fr.setCell (S := fun k => k = w.heap.size) (a := ⟨w.heap.size, 1, none⟩) (Fr.setCell (S := fun k => k = w.heap.size) (a := ⟨w.heap.size, 0, none⟩) (Fr.refl _ _) (.inl rfl) _) (.inl rfl) _) (.inl rfl) _
          have hT : Fr F w (((W2.setCell ⟨w.heap.size, 0, none⟩ (.int .i64 0)).setCell ⟨w.heap.size, 1, none⟩ (.int .i64 0)).setCell ⟨w.heap.size, 2, none⟩ (.int .i64 0)) :=
            (((Fr.after_below hbr.out HF2.out).setCell (a := ⟨w.heap.size, 0, none⟩) (.inr (Nat.le_refl _)) _).setCell (a := ⟨w.heap.size, 1, none⟩) (.inr (Nat.le_refl _)) _).setCell (a := ⟨w.heap.size, 2, none⟩) (.inr (Nat.le_refl _)) _
          refine ⟨⟨l, HL.out, (HR2.out.fr hS fun k hk e => ?_).mono (fun k hk => .inl hk) (hF.ext hT.size)⟩, hT⟩
          have := hF k hk
          omega
      · obtain ⟨j, ej, rfl, hjk, hj, hjh⟩ := HBR.out.got hB0
        have hd2 : decide ((j : Int) < 0) = false := decide_eq_false hB0
        have hfi : IsFirst (entR l) (ej.x.start, ej.id) := (show BestR l l.length j by rw [HN.out]; exact HBR.out).isFirst HR.out.rise hj
        have hm := List.mem_of_getElem? hj
        have hne : entL t.fs ≠ [] := fun e0 => by rw [RfsAt.serve_eq HL.out] at e0; have := hfi.1; rw [e0] at this; cases this
        have hfirst : t.first = (ej.x.start, ej.id) := by
          unfold SfS.first
          rw [RfsAt.serve_eq HL.out] at hne ⊢
          exact (minK_isFirst hne).unique hfi
        have hget : getF t.fs ej.id = some ej.x := by
          rw [← HL.out, getF_pl]
          cases hg : getR l ej.id with
          | none => exact absurd rfl (getR_none.1 hg ej hm)
          | some e' => obtain ⟨h3, h4⟩ := getR_some hg; rw [HR.out.same h3 hm h4]; rfl
        have e1 : t.head = ej.x.head := by unfold SfS.head; rw [if_neg hne, hfirst]; simp only; rw [hget]
        have e2 : t.has = true := by
          unfold SfS.has
          cases hx : entL t.fs with
          | nil => exact absurd hx hne
          | cons _ _ => rfl
        have e3 : t.serve = ⟨ej.x.start, max t.most ej.x.out, setF t.fs ej.id ej.x.serve⟩ := by unfold SfS.serve; rw [if_neg hne, hfirst]; simp only; rw [hget]
        have E1 := Lib.hid e1
        have E2 := Lib.hid e2
        have E3 := Lib.hid e3
        have hok := HR.out.ok ej hm
        obtain ⟨g, rfl, hg, cg, -, hejb⟩ := HA.out j ej hj
        have cg := (HBQ.out.cell (p := ⟨g, j, none⟩) hg).trans cg
        obtain ⟨a3, c3', -, d4⟩ := H0.out.cells2 hj
        have d4 := (HBQ.out.cell (p := ⟨ej.b, 4, none⟩) hejb).trans d4
        have j1 : (j : Int) < (k : Int) := by omega
        obtain ⟨ao2, cap2, h1, -, h3⟩ := HR.out.row
        have q0 := h1.cell 0
        simp only [List.getElem?_cons_zero] at q0
        have q1 := c0.symm.trans q0
        simp only [Option.some.injEq, Value.slice.injEq] at q1
        have hgb : g ≠ b := (h3 _ q1.1.symm).2.1
        have z1 : wr.frozen? ⟨b, 1, none⟩ = false := h1.frozen 1
        have c04 : (wr.setCell ⟨b, 1, none⟩ (.int .u64 ej.x.start)).cell? ⟨b, 0, none⟩ = some (.slice (some ⟨g, 0, none⟩) k cap) := by
          have := (h1.set 1 (.int .u64 ej.x.start)).cell 0
          simp only [List.set_cons_succ, List.set_cons_zero, List.getElem?_cons_zero] at this
          rw [this, ← q1.1, ← q1.2.2, HN.out]
        have c24 : (wr.setCell ⟨b, 1, none⟩ (.int .u64 ej.x.start)).cell? ⟨b, 2, none⟩ = some (.int .u64 t.most) := by
          have := (h1.set 1 (.int .u64 ej.x.start)).cell 2
          simpa using this
        clear e1 e2 e3 hfirst hget hne hfi h1 h3 q0 q1
        go_upto_region 11 with fail
        obtain ⟨hR4, hF4⟩ := HR.out.setV ej.x.start
        have B4 := BR.out.set_far (a := ⟨b, 1, none⟩) (fun e => hbw0 e.symm) (.int .u64 ej.x.start)
        have hF5 := Fr.after_below hbr.out hF4
        have cg : (wr.setCell ⟨b, 1, none⟩ (.int .u64 ej.x.start)).cell? ⟨g, j, none⟩ = some (.pointer (some ⟨ej.b, 0, none⟩)) := by rw [World.cell?_of_block (a := ⟨g, j, none⟩) (Below.heap_setCell wr ⟨b, 1, none⟩ _ g hgb)]; exact cg
        generalize wr.setCell ⟨b, 1, none⟩ (.int .u64 ej.x.start) = W4 at *
        have HR4 := Lib.hid hR4
        clear hR4 z1 d4 c0 c1 c2
        go_wp2_with fail
        refine (refServe_any ej.b ej.id ej.x ej.G _ (HR4.out.flows ej hm) hok).mono ?_
        unfold Pk.val
        rintro e5 w5 ⟨rfl, hp5⟩
        obtain ⟨hR5, hF6⟩ := HR4.out.turned hm hp5 (FlS.serve_ok hok)
        have hnw : ¬ ej.G w.heap.size := fun hk => by have := hF _ (HR4.out.sub ej hm _ hk).1; omega
        have B5 := B4.of_eq (hp5.2.block _ B4.lt hnw)
        have hb6 := below1 w5 (.cells #[.int .i64 ej.x.head.flow, .int .i64 ej.x.head.len, .int .i64 ej.x.head.mark] 59)
        have hR6 := hR5.below hb6
        have Br := B5.below hb6
        have Bp := Blk.new w5 [.int .i64 ej.x.head.flow, .int .i64 ej.x.head.len, .int .i64 ej.x.head.mark] 59
        have hF7 := hF5.trans hF6 fun _ _ h => h
        have hF8 := hF7.then_below hb6
        have hs5 := hF5.size
        have hs6 := hF6.size
        have hs7 := hF8.size
        have hcase : (t.most < ej.x.out ∧ max t.most ej.x.out = ej.x.out) ∨ (ej.x.out ≤ t.most ∧ max t.most ej.x.out = t.most) := by omega
        go_upto_region 12 with fail
        have hbx : w5.heap.size < (w5.alloc (.cells #[.int .i64 ej.x.head.flow, .int .i64 ej.x.head.len, .int .i64 ej.x.head.mark] 59)).heap.size := by simp
        have hlw := B5.lt
        have hl45 : W4.heap.size ≤ w5.heap.size := hs6
        have hlw4 := B4.lt
        generalize hB6 : w5.heap.size = b6 at *
        have HB6 := Lib.hid hB6
        clear hB6
        generalize w5.alloc (.cells #[.int .i64 ej.x.head.flow, .int .i64 ej.x.head.len, .int .i64 ej.x.head.mark] 59) = W6 at *
        obtain ⟨ao6, cap6, r6, -⟩ := hR6.row
        have k2 := r6.cell 2
        have z2 := r6.frozen 2
        have hl6 := r6.lt
        simp only [List.getElem?_cons_succ, List.getElem?_cons_zero] at k2
        have HR6 := Lib.hid hR6
        have hbb6 : b ≠ b6 := by have := hF b hbb; omega
        have BR := Lib.hid Br
        have BP := Lib.hid Bp
        have HF8 := Lib.hid hF8
        clear hR6 r6 hR5 hF5 hF6 hF7 hF8 Br Bp B5 B4 c04 c24 hb6 hp5 cg
        rcases hcase with ⟨hv, hmx⟩ | ⟨hv, hmx⟩
        · have HM := Lib.hid hmx
          clear hmx
          go_upto_region 13 with fail
          obtain ⟨hR9, hF9⟩ := HR6.out.setMost ej.x.out
          have Bp := BP.out.set_far (a := ⟨b, 2, none⟩) (fun e => hbb6 e.symm) (.int .u64 ej.x.out)
          have Br := BR.out.set_far (a := ⟨b, 2, none⟩) (fun e => hbw0 e.symm) (.int .u64 ej.x.out)
          have hfr := HF8.out.trans hF9 fun k hk h => by
            rcases h with h | h
            · exact h
            · have := hb0.size; have := HBQ.out.size; omega
          have hs9 := hF9.size
          generalize W6.setCell ⟨b, 2, none⟩ (.int .u64 ej.x.out) = W9 at *
          have x0 := Bp.cell 0
          have x1 := Bp.cell 1
          have x2 := Bp.cell 2
          have y0 := Br.cell 0
          have y1 := Br.cell 1
          have y2 := Br.cell 2
          have q0 := Br.frozen 0
          have q1 := Br.frozen 1
          have q2 := Br.frozen 2
          simp only [List.getElem?_cons_succ, List.getElem?_cons_zero] at x0 x1 x2 y0 y1 y2
          have HR9 := Lib.hid hR9
          have HFR := Lib.hid hfr
          clear hR9 hF9 hfr Bp Br k2 z2
          go_wp2
          refine bodyPost_ret (v := .tuple #[.agg #[.int .i64 ej.x.head.flow, .int .i64 ej.x.head.len, .int .i64 ej.x.head.mark], .bool true]) (by simp [results, Tryz.results85, go_sem, y0, y1, y2, q0, q1, q2]) rfl ⟨by rw [E1.out, E2.out]; rfl, ?_⟩
          rw [E3.out, HM.out]
          have hS6 : Fr (fun k => k = w.heap.size) W9 (((W9.setCell ⟨w.heap.size, 0, none⟩ (.int .i64 ej.x.head.flow)).setCell ⟨w.heap.size, 1, none⟩ (.int .i64 ej.x.head.len)).setCell ⟨w.heap.size, 2, none⟩ (.int .i64 ej.x.head.mark)) :=
            Fr.setCell (S := fun k => k = w.heap.size) (a := ⟨w.heap.size, 2, none⟩) (Fr.setCell (S := fun k => k = w.heap.size) (a := ⟨w.heap.size, 1, none⟩) (Fr.setCell (S := fun k => k = w.heap.size) (a := ⟨w.heap.size, 0, none⟩) (Fr.refl _ _) (.inl rfl) _) (.inl rfl) _) (.inl rfl) _
          have hx : Fr F w (((W9.setCell ⟨w.heap.size, 0, none⟩ (.int .i64 ej.x.head.flow)).setCell ⟨w.heap.size, 1, none⟩ (.int .i64 ej.x.head.len)).setCell ⟨w.heap.size, 2, none⟩ (.int .i64 ej.x.head.mark)) := HFR.out.trans hS6 fun k hk e' => by exfalso; subst e'; omega
          have hB6 := HB6.out
          refine ⟨⟨setR l ej.id ej.x.serve _, by rw [setR_pl, HL.out], (HR9.out.fr hS6 fun k hk e' => ?_).mono (fun k hk => hk.imp id fun hk => ⟨by omega, Nat.lt_of_lt_of_le (Nat.lt_of_lt_of_le hk.2 (by omega)) hS6.size⟩) (hF.ext hx.size)⟩, hx⟩
          rcases hk with hk | hk
          · have := hF k hk; omega
          · omega
        · have HM := Lib.hid hmx
          clear hmx
          go_upto_region 13 with fail
          obtain ⟨hR9, hF9⟩ := HR6.out.setMost t.most
          have Bp := BP.out.set_far (a := ⟨b, 2, none⟩) (fun e => hbb6 e.symm) (.int .u64 t.most)
          have Br := BR.out.set_far (a := ⟨b, 2, none⟩) (fun e => hbw0 e.symm) (.int .u64 t.most)
          have hfr := HF8.out.trans hF9 fun k hk h => by
            rcases h with h | h
            · exact h
            · have := hb0.size; have := HBQ.out.size; omega
          have hs9 := hF9.size
          generalize W6.setCell ⟨b, 2, none⟩ (.int .u64 t.most) = W9 at *
          have x0 := Bp.cell 0
          have x1 := Bp.cell 1
          have x2 := Bp.cell 2
          have y0 := Br.cell 0
          have y1 := Br.cell 1
          have y2 := Br.cell 2
          have q0 := Br.frozen 0
          have q1 := Br.frozen 1
          have q2 := Br.frozen 2
          simp only [List.getElem?_cons_succ, List.getElem?_cons_zero] at x0 x1 x2 y0 y1 y2
          have HR9 := Lib.hid hR9
          have HFR := Lib.hid hfr
          clear hR9 hF9 hfr Bp Br k2 z2
          go_wp2
          refine bodyPost_ret (v := .tuple #[.agg #[.int .i64 ej.x.head.flow, .int .i64 ej.x.head.len, .int .i64 ej.x.head.mark], .bool true]) (by simp [results, Tryz.results85, go_sem, y0, y1, y2, q0, q1, q2]) rfl ⟨by rw [E1.out, E2.out]; rfl, ?_⟩
          rw [E3.out, HM.out]
          have hS6 : Fr (fun k => k = w.heap.size) W9 (((W9.setCell ⟨w.heap.size, 0, none⟩ (.int .i64 ej.x.head.flow)).setCell ⟨w.heap.size, 1, none⟩ (.int .i64 ej.x.head.len)).setCell ⟨w.heap.size, 2, none⟩ (.int .i64 ej.x.head.mark)) :=
            Fr.setCell (S := fun k => k = w.heap.size) (a := ⟨w.heap.size, 2, none⟩) (Fr.setCell (S := fun k => k = w.heap.size) (a := ⟨w.heap.size, 1, none⟩) (Fr.setCell (S := fun k => k = w.heap.size) (a := ⟨w.heap.size, 0, none⟩) (Fr.refl _ _) (.inl rfl) _) (.inl rfl) _) (.inl rfl) _
          have hx : Fr F w (((W9.setCell ⟨w.heap.size, 0, none⟩ (.int .i64 ej.x.head.flow)).setCell ⟨w.heap.size, 1, none⟩ (.int .i64 ej.x.head.len)).setCell ⟨w.heap.size, 2, none⟩ (.int .i64 ej.x.head.mark)) := HFR.out.trans hS6 fun k hk e' => by exfalso; subst e'; omega
          have hB6 := HB6.out
          refine ⟨⟨setR l ej.id ej.x.serve _, by rw [setR_pl, HL.out], (HR9.out.fr hS6 fun k hk e' => ?_).mono (fun k hk => hk.imp id fun hk => ⟨by omega, Nat.lt_of_lt_of_le (Nat.lt_of_lt_of_le hk.2 (by omega)) hS6.size⟩) (hF.ext hx.size)⟩, hx⟩
          rcases hk with hk | hk
          · have := hF k hk; omega
          · omega
end Go.Proofs.YtdjooacjjnjfmaaGreat
end

-- The reference's flows: another row of them is laid.
section
namespace Go.Proofs.YtdjooacjjnjfmaaGreat
set_option linter.unusedVariables false
set_option linter.unusedSimpArgs false
set_option maxRecDepth 20000
open Go.RowKit Go.Proofs.YtdjooacjjnjfmaaGreatMem Go.Proofs.YtdjooacjjnjfmaaGreatMapK

/-- Another row of flows: of those that there were, and of new ones. -/
theorem RfR.rowed {w w9 : World} {b : Nat} {v most : Int} {l l' : List FlR} {F : Nat → Prop} {a9 : Option Addr} {c9 : Nat} (h : RfR w b v most l F) (hb : Below w.heap.size w w9)
    (hown : w9.ownsRow w.heap.size 121 1 (.slice a9 l'.length c9) l'.length (ptrs l'))
    (hl : ∀ e ∈ l', e ∈ l ∨ (RefAt w9 e.b e.id e.x e.G ∧ e.x.Ok ∧ (∀ k, e.G k → w.heap.size ≤ k ∧ k < w9.heap.size) ∧ ∀ a, a9 = some a → ¬ e.G a.block))
    (hd : l'.Pairwise fun e e' => ∀ k, e.G k → ¬ e'.G k) (hr : l'.Pairwise fun e e' => e.id < e'.id) :
    RfR (w9.setCell ⟨b, 0, none⟩ (.slice a9 l'.length c9)) b v most l' (Ext F w (w9.setCell ⟨b, 0, none⟩ (.slice a9 l'.length c9))) ∧ Fr F w (w9.setCell ⟨b, 0, none⟩ (.slice a9 l'.length c9)) := by
  obtain ⟨ao, cap, h1, h2, h3⟩ := h.row
  have hbl := h.lt b h.hb
  have hs : (w9.setCell ⟨b, 0, none⟩ (.slice a9 l'.length c9)).heap.size = w9.heap.size := by simp [World.setCell]
  have hF : Fr F w (w9.setCell ⟨b, 0, none⟩ (.slice a9 l'.length c9)) := Fr.setCell (S := F) (a := ⟨b, 0, none⟩) (Fr.of_below hb) (.inl h.hb) _
  have hS : Fr (fun k => k = b) w9 (w9.setCell ⟨b, 0, none⟩ (.slice a9 l'.length c9)) := Fr.setCell (S := fun k => k = b) (a := ⟨b, 0, none⟩) (Fr.refl _ _) (.inl rfl) _
  have hlo : ∀ a, a9 = some a → w.heap.size ≤ a.block ∧ a.block < w9.heap.size := fun a ha => by subst ha; exact hown.lt a.block rfl
  refine ⟨{ row := ⟨a9, c9, ?_, ?_, ?_⟩, flows := ?_, hb := .inl h.hb, sub := ?_, disj := hd, lt := h.lt.ext hF.size, ok := ?_, rise := hr }, hF⟩
  · simpa using (h1.below hb).set 0 (.slice a9 l'.length c9)
  · refine owns_base (owns_fr hown hS fun k hk => ?_) (Nat.zero_le _)
    cases a9 with
    | none => cases hk
    | some a => cases hk; have := hlo a rfl; omega
  · intro a ha
    have h4 := hlo a ha
    refine ⟨.inr ⟨h4.1, by rw [hs]; exact h4.2⟩, by omega, fun e he hk => ?_⟩
    rcases hl e he with h5 | ⟨h5, h6, h7, h8⟩
    · have := h.lt _ (h.sub e h5 _ hk).1; omega
    · exact h8 a ha hk
  · intro e he
    rcases hl e he with h5 | ⟨h5, h6, h7, h8⟩
    · exact ((h.flows e h5).below hb).fr hS fun k hk => (h.sub e h5 k hk).2
    · exact h5.fr hS fun k hk e' => by have := h7 k hk; omega
  · intro e he k hk
    rcases hl e he with h5 | ⟨h5, h6, h7, h8⟩
    · exact ⟨.inl (h.sub e h5 k hk).1, (h.sub e h5 k hk).2⟩
    · have := h7 k hk
      exact ⟨.inr ⟨this.1, by rw [hs]; exact this.2⟩, by omega⟩
  · intro e he
    rcases hl e he with h5 | ⟨h5, h6, h7, h8⟩
    · exact h.ok e h5
    · exact h6
theorem pairwise_ins {α : Type} {R : α → α → Prop} {l : List α} {e : α} (K : Nat) (h : l.Pairwise R) (h1 : ∀ a ∈ l.take K, R a e) (h2 : ∀ a ∈ l.drop K, R e a) : (l.take K ++ e :: l.drop K).Pairwise R := by
  have h' := h
  rw [← List.take_append_drop K l, List.pairwise_append] at h'
  obtain ⟨p1, p2, p3⟩ := h'
  rw [List.pairwise_append, List.pairwise_cons]
  refine ⟨p1, ⟨h2, p2⟩, fun a ha c hc => ?_⟩
  rcases List.mem_cons.1 hc with rfl | hc
  · exact h1 a ha
  · exact p3 a ha c hc
theorem mem_ins {α : Type} {l : List α} {e a : α} {K : Nat} (h : a ∈ l.take K ++ e :: l.drop K) : a = e ∨ a ∈ l := by
  rcases List.mem_append.1 h with h | h
  · exact .inr (List.mem_of_mem_take h)
  · rcases List.mem_cons.1 h with h | h
    · exact .inl h
    · exact .inr (List.mem_of_mem_drop h)
def insK : List (Int × FlS) → Int → Nat
  | [], _ => 0
  | e :: l, id => if e.1 < id then insK l id + 1 else 0
def insF (fs : List (Int × FlS)) (e : Int × FlS) : List (Int × FlS) := fs.take (insK fs e.1) ++ e :: fs.drop (insK fs e.1)
def SfS.addR (t : SfS) (id r most : Int) : SfS := if (getF t.fs id).isSome then t else { t with fs := insF t.fs (id, FlS.new r most) }
theorem insK_le (fs : List (Int × FlS)) (id : Int) : insK fs id ≤ fs.length := by
  induction fs with
  | nil => exact Nat.le_refl _
  | cons e l ih => unfold insK; split <;> simp <;> omega
theorem insK_lt {fs : List (Int × FlS)} {id : Int} {k : Nat} {e : Int × FlS} (h : k < insK fs id) (he : fs[k]? = some e) : e.1 < id := by
  induction fs generalizing k with
  | nil => cases he
  | cons a l ih =>
    unfold insK at h
    by_cases ha : a.1 < id
    · rw [if_pos ha] at h
      cases k with
      | zero => simp at he; subst he; exact ha
      | succ k => exact ih (k := k) (by omega) (by simpa using he)
    · rw [if_neg ha] at h; omega
theorem insK_at {fs : List (Int × FlS)} {id : Int} {e : Int × FlS} (he : fs[insK fs id]? = some e) : ¬ e.1 < id := by
  induction fs with
  | nil => cases he
  | cons a l ih =>
    unfold insK at he
    by_cases ha : a.1 < id
    · rw [if_pos ha] at he; exact ih (by simpa using he)
    · rw [if_neg ha] at he; simp at he; subst he; exact ha


theorem insF_perm (fs : List (Int × FlS)) (e : Int × FlS) : (insF fs e).Perm (fs ++ [e]) := by
  unfold insF
  refine List.perm_middle.trans ?_
  rw [List.take_append_drop]
  exact (List.perm_append_singleton e fs).symm
/-- The last of adding one. -/
theorem add_end {w w3 w7 w8 w9 : World} {b : Nat} {v most : Int} {l : List FlR} {F : Nat → Prop} {fs : List (Int × FlS)} {id r m : Int} {K n d c7 c3 c8 c9 : Nat} {a3 a8 a9 : Option Addr}
    (h : RfR w b v most l F) (hl : l.map FlR.pl = fs) (hg : getF fs id = none) (hK : insK fs id = K) (hn : l.length = n) (hd : n - K = d) (hr : W64 r)
    (hb3 : Below w.heap.size w w3) (h3 : w3.ownsRow w.heap.size 121 1 (.slice a3 K c3) K ((ptrs l).take K)) (hb7 : Below w3.heap.size w3 w7) (hf7 : RefAt w7 c7 id (FlS.new r m) (fun k => w3.heap.size ≤ k ∧ k < w7.heap.size))
    (hg8 : w7.grownBy w8 (Value.slice a3 K c3).ownBlock) (hf8 : FreshOr w7 (.slice a3 K c3) (.slice a8 (K + 1) c8))
    (hg9 : w8.grownBy w9 (Value.slice a8 (K + 1) c8).ownBlock) (hf9 : FreshOr w8 (.slice a8 (K + 1) c8) (.slice a9 (K + 1 + d) c9))
    (hown : w9.ownsRow w.heap.size 121 1 (.slice a9 (K + 1 + d) c9) (K + 1 + d) ((ptrs l).take K ++ #[.pointer (some ⟨c7, 0, none⟩)].toList ++ (ptrs l).drop K)) (hb9 : Below w.heap.size w w9) :
    RfsPost b ⟨v, most, insF fs (id, FlS.new r m)⟩ F w (w9.setCell ⟨b, 0, none⟩ (.slice a9 (K + 1 + d) c9)) := by
  have hKn : K ≤ n := by rw [← hK, ← hn]; have := insK_le fs id; rw [← hl] at this ⊢; simpa using this
  have hlen : (l.take K ++ FlR.mk id c7 (FlS.new r m) (fun k => w3.heap.size ≤ k ∧ k < w7.heap.size) :: l.drop K).length = K + 1 + d := by
    simp only [List.length_append, List.length_take, List.length_cons, List.length_drop, hn]
    omega
  have hpt : ptrs (l.take K ++ FlR.mk id c7 (FlS.new r m) (fun k => w3.heap.size ≤ k ∧ k < w7.heap.size) :: l.drop K) = (ptrs l).take K ++ #[.pointer (some ⟨c7, 0, none⟩)].toList ++ (ptrs l).drop K := by
    unfold ptrs
    rw [List.map_append, List.map_cons, List.map_take, List.map_drop, List.append_assoc]
    rfl
  have hno : ∀ e ∈ l, e.id ≠ id := by
    rw [← hl, getF_pl] at hg
    have : getR l id = none := by
      cases hx : getR l id with
      | none => rfl
      | some e => rw [hx] at hg; cases hg
    exact getR_none.1 this
  have h3lt : ∀ k, (Value.slice a3 K c3).ownBlock = some k → k < w3.heap.size := fun k hk => (h3.lt k hk).2
  have h8n : ∀ k, (Value.slice a8 (K + 1) c8).ownBlock = some k → k < w3.heap.size ∨ w7.heap.size ≤ k := fun k hk => by
    rcases hf8 with hf | hf
    · rw [hf] at hk; exact .inl (h3lt k hk)
    · exact .inr (hf k hk)
  have h9n : ∀ k, (Value.slice a9 (K + 1 + d) c9).ownBlock = some k → k < w3.heap.size ∨ w7.heap.size ≤ k := fun k hk => by
    rcases hf9 with hf | hf
    · rw [hf] at hk; exact h8n k hk
    · have := hf k hk; have := hg8.size; exact .inr (by omega)
  have hs3 := hb3.size
  have hs7 := hb7.size
  have hs8 := hg8.size
  have hs9 := hg9.size
  have hf8' : RefAt w8 c7 id (FlS.new r m) (fun k => w3.heap.size ≤ k ∧ k < w7.heap.size) :=
    hf7.fr (S := fun k => (Value.slice a3 K c3).ownBlock = some k) ((Fr.refl _ _).grown hg8 fun k hk => .inl hk) fun k hk hk' => by have := h3lt k hk'; omega
  have hf9' : RefAt w9 c7 id (FlS.new r m) (fun k => w3.heap.size ≤ k ∧ k < w7.heap.size) :=
    hf8'.fr (S := fun k => (Value.slice a8 (K + 1) c8).ownBlock = some k) ((Fr.refl _ _).grown hg9 fun k hk => .inl hk) fun k hk hk' => by have := h8n k hk'; omega
  rw [← hlen] at hown ⊢
  obtain ⟨hR, hF⟩ := h.rowed (l' := l.take K ++ FlR.mk id c7 (FlS.new r m) (fun k => w3.heap.size ≤ k ∧ k < w7.heap.size) :: l.drop K) hb9 (by rw [hpt]; exact hown) (fun e he => by
      rcases mem_ins he with rfl | he
      · refine .inr ⟨hf9', FlS.new_ok hr, fun k hk => by simp only at hk; omega, fun a ha hk => ?_⟩
        have := h9n a.block (by rw [ha]; rfl)
        simp only at hk
        omega
      · exact .inl he)
    (pairwise_ins K h.disj (fun e he k hk hk' => by have := h.lt k (h.sub e (List.mem_of_mem_take he) k hk).1; simp only at hk'; omega) (fun e he k hk hk' => by have := h.lt k (h.sub e (List.mem_of_mem_drop he) k hk').1; simp only at hk; omega))
    (pairwise_ins K h.rise (fun e he => by
        obtain ⟨j, hj⟩ := List.getElem?_of_mem he
        have hjK : j < K := by
          rcases Nat.lt_or_ge j K with h | h
          · exact h
          · rw [List.getElem?_eq_none (by rw [List.length_take]; omega)] at hj; cases hj
        rw [List.getElem?_take_of_lt hjK] at hj
        exact insK_lt (fs := fs) (e := e.pl) (by rw [hK]; exact hjK) (by rw [← hl]; simp [hj]))
      (fun e he => by
        obtain ⟨j, hj⟩ := List.getElem?_of_mem he
        rw [List.getElem?_drop] at hj
        have hne := hno e (List.mem_of_mem_drop he)
        show id < e.id
        rcases Nat.eq_zero_or_pos j with rfl | hj0
        · have : ¬ e.pl.1 < id := insK_at (fs := fs) (e := e.pl) (by rw [hK, ← hl, List.getElem?_map]; rw [Nat.add_zero] at hj; rw [hj]; rfl)
          have : ¬ e.id < id := this
          omega
        · have hKl : K < l.length := by
            rcases Nat.lt_or_ge K l.length with h | h
            · exact h
            · rw [List.getElem?_eq_none (by omega)] at hj; cases hj
          have h0 : l[K]? = some l[K] := List.getElem?_eq_getElem hKl
          have h1 : ¬ (l[K]).pl.1 < id := insK_at (fs := fs) (e := (l[K]).pl) (by rw [hK, ← hl]; simp [h0])
          have h1 : ¬ (l[K]).id < id := h1
          have h2 := rise_lt h.rise h0 hj (by omega)
          omega))
  refine ⟨⟨_, ?_, hR⟩, hF⟩
  show _ = insF fs (id, FlS.new r m)
  unfold insF
  rw [hK, ← hl, List.map_append, List.map_cons, List.map_take, List.map_drop]
  rfl
end Go.Proofs.YtdjooacjjnjfmaaGreat
end

-- The reference's flows: one added.
section
namespace Go.Proofs.YtdjooacjjnjfmaaGreat
set_option linter.unusedVariables false
set_option linter.unusedSimpArgs false
set_option maxRecDepth 20000
open Go.RowKit Go.Proofs.YtdjooacjjnjfmaaGreatMem Go.Proofs.YtdjooacjjnjfmaaGreatMapK

set_option maxHeartbeats 2000000 in
theorem addR_any (b : Nat) (t : SfS) (F : Nat → Prop) (id r most : Int) (w : World) (h : RfsAt w b t F) (hn9 : t.fs.length ≤ 1000000) (hr : W64 r) :
    Calls Tryz.prog 83 #[.pointer (some ⟨b, 0, none⟩), .int .i64 id, .int .u64 r, .int .i64 most] w fun e w' => e = .returned (.bool (!(getF t.fs id).isSome)) ∧ RfsPost b (t.addR id r most) F w w' := by
  obtain ⟨l, hl, h⟩ := h
  have hA := at_any b t.v t.most l F id w h
  have H0 := Lib.hid h
  unfold SfS.addR
  by_cases hpos : posR l id < l.length
  · obtain ⟨e, he, hid, hg⟩ := posR_at hpos
    have hA1 : atR l id = posR l id := by unfold atR; rw [if_pos hpos]
    rw [hA1] at hA
    have hgF : getF t.fs id = some e.x := by rw [← hl, getF_pl, hg]; rfl
    rw [hgF]
    have i1 : (0 : Int) ≤ ((posR l id : Nat) : Int) := by omega
    generalize posR l id = k at *
    clear h hpos hA1 he hg
    go_enter Tryz.func83, Tryz.ntmps83
    go_wp2_with fail
    refine hA.mono ?_
    rintro e' w' ⟨rfl, rfl⟩
    go_wp2
    go_ret
    exact ⟨rfl, RfsAt.still ⟨l, hl, H0.out⟩ (Below.refl _ _)⟩
  · have hg := posR_none hpos
    have hA1 : atR l id = -1 := by unfold atR; rw [if_neg hpos]
    rw [hA1] at hA
    have hgF : getF t.fs id = none := by rw [← hl, getF_pl, hg]; rfl
    rw [hgF]
    have hF := h.lt
    obtain ⟨ao, cap, c0, c1, c2, hc, hl63, hnil, hat⟩ := h.cells
    have hbl := h.lt b h.hb
    have HA := Lib.hid hat
    have HL := Lib.hid hl
    have hle : t.fs.length = l.length := by rw [← hl]; simp
    have hkle : insK t.fs id ≤ l.length := by rw [← hle]; exact insK_le _ _
    have HK1 := Lib.hid (fun (k : Nat) (e : FlR) (hk : k < insK t.fs id) (he : l[k]? = some e) => insK_lt (e := e.pl) hk (by rw [← hl]; simp [he]))
    have HK2 := Lib.hid (fun (e : FlR) (he : l[insK t.fs id]? = some e) => insK_at (e := e.pl) (id := id) (fs := t.fs) (by rw [← hl] at he ⊢; simp [he]))
    obtain ⟨n, hn⟩ : ∃ n, l.length = n := ⟨_, rfl⟩
    have hn6 : n ≤ 1000000 := by omega
    rw [hn] at c0 hc hl63 hnil hkle
    have HN := Lib.hid hn
    obtain ⟨K, hK⟩ : ∃ K, insK t.fs id = K := ⟨_, rfl⟩
    rw [hK] at hkle HK1 HK2
    have HKK := Lib.hid hK
    clear h hpos hA1 hg hat hl hle hn hK c1 c2
    go_enter Tryz.func83, Tryz.ntmps83
    go_wp2_with fail
    refine hA.mono ?_
    rintro e' w' ⟨rfl, rfl⟩
    go_upto_block 0 with fail
    go_cut [9] from 15 to 37 (fun v9 wx => v9 = .int .i64 K ∧ wx = w)
    case first =>
      go_wp2_with fail
      go_loopw [9] (fun v9 wr => ∃ k : Nat, k ≤ K ∧ v9 = .int .i64 k ∧ w = wr) (fun v9 _ => n - (intOf v9).toNat)
      case atStart => exact ⟨0, Nat.zero_le _, rfl, rfl⟩
      case round =>
        obtain ⟨k, hk, rfl, rfl⟩ := hrel
        by_cases hkK : k < K
        · obtain ⟨e, he⟩ : ∃ e, l[k]? = some e := ⟨l[k]'(by rw [HN.out]; omega), List.getElem?_eq_getElem _⟩
          obtain ⟨g, rfl, hg, cg, ci, heb⟩ := HA.out k e he
          have i1 : (k : Int) < (n : Int) := by omega
          have i2 : e.id < id := HK1.out k e hkK he
          clear he
          go_wp2
          go_roundw
          case rel => exact ⟨k + 1, by omega, by go_num, by first | rfl | trivial⟩
          case measure => simp [intOf]; omega
        · obtain rfl : k = K := by omega
          by_cases hkn : k < n
          · obtain ⟨e, he⟩ : ∃ e, l[k]? = some e := ⟨l[k]'(by rw [HN.out]; omega), List.getElem?_eq_getElem _⟩
            obtain ⟨g, rfl, hg, cg, ci, heb⟩ := HA.out k e he
            have i1 : (k : Int) < (n : Int) := by omega
            have i2 : id ≤ e.id := HK2.out e he
            have i3 : decide (e.id < id) = false := decide_eq_false (by omega)
            clear he
            go_wp2
            go_meet
            exact ⟨rfl, rfl⟩
          · have i1 : ¬ (k : Int) < (n : Int) := by omega
            go_wp2
            go_meet
            exact ⟨rfl, rfl⟩
    case rest =>
      obtain ⟨rfl, rfl⟩ := hcut
      obtain ⟨ao', cap', h1, h2, h3⟩ := H0.out.row
      have q0 := h1.cell 0
      simp only [List.getElem?_cons_zero] at q0
      have q1 := c0.symm.trans q0
      simp only [Option.some.injEq, Value.slice.injEq] at q1
      obtain ⟨rfl, q2, rfl⟩ := q1
      have hrd := owns_rdS h2 (ptrs_one l)
      have hT1 : ((ptrs l).take K).length = K * 1 := by rw [List.length_take, ptrs_length, HN.out]; omega
      have hT2 : ∀ u ∈ (ptrs l).take K, u.oneCell' = true := fun u hu => ptrs_one l u (List.mem_of_mem_take hu)
      have hT3 : ∀ j u, ((ptrs l).take K)[j]? = some u → ∃ g off, ao = some ⟨g, off, none⟩ ∧ wc.cell? ⟨g, off + j, none⟩ = some u := fun j u hu => by
        have hj : j < K := by
          rcases Nat.lt_or_ge j K with h | h
          · exact h
          · rw [List.getElem?_eq_none (by rw [hT1]; omega)] at hu; cases hu
        rw [List.getElem?_take_of_lt hj] at hu
        obtain ⟨g, off, e1, -, hc⟩ := hrd.at_ j u hu
        exact ⟨g, off, e1, hc⟩
      have hT4 : ao = none → K = 0 ∧ cap = 0 := fun e => by have := hnil e; omega
      have HT1 := Lib.hid hT1
      have HT2 := Lib.hid hT2
      have HT3 := Lib.hid hT3
      have HT4 := Lib.hid hT4
      have HRD := Lib.hid hrd
      have H1 := Lib.hid h1
      have H2 := Lib.hid h2
      have H3 := Lib.hid h3
      clear hT1 hT2 hT3 hT4 hrd h1 h2 h3 q0 q2
      have i1 : (K : Int) ≤ (cap : Int) := by omega
      go_wp2_with ((at_builtin; refine ap_src wc ERf rfl _ _ rfl wc.heap.size _ 0 [] rfl (World.ownsRow_nil _ _ _ _) (Nat.le_refl _) ao K cap ((ptrs l).take K) rfl HT4.out HT1.out HT3.out HT2.out (by omega) ?_; intro v3 w3 hown3 hg3 hb3 hfr3))
      simp only [Nat.zero_add, List.nil_append] at hown3
      obtain ⟨a3, c3, rfl⟩ := owns_slice hown3
      have hbW : Below wc.heap.size wc w3.drew := hb3.drew
      have BW := Lib.hid (H1.out.below hbW)
      have c0 : w3.drew.cell? ⟨b, 0, none⟩ = some (.slice ao n cap) := (hbW.cell (p := ⟨b, 0, none⟩) hbl).trans c0
      have HO3 : Hid (w3.drew.ownsRow wc.heap.size 121 1 (.slice a3 K c3) K ((ptrs l).take K)) := Lib.hid hown3
      have hblW : b < w3.drew.heap.size := Nat.lt_of_lt_of_le hbl hbW.size
      have HBW := Lib.hid hbW
      clear hown3 hbW hg3 hb3 hfr3
      have hD1 : ((ptrs l).drop K).length = (n - K) * 1 := by rw [List.length_drop, ptrs_length, HN.out]; omega
      have hD2 : ∀ u ∈ (ptrs l).drop K, u.oneCell' = true := fun u hu => ptrs_one l u (List.mem_of_mem_drop hu)
      have HD1 := Lib.hid hD1
      have HD2 := Lib.hid hD2
      have HGN := Lib.hid hgF
      clear hD1 hD2 hgF
      by_cases hcK : cap = K
      · have hnK : n - K = 0 := by omega
        have hD3 : ∀ w', Below wc.heap.size wc w' → ∀ j u, ((ptrs l).drop K)[j]? = some u → ∃ g' off, ao = some ⟨g', off, none⟩ ∧ w'.cell? ⟨g', off + j, none⟩ = some u := fun w' hb j u hu => by
          rw [List.eq_nil_of_length_eq_zero (l := (ptrs l).drop K) (by rw [HD1.out, hnK])] at hu; cases hu
        have HD3 := Lib.hid hD3
        have HNK := Lib.hid hnK
        clear hD3 hnK
        go_region_law (first
          | (go_simp; go_at_call 108; refine (refNew_any id r most _).mono ?_; rintro e w7 ⟨c7, rfl, hf7, hb7⟩; have c7b := (hb7.cell (p := ⟨b, 0, none⟩) hblW).trans c0; have hblW7 := Nat.lt_of_lt_of_le hblW hb7.size; have HB7 := Lib.hid hb7; have HF7 := Lib.hid hf7; clear hb7 hf7)
          | (refine step_ap_new0 w7 #[.pointer (some ⟨c7, 0, none⟩)] ERf (by rfl) _ _ (by rfl) wc.heap.size _ K _ (by simp [Act.eval, Act.put]) (owns_below (B := 0) HO3.out HB7.out) (Nat.le_trans HBW.out.size HB7.out.size) 1 (by simp [Act.eval, Act.put]) (by rfl) (by simp [Value.oneCell']) (by omega) ?_; intro v8 w8 hown8 hg8 hb8 hfr8; obtain ⟨a8, c8, rfl⟩ := owns_slice hown8; have c8b := (hb8.cell (p := ⟨b, 0, none⟩) hbl).trans c7b; have HT8 := Lib.hid ((HBW.out.trans (HB7.out.mono HBW.out.size)).trans hb8); have HG8 := Lib.hid hg8; have HB8 := Lib.hid hb8; have HO8 := Lib.hid hown8; have HFR8 := Lib.hid hfr8; clear hg8 hb8 hown8 hfr8)
          | (refine step_ap_src0 w8 ERf (by rfl) _ _ (by rfl) wc.heap.size _ (K + 1) _ (by simp [Act.eval, Act.put]) HO8.out HT8.out.size ao 0 0 ((ptrs l).drop K) (by simp [Act.eval, Act.put] <;> omega) (fun _ => ⟨rfl, rfl⟩) (by rw [HD1.out, HNK.out]) (HD3.out _ HT8.out) HD2.out (by omega) ?_; intro v9 w9 hown9 hg9 hb9 hfr9; obtain ⟨a9, c9, rfl⟩ := owns_slice hown9; have c9b := (hb9.cell (p := ⟨b, 0, none⟩) hbl).trans c8b; have HT9 := Lib.hid (HT8.out.trans hb9); have fz9 := (H1.out.below HT9.out).frozen 0; have HG9 := Lib.hid hg9; have HO9 := Lib.hid hown9; have HFR9 := Lib.hid hfr9; clear hg9 hb9 hown9 hfr9)
          | fail)
        all_goals
          go_wp2
          go_ret
          exact ⟨rfl, add_end H0.out HL.out HGN.out HKK.out HN.out HNK.out hr HBW.out HO3.out HB7.out HF7.out HG8.out HFR8.out HG9.out HFR9.out HO9.out HT9.out⟩
      · have hlt : K < cap := by omega
        obtain ⟨g, rfl⟩ : ∃ g, ao = some ⟨g, 0, none⟩ := by
          rcases H2.out.2 with ⟨hv, _⟩ | ⟨g, _, _, hv, _⟩
          · simp only [Value.slice.injEq] at hv; omega
          · simp only [Value.slice.injEq] at hv; exact ⟨g, hv.1⟩
        have hD3 : ∀ w', Below wc.heap.size wc w' → ∀ j u, ((ptrs l).drop K)[j]? = some u → ∃ g' off, (some (⟨g, K, none⟩ : Addr)) = some ⟨g', off, none⟩ ∧ w'.cell? ⟨g', off + j, none⟩ = some u := fun w' hb j u hu => by
          rw [List.getElem?_drop] at hu
          obtain ⟨g', off, e1, -, hc⟩ := (HRD.out.below hb).at_ (K + j) u hu
          simp only [Option.some.injEq, Addr.mk.injEq, and_true] at e1
          obtain ⟨rfl, rfl⟩ := e1
          exact ⟨g, K, rfl, by rw [Nat.zero_add] at hc; exact hc⟩
        have HD3 := Lib.hid hD3
        clear hD3
        go_region_law (first
          | (go_simp; go_at_call 108; refine (refNew_any id r most _).mono ?_; rintro e w7 ⟨c7, rfl, hf7, hb7⟩; have c7b := (hb7.cell (p := ⟨b, 0, none⟩) hblW).trans c0; have hblW7 := Nat.lt_of_lt_of_le hblW hb7.size; have HB7 := Lib.hid hb7; have HF7 := Lib.hid hf7; clear hb7 hf7)
          | (refine step_ap_new0 w7 #[.pointer (some ⟨c7, 0, none⟩)] ERf (by rfl) _ _ (by rfl) wc.heap.size _ K _ (by simp [Act.eval, Act.put]) (owns_below (B := 0) HO3.out HB7.out) (Nat.le_trans HBW.out.size HB7.out.size) 1 (by simp [Act.eval, Act.put]) (by rfl) (by simp [Value.oneCell']) (by omega) ?_; intro v8 w8 hown8 hg8 hb8 hfr8; obtain ⟨a8, c8, rfl⟩ := owns_slice hown8; have c8b := (hb8.cell (p := ⟨b, 0, none⟩) hbl).trans c7b; have HT8 := Lib.hid ((HBW.out.trans (HB7.out.mono HBW.out.size)).trans hb8); have HG8 := Lib.hid hg8; have HB8 := Lib.hid hb8; have HO8 := Lib.hid hown8; have HFR8 := Lib.hid hfr8; clear hg8 hb8 hown8 hfr8)
          | (refine step_ap_src0 w8 ERf (by rfl) _ _ (by rfl) wc.heap.size _ (K + 1) _ (by simp [Act.eval, Act.put]) HO8.out HT8.out.size (some ⟨g, K, none⟩) (n - K) (cap - K) ((ptrs l).drop K) (by simp [Act.eval, Act.put]) (fun h => by cases h) HD1.out (HD3.out _ HT8.out) HD2.out (by omega) ?_; intro v9 w9 hown9 hg9 hb9 hfr9; obtain ⟨a9, c9, rfl⟩ := owns_slice hown9; have c9b := (hb9.cell (p := ⟨b, 0, none⟩) hbl).trans c8b; have HT9 := Lib.hid (HT8.out.trans hb9); have fz9 := (H1.out.below HT9.out).frozen 0; have HG9 := Lib.hid hg9; have HO9 := Lib.hid hown9; have HFR9 := Lib.hid hfr9; clear hg9 hb9 hown9 hfr9)
          | fail)
        all_goals
          go_wp2
          go_ret
          exact ⟨rfl, add_end H0.out HL.out HGN.out HKK.out HN.out rfl hr HBW.out HO3.out HB7.out HF7.out HG8.out HFR8.out HG9.out HFR9.out HO9.out HT9.out⟩
end Go.Proofs.YtdjooacjjnjfmaaGreat
end

-- The reference's flows: one taken away.
section
namespace Go.Proofs.YtdjooacjjnjfmaaGreat
set_option linter.unusedVariables false
set_option linter.unusedSimpArgs false
set_option maxRecDepth 20000
open Go.RowKit Go.Proofs.YtdjooacjjnjfmaaGreatMem Go.Proofs.YtdjooacjjnjfmaaGreatMapK

theorem cut_filter {l : List FlR} {id : Int} (hr : l.Pairwise fun e e' => e.id < e'.id) (h : posR l id < l.length) :
    (l.take (posR l id) ++ l.drop (posR l id + 1)).map FlR.pl = (l.map FlR.pl).filter fun e => decide (e.1 ≠ id) := by
  have keep : ∀ {l : List FlR}, (∀ e ∈ l, e.id ≠ id) → (l.map FlR.pl).filter (fun e => decide (e.1 ≠ id)) = l.map FlR.pl := by
    intro l h
    refine List.filter_eq_self.2 fun e he => ?_
    obtain ⟨e0, h0, rfl⟩ := List.mem_map.1 he
    exact decide_eq_true (h e0 h0)
  induction l with
  | nil => simp [posR] at h
  | cons a l ih =>
    rw [List.pairwise_cons] at hr
    unfold posR at h ⊢
    by_cases ha : a.id = id
    · rw [if_pos ha]
      have h1 : ¬ (a.pl.1 ≠ id) := fun h => h ha
      simp only [List.take_zero, List.nil_append, List.map_cons, List.drop_succ_cons, List.drop_zero, Nat.zero_add]
      rw [List.filter_cons, if_neg (by simp [FlR.pl, ha])]
      exact (keep fun e he e1 => by have := hr.1 e he; omega).symm
    · rw [if_neg ha] at h ⊢
      simp only [List.take_succ_cons, List.cons_append, List.map_cons, List.drop_succ_cons]
      rw [List.filter_cons, if_pos (by simp [FlR.pl, ha])]
      exact congrArg _ (ih hr.2 (by simpa using h))
theorem pairwise_cut {α : Type} {R : α → α → Prop} {l : List α} (K : Nat) (h : l.Pairwise R) : (l.take K ++ l.drop (K + 1)).Pairwise R := by
  have h' := h
  rw [← List.take_append_drop K l, List.pairwise_append] at h'
  obtain ⟨p1, p2, p3⟩ := h'
  have hsub : (l.drop (K + 1)).Sublist (l.drop K) := by rw [← List.drop_drop]; exact List.drop_sublist 1 _
  rw [List.pairwise_append]
  exact ⟨p1, p2.sublist hsub, fun a ha c hc => p3 a ha c (hsub.subset hc)⟩
theorem mem_cut {α : Type} {l : List α} {a : α} {K : Nat} (h : a ∈ l.take K ++ l.drop (K + 1)) : a ∈ l := by
  rcases List.mem_append.1 h with h | h
  · exact List.mem_of_mem_take h
  · exact List.mem_of_mem_drop h

/-- The last of taking one away. -/
theorem remove_end {w w9 : World} {b : Nat} {v most : Int} {l : List FlR} {F : Nat → Prop} {fs : List (Int × FlS)} {id : Int} {K K1 n m c9 : Nat} {a9 : Option Addr}
    (h : RfR w b v most l F) (hl : l.map FlR.pl = fs) (hK : posR l id = K) (hn : l.length = n) (hKn : K < n) (hK1 : K + 1 = K1) (hm : n - K1 = m)
    (hown : w9.ownsRow w.heap.size 121 1 (.slice a9 (K + m) c9) (K + m) ((ptrs l).take K ++ (ptrs l).drop K1)) (hb9 : Below w.heap.size w w9) :
    RfsPost b ⟨v, most, fs.filter fun e => decide (e.1 ≠ id)⟩ F w (w9.setCell ⟨b, 0, none⟩ (.slice a9 (K + m) c9)) := by
  subst hK1
  have hlen : (l.take K ++ l.drop (K + 1)).length = K + m := by
    simp only [List.length_append, List.length_take, List.length_drop, hn]
    omega
  have hpt : ptrs (l.take K ++ l.drop (K + 1)) = (ptrs l).take K ++ (ptrs l).drop (K + 1) := by
    unfold ptrs
    rw [List.map_append, List.map_take, List.map_drop]
  rw [← hlen] at hown ⊢
  obtain ⟨hR, hF⟩ := h.rowed (l' := l.take K ++ l.drop (K + 1)) hb9 (by rw [hpt]; exact hown) (fun e he => .inl (mem_cut he)) (pairwise_cut K h.disj) (pairwise_cut K h.rise)
  refine ⟨⟨_, ?_, hR⟩, hF⟩
  rw [← hK, cut_filter h.rise (by rw [hK, hn]; exact hKn), hl]

set_option maxHeartbeats 2000000 in
theorem removeR_any (b : Nat) (t : SfS) (F : Nat → Prop) (id : Int) (w : World) (h : RfsAt w b t F) (hn9 : t.fs.length ≤ 1000000) :
    Calls Tryz.prog 48 #[.pointer (some ⟨b, 0, none⟩), .int .i64 id] w fun e w' => e = .returned (.int .i64 (t.removeE id)) ∧ RfsPost b (t.remove id) F w w' := by
  obtain ⟨l, hl, h⟩ := h
  have hA := at_any b t.v t.most l F id w h
  have H0 := Lib.hid h
  have hle : t.fs.length = l.length := by rw [← hl]; simp
  unfold SfS.remove SfS.removeE
  by_cases hpos : posR l id < l.length
  · obtain ⟨e, he, hid, hg⟩ := posR_at hpos
    have hA1 : atR l id = posR l id := by unfold atR; rw [if_pos hpos]
    rw [hA1] at hA
    have hgF : getF t.fs id = some e.x := by rw [← hl, getF_pl, hg]; rfl
    rw [hgF]
    obtain ⟨ao, cap, c0, c1, c2, hc, hl63, hnil, hat⟩ := h.cells
    obtain ⟨g, rfl, hgl, cg, ci, heb⟩ := hat _ e he
    obtain ⟨a3, c3', d3, d4⟩ := h.cells2 he
    have hbl := h.lt b h.hb
    obtain ⟨ao', cap', h1, h2, h3⟩ := h.row
    have q0 := h1.cell 0
    simp only [List.getElem?_cons_zero] at q0
    have q1 := c0.symm.trans q0
    simp only [Option.some.injEq, Value.slice.injEq] at q1
    obtain ⟨rfl, q2, rfl⟩ := q1
    have hrd := owns_rdS h2 (ptrs_one l)
    obtain ⟨n, hn⟩ : ∃ n, l.length = n := ⟨_, rfl⟩
    obtain ⟨K, hK⟩ : ∃ K, posR l id = K := ⟨_, rfl⟩
    rw [hn] at c0 hc hl63 hpos
    rw [hK] at hA cg hpos
    have HN := Lib.hid hn
    have HK := Lib.hid hK
    have HL := Lib.hid hl
    have H1 := Lib.hid h1
    have HRD := Lib.hid hrd
    have i1 : (K : Int) < (n : Int) := by omega
    have i0 : ¬ (K : Int) < 0 := by omega
    have hn6 : n ≤ 1000000 := by omega
    clear h he hg hgF hA1 hat hnil ci d4 c1 c2 h1 h2 h3 hrd q0 q2 hn hK hl hle
    by_cases hx : e.x.l = []
    · have h0 : e.x.l.length = 0 := by rw [hx]; rfl
      rw [h0] at d3
      simp only [hx, if_true]
      clear hx h0
      have hT1 : ((ptrs l).take K).length = K * 1 := by rw [List.length_take, ptrs_length, HN.out]; omega
      have hT2 : ∀ u ∈ (ptrs l).take K, u.oneCell' = true := fun u hu => ptrs_one l u (List.mem_of_mem_take hu)
      have hT3 : ∀ j u, ((ptrs l).take K)[j]? = some u → ∃ g' off, (some (⟨g, 0, none⟩ : Addr)) = some ⟨g', off, none⟩ ∧ w.cell? ⟨g', off + j, none⟩ = some u := fun j u hu => by
        have hj : j < K := by
          rcases Nat.lt_or_ge j K with h | h
          · exact h
          · rw [List.getElem?_eq_none (by rw [hT1]; omega)] at hu; cases hu
        rw [List.getElem?_take_of_lt hj] at hu
        obtain ⟨g', off, e1, -, hc⟩ := HRD.out.at_ j u hu
        exact ⟨g', off, e1, hc⟩
      have hD1 : ((ptrs l).drop (K + 1)).length = (n - (K + 1)) * 1 := by rw [List.length_drop, ptrs_length, HN.out]; omega
      have hD2 : ∀ u ∈ (ptrs l).drop (K + 1), u.oneCell' = true := fun u hu => ptrs_one l u (List.mem_of_mem_drop hu)
      have HT1 := Lib.hid hT1
      have HT2 := Lib.hid hT2
      have HT3 := Lib.hid hT3
      have HD1 := Lib.hid hD1
      have HD2 := Lib.hid hD2
      clear hT1 hT2 hT3 hD1 hD2
      go_enter Tryz.func48, Tryz.ntmps48
      go_wp2_with fail
      refine hA.mono ?_
      rintro e' w' ⟨rfl, rfl⟩
      go_upto_region 6 with fail
      have i2 : (K : Int) ≤ (cap : Int) := by omega
      go_upto_region 7 with ((at_builtin; refine ap_src w ERf rfl _ _ rfl w.heap.size _ 0 [] rfl (World.ownsRow_nil _ _ _ _) (Nat.le_refl _) (some ⟨g, 0, none⟩) K cap ((ptrs l).take K) rfl (fun h => by cases h) HT1.out HT3.out HT2.out (by omega) ?_; intro v3 w3 hown3 hg3 hb3 hfr3))
      simp only [Nat.zero_add, List.nil_append] at hown3
      obtain ⟨a3', c3'', rfl⟩ := owns_slice hown3
      have c0 := (hb3.cell (p := ⟨b, 0, none⟩) hbl).trans c0
      have fz := (H1.out.below hb3).frozen 0
      have hbl3 : b < w3.heap.size := Nat.lt_of_lt_of_le hbl hb3.size
      have HO3 := Lib.hid hown3
      have HB3 := Lib.hid hb3
      clear hown3 hb3 hg3 hfr3
      have v1 : Value.int .i64 (IntKind.i64.wrap ((K : Int) + 1)) = .int .i64 ((K + 1 : Nat) : Int) := by rw [IntWalk.i64_left, IntWalk.wrap64_in _ (by omega)]; rfl
      generalize hK1 : K + 1 = K1 at *
      have HK1 := Lib.hid hK1
      have j1 : (K1 : Int) ≤ (n : Int) := by omega
      have j2 : (K1 : Int) ≤ (cap : Int) := by omega
      clear hK1
      by_cases hcK : cap = K1
      · have hm : n - K1 = 0 := by omega
        have HM := Lib.hid hm
        have hT4 : ∀ j u, ((ptrs l).drop K1)[j]? = some u → ∃ g' off, (some (⟨g, 0, none⟩ : Addr)) = some ⟨g', off, none⟩ ∧ w3.cell? ⟨g', off + j, none⟩ = some u := fun j u hu => by
          rw [List.eq_nil_of_length_eq_zero (l := (ptrs l).drop K1) (by rw [HD1.out, hm])] at hu; cases hu
        have HT4 := Lib.hid hT4
        clear hT4 hm
        go_wp2_with ((at_builtin; refine ap_src w3 ERf rfl _ _ rfl w.heap.size _ K _ rfl HO3.out HB3.out.size (some ⟨g, 0, none⟩) 0 0 ((ptrs l).drop K1) (by simp [Act.eval, Act.put] <;> omega) (fun h => by cases h) (by rw [HD1.out, HM.out]) HT4.out HD2.out (by omega) ?_; intro v9 w9 hown9 hg9 hb9 hfr9; obtain ⟨a9, c9, rfl⟩ := owns_slice hown9; have c9b := (hb9.cell (p := ⟨b, 0, none⟩) hbl).trans c0; have HT9 := Lib.hid (HB3.out.trans hb9); have fz9 := (H1.out.below HT9.out).frozen 0; have HO9 := Lib.hid hown9; clear hg9 hb9 hown9 hfr9))
        go_ret
        exact ⟨rfl, remove_end H0.out HL.out HK.out HN.out hpos HK1.out HM.out HO9.out HT9.out⟩
      · have hlt : K1 < cap := by omega
        have hT4 : ∀ j u, ((ptrs l).drop K1)[j]? = some u → ∃ g' off, (some (⟨g, K1, none⟩ : Addr)) = some ⟨g', off, none⟩ ∧ w3.cell? ⟨g', off + j, none⟩ = some u := fun j u hu => by
          rw [List.getElem?_drop] at hu
          obtain ⟨g', off, e1, -, hc⟩ := (HRD.out.below HB3.out).at_ (K1 + j) u hu
          simp only [Option.some.injEq, Addr.mk.injEq, and_true] at e1
          obtain ⟨rfl, rfl⟩ := e1
          exact ⟨g, K1, rfl, by rw [Nat.zero_add] at hc; exact hc⟩
        have HT4 := Lib.hid hT4
        clear hT4
        go_wp2_with ((at_builtin; refine ap_src w3 ERf rfl _ _ rfl w.heap.size _ K _ rfl HO3.out HB3.out.size (some ⟨g, K1, none⟩) (n - K1) (cap - K1) ((ptrs l).drop K1) (by simp [Act.eval, Act.put] <;> omega) (fun h => by cases h) HD1.out HT4.out HD2.out (by omega) ?_; intro v9 w9 hown9 hg9 hb9 hfr9; obtain ⟨a9, c9, rfl⟩ := owns_slice hown9; have c9b := (hb9.cell (p := ⟨b, 0, none⟩) hbl).trans c0; have HT9 := Lib.hid (HB3.out.trans hb9); have fz9 := (H1.out.below HT9.out).frozen 0; have HO9 := Lib.hid hown9; clear hg9 hb9 hown9 hfr9))
        go_ret
        exact ⟨rfl, remove_end H0.out HL.out HK.out HN.out hpos HK1.out rfl HO9.out HT9.out⟩
    · have h0 : 0 < e.x.l.length := List.length_pos_iff.2 hx
      have hd : decide ((0 : Int) < (e.x.l.length : Int)) = true := decide_eq_true (by omega)
      simp only [hx, if_false]
      clear hx
      go_enter Tryz.func48, Tryz.ntmps48
      go_wp2_with fail
      refine hA.mono ?_
      rintro e' w' ⟨rfl, rfl⟩
      go_wp2
      go_ret
      exact ⟨rfl, RfsAt.still ⟨l, HL.out, H0.out⟩ (Below.refl _ _)⟩
  · have hg := posR_none hpos
    have hA1 : atR l id = -1 := by unfold atR; rw [if_neg hpos]
    rw [hA1] at hA
    have hgF : getF t.fs id = none := by rw [← hl, getF_pl, hg]; rfl
    rw [hgF]
    clear h hpos hA1 hg
    go_enter Tryz.func48, Tryz.ntmps48
    go_wp2_with fail
    refine hA.mono ?_
    rintro e' w' ⟨rfl, rfl⟩
    go_wp2
    go_ret
    exact ⟨rfl, RfsAt.still ⟨l, hl, H0.out⟩ (Below.refl _ _)⟩
end Go.Proofs.YtdjooacjjnjfmaaGreat
end
