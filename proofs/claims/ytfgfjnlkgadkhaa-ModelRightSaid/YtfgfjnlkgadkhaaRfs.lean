/- The reference's flows (its Sfq), as they lie in memory; where a flow stands among them. -/
import Derived.Test.YtfgfjnlkgadkhaaRef3
import Derived.Test.YtfgfjnlkgadkhaaSfq9
import Derived.Test.YtfgfjnlkgadkhaaMemS
import Derived.Deep.CutRange
namespace Go.Proofs.Ytfgfjnlkgadkhaa
set_option linter.unusedVariables false
set_option linter.unusedSimpArgs false
set_option maxRecDepth 20000
open Go.RowKit Go.Proofs.YtfgfjnlkgadkhaaMem Go.Proofs.YtfgfjnlkgadkhaaMapK

def FlR.ptr (e : FlR) : Value := .pointer (some ⟨e.b, 0, none⟩)
def ptrs (l : List FlR) : List Value := l.map FlR.ptr
theorem ptrs_length (l : List FlR) : (ptrs l).length = l.length := List.length_map _
theorem ptrs_one (l : List FlR) : ∀ u ∈ ptrs l, u.oneCell' = true := by
  intro u hu
  obtain ⟨e, _, rfl⟩ := List.mem_map.1 hu
  rfl
theorem ERf : ElT Try.prog 68 101 (.pointer none) 1 := ⟨Try.underlying68, ⟨8, by kernel_rfl, by omega⟩, rfl, by omega⟩

structure RfR (w : World) (b : Nat) (v most : Int) (l : List FlR) (F : Nat → Prop) : Prop where
  row : ∃ ao cap, Blk w b [.slice ao l.length cap, .int .u64 v, .int .u64 most] 70 ∧ w.ownsRow 0 101 1 (.slice ao l.length cap) l.length (ptrs l) ∧ (∀ a, ao = some a → F a.block ∧ a.block ≠ b ∧ ∀ e ∈ l, ¬ e.G a.block)
  flows : ∀ e ∈ l, RefAt w e.b e.id e.x e.G
  hb : F b
  sub : ∀ e ∈ l, ∀ k, e.G k → F k ∧ k ≠ b
  disj : l.Pairwise fun e e' => ∀ k, e.G k → ¬ e'.G k
  lt : Lt F w
  ok : ∀ e ∈ l, e.x.Ok
  rise : l.Pairwise fun e e' => e.id < e'.id
section
variable {w w' : World} {b : Nat} {v most : Int} {l : List FlR} {F S : Nat → Prop}
theorem RfR.fr (h : RfR w b v most l F) (hf : Fr S w w') (hn : ∀ k, F k → ¬ S k) : RfR w' b v most l F := by
  obtain ⟨ao, cap, h1, h2, h3⟩ := h.row
  refine ⟨⟨ao, cap, h1.fr hf (hn b h.hb), owns_fr h2 hf fun k hk => ?_, h3⟩, fun e he => (h.flows e he).fr hf fun k hk => hn k (h.sub e he k hk).1, h.hb, h.sub, h.disj, h.lt.mono hf.size, h.ok, h.rise⟩
  cases ao with
  | none => cases hk
  | some a => cases hk; exact hn _ (h3 a rfl).1
theorem RfR.below (h : RfR w b v most l F) (hb : Below w.heap.size w w') : RfR w' b v most l F := h.fr (Fr.of_below (S := fun _ => False) hb) fun _ _ f => f
theorem RfR.mono {G : Nat → Prop} (h : RfR w b v most l F) (hF : ∀ k, F k → G k) (hG : Lt G w) : RfR w b v most l G := by
  obtain ⟨ao, cap, h1, h2, h3⟩ := h.row
  exact ⟨⟨ao, cap, h1, h2, fun a ha => ⟨hF _ (h3 a ha).1, (h3 a ha).2⟩⟩, h.flows, hF b h.hb, fun e he k hk => ⟨hF k (h.sub e he k hk).1, (h.sub e he k hk).2⟩, h.disj, hG, h.ok, h.rise⟩
end
theorem RfR.ids {w : World} {b : Nat} {v most : Int} {l : List FlR} {F : Nat → Prop} (h : RfR w b v most l F) : (l.map (·.id)).Nodup := by
  rw [List.Nodup, List.pairwise_map]
  exact h.rise.imp fun h e => by omega
/-- What a walk reads of it. -/
theorem RfR.cells {w : World} {b : Nat} {v most : Int} {l : List FlR} {F : Nat → Prop} (h : RfR w b v most l F) :
    ∃ ao cap, w.cell? ⟨b, 0, none⟩ = some (.slice ao l.length cap) ∧ w.cell? ⟨b, 1, none⟩ = some (.int .u64 v) ∧ w.cell? ⟨b, 2, none⟩ = some (.int .u64 most) ∧ l.length ≤ cap ∧ (l.length : Int) ≤ 9223372036854775807 ∧ (ao = none → l.length = 0 ∧ cap = 0) ∧
      ∀ k e, l[k]? = some e → ∃ g, ao = some ⟨g, 0, none⟩ ∧ g < w.heap.size ∧ w.cell? ⟨g, k, none⟩ = some (.pointer (some ⟨e.b, 0, none⟩)) ∧ w.cell? ⟨e.b, 0, none⟩ = some (.int .i64 e.id) ∧ e.b < w.heap.size := by
  obtain ⟨ao, cap, h1, h2, h3⟩ := h.row
  have hrd := owns_rdS h2 (ptrs_one l)
  have c0 := h1.cell 0
  have c1 := h1.cell 1
  have c2 := h1.cell 2
  simp only [List.getElem?_cons_succ, List.getElem?_cons_zero] at c0 c1 c2
  refine ⟨ao, cap, c0, c1, c2, hrd.le, by have := hrd.small; omega, hrd.nil, fun k e he => ?_⟩
  have hk : k < l.length := by
    rcases Nat.lt_or_ge k l.length with h | h
    · exact h
    · rw [List.getElem?_eq_none h] at he; cases he
  obtain ⟨g, cap', hv, _, hlt⟩ := h2.form (by omega)
  simp only [Value.slice.injEq] at hv
  obtain ⟨rfl, _, rfl⟩ := hv
  obtain ⟨ao2, cap2, B, -, -, -, hl2⟩ := h.flows e (List.mem_of_getElem? he)
  have i0 := B.cell 0
  simp only [List.getElem?_cons_zero] at i0
  refine ⟨g, rfl, hlt, ?_, i0, B.lt⟩
  rw [h2.cellAt k (by omega)]
  unfold ptrs
  rw [List.getElem?_map, he]
  rfl

/-- Where a flow stands. -/
def posR : List FlR → Int → Nat
  | [], _ => 0
  | e :: l, id => if e.id = id then 0 else posR l id + 1
theorem posR_le (l : List FlR) (id : Int) : posR l id ≤ l.length := by
  induction l with
  | nil => exact Nat.le_refl _
  | cons e l ih => unfold posR; split <;> simp <;> omega
theorem getR_cons (e : FlR) (l : List FlR) (id : Int) : getR (e :: l) id = if e.id = id then some e else getR l id := by
  unfold getR
  rw [List.find?_cons]
  by_cases h : e.id = id
  · simp [h]
  · simp [h]
theorem posR_at {l : List FlR} {id : Int} (h : posR l id < l.length) : ∃ e, l[posR l id]? = some e ∧ e.id = id ∧ getR l id = some e := by
  induction l with
  | nil => simp [posR] at h
  | cons e l ih =>
    rw [getR_cons]
    unfold posR at h ⊢
    by_cases he : e.id = id
    · rw [if_pos he, if_pos he]; exact ⟨e, rfl, he, rfl⟩
    · rw [if_neg he] at h ⊢
      rw [if_neg he]
      obtain ⟨e', h1, h2, h3⟩ := ih (by simpa using h)
      exact ⟨e', by simpa using h1, h2, h3⟩
theorem posR_none {l : List FlR} {id : Int} (h : ¬ posR l id < l.length) : getR l id = none := by
  induction l with
  | nil => rfl
  | cons e l ih =>
    rw [getR_cons]
    unfold posR at h
    by_cases he : e.id = id
    · rw [if_pos he] at h; simp at h
    · rw [if_neg he] at h ⊢
      exact ih (by simpa using h)
theorem posR_lt {l : List FlR} {id : Int} {k : Nat} {e : FlR} (h : k < posR l id) (hk : l[k]? = some e) : e.id ≠ id := by
  induction l generalizing k with
  | nil => cases hk
  | cons a l ih =>
    unfold posR at h
    by_cases he : a.id = id
    · rw [if_pos he] at h; omega
    · rw [if_neg he] at h
      cases k with
      | zero => simp at hk; subst hk; exact he
      | succ k => exact ih (k := k) (by omega) (by simpa using hk)
def atR (l : List FlR) (id : Int) : Int := if posR l id < l.length then posR l id else -1

set_option maxHeartbeats 1000000 in
theorem at_any (b : Nat) (v most : Int) (l : List FlR) (F : Nat → Prop) (id : Int) (w : World) (h : RfR w b v most l F) :
    Calls Try.prog 50 #[.pointer (some ⟨b, 0, none⟩), .int .i64 id] w fun e w' => e = .returned (.int .i64 (atR l id)) ∧ w = w' := by
  obtain ⟨ao, cap, c0, c1, c2, hc, hl63, hnil, hat⟩ := h.cells
  have hbl := h.lt b h.hb
  have HA := Lib.hid hat
  have hp := posR_le l id
  have HR := Lib.hid (show atR l id = if posR l id < l.length then (posR l id : Int) else -1 from rfl)
  generalize atR l id = R at *
  obtain ⟨n, hn⟩ : ∃ n, l.length = n := ⟨_, rfl⟩
  rw [hn] at hc hl63 hnil c0 hp HR
  clear hat h c1 c2
  have HN := Lib.hid hn
  clear hn
  go_enter Try.func50, Try.ntmps50
  go_wp2_with fail
  go_loopw [5] (fun v5 wr => ∃ k : Nat, k ≤ posR l id ∧ v5 = .int .i64 k ∧ w = wr) (fun v5 _ => n - (intOf v5).toNat)
  case atStart => exact ⟨0, Nat.zero_le _, rfl, rfl⟩
  case round =>
    obtain ⟨k, hk, rfl, rfl⟩ := hrel
    by_cases hkn : k < n
    · obtain ⟨e, he⟩ : ∃ e, l[k]? = some e := ⟨l[k]'(by rw [HN.out]; exact hkn), List.getElem?_eq_getElem _⟩
      obtain ⟨g, rfl, hg, cg, ci, heb⟩ := HA.out k e he
      have i1 : (k : Int) < (n : Int) := by omega
      by_cases hid : e.id = id
      · have hkp : k = posR l id := by
          rcases Nat.lt_or_ge k (posR l id) with h | h
          · exact absurd hid (posR_lt h he)
          · omega
        have hR : R = k := by rw [HR.out, ← hkp, if_pos hkn]
        subst hR
        have q : (e.id == id) = true := by simpa using hid
        clear HR hid hkp
        go_wp2
        go_ret
        exact ⟨rfl, rfl⟩
      · have q : (e.id == id) = false := by simpa using hid
        have hkp : k + 1 ≤ posR l id := by
          rcases Nat.lt_or_ge k (posR l id) with h | h
          · omega
          · have : k = posR l id := by omega
            obtain ⟨e', h1, h2, -⟩ := posR_at (l := l) (id := id) (by rw [HN.out]; omega)
            rw [← this, he] at h1
            cases h1
            exact absurd h2 hid
        clear hid
        go_wp2
        go_roundw
        case rel => exact ⟨k + 1, hkp, by go_num, by first | rfl | trivial⟩
        case measure => simp [intOf]; omega
    · obtain rfl : k = n := by omega
      have hR : R = -1 := by rw [HR.out, if_neg (by omega)]
      subst hR
      clear HR
      go_wp2
      go_ret
      exact ⟨rfl, rfl⟩
end Go.Proofs.Ytfgfjnlkgadkhaa
