/- The reference's flows: another row of them is laid. -/
import Derived.Test.YtfgfjnlkgadkhaaRfs4
namespace Go.Proofs.Ytfgfjnlkgadkhaa
set_option linter.unusedVariables false
set_option linter.unusedSimpArgs false
set_option maxRecDepth 20000
open Go.RowKit Go.Proofs.YtfgfjnlkgadkhaaMem Go.Proofs.YtfgfjnlkgadkhaaMapK

/-- Another row of flows: of those that there were, and of new ones. -/
theorem RfR.rowed {w w9 : World} {b : Nat} {v most : Int} {l l' : List FlR} {F : Nat → Prop} {a9 : Option Addr} {c9 : Nat} (h : RfR w b v most l F) (hb : Below w.heap.size w w9)
    (hown : w9.ownsRow w.heap.size 101 1 (.slice a9 l'.length c9) l'.length (ptrs l'))
    (hl : ∀ e ∈ l', e ∈ l ∨ (RefAt w9 e.b e.id e.x e.G ∧ e.x.Ok ∧ (∀ k, e.G k → w.heap.size ≤ k ∧ k < w9.heap.size) ∧ ∀ a, a9 = some a → ¬ e.G a.block))
    (hd : l'.Pairwise fun e e' => ∀ k, e.G k → ¬ e'.G k) (hr : l'.Pairwise fun e e' => e.id < e'.id) :
    RfR (w9.setCell ⟨b, 0, none⟩ (.slice a9 l'.length c9)) b v most l' (Ext F w (w9.setCell ⟨b, 0, none⟩ (.slice a9 l'.length c9))) ∧ Fr F w (w9.setCell ⟨b, 0, none⟩ (.slice a9 l'.length c9)) := by
  obtain ⟨ao, cap, h1, h2, h3⟩ := h.row
  have hbl := h.lt b h.hb
  have hs : (w9.setCell ⟨b, 0, none⟩ (.slice a9 l'.length c9)).heap.size = w9.heap.size := by simp [World.setCell]
  have hF : Fr F w (w9.setCell ⟨b, 0, none⟩ (.slice a9 l'.length c9)) := Fr.setCell (S := F) (a := ⟨b, 0, none⟩) (Fr.of_below hb) (.inl h.hb) _
  have hS : Fr (fun k => k = b) w9 (w9.setCell ⟨b, 0, none⟩ (.slice a9 l'.length c9)) := Fr.setCell (S := fun k => k = b) (a := ⟨b, 0, none⟩) (Fr.refl _ _) (.inl rfl) _
  have hlo : ∀ a, a9 = some a → w.heap.size ≤ a.block ∧ a.block < w9.heap.size := fun a ha => by subst ha; exact hown.lt a.block rfl
  refine ⟨{ row := ⟨a9, c9, ?_, ?_, ?_⟩, flows := ?_, hb := .inl h.hb, sub := ?_, disj := hd, lt := h.lt.ext hF.size, ok := ?_, rise := hr }, hF⟩
  · simpa using (h1.below hb).set 0 (.slice a9 l'.length c9)
  · refine owns_base (owns_fr hown hS fun k hk => ?_) (Nat.zero_le _)
    cases a9 with
    | none => cases hk
    | some a => cases hk; have := hlo a rfl; omega
  · intro a ha
    have h4 := hlo a ha
    refine ⟨.inr ⟨h4.1, by rw [hs]; exact h4.2⟩, by omega, fun e he hk => ?_⟩
    rcases hl e he with h5 | ⟨h5, h6, h7, h8⟩
    · have := h.lt _ (h.sub e h5 _ hk).1; omega
    · exact h8 a ha hk
  · intro e he
    rcases hl e he with h5 | ⟨h5, h6, h7, h8⟩
    · exact ((h.flows e h5).below hb).fr hS fun k hk => (h.sub e h5 k hk).2
    · exact h5.fr hS fun k hk e' => by have := h7 k hk; omega
  · intro e he k hk
    rcases hl e he with h5 | ⟨h5, h6, h7, h8⟩
    · exact ⟨.inl (h.sub e h5 k hk).1, (h.sub e h5 k hk).2⟩
    · have := h7 k hk
      exact ⟨.inr ⟨this.1, by rw [hs]; exact this.2⟩, by omega⟩
  · intro e he
    rcases hl e he with h5 | ⟨h5, h6, h7, h8⟩
    · exact h.ok e h5
    · exact h6
theorem pairwise_ins {α : Type} {R : α → α → Prop} {l : List α} {e : α} (K : Nat) (h : l.Pairwise R) (h1 : ∀ a ∈ l.take K, R a e) (h2 : ∀ a ∈ l.drop K, R e a) : (l.take K ++ e :: l.drop K).Pairwise R := by
  have h' := h
  rw [← List.take_append_drop K l, List.pairwise_append] at h'
  obtain ⟨p1, p2, p3⟩ := h'
  rw [List.pairwise_append, List.pairwise_cons]
  refine ⟨p1, ⟨h2, p2⟩, fun a ha c hc => ?_⟩
  rcases List.mem_cons.1 hc with rfl | hc
  · exact h1 a ha
  · exact p3 a ha c hc
theorem mem_ins {α : Type} {l : List α} {e a : α} {K : Nat} (h : a ∈ l.take K ++ e :: l.drop K) : a = e ∨ a ∈ l := by
  rcases List.mem_append.1 h with h | h
  · exact .inr (List.mem_of_mem_take h)
  · rcases List.mem_cons.1 h with h | h
    · exact .inl h
    · exact .inr (List.mem_of_mem_drop h)
def insK : List (Int × FlS) → Int → Nat
  | [], _ => 0
  | e :: l, id => if e.1 < id then insK l id + 1 else 0
def insF (fs : List (Int × FlS)) (e : Int × FlS) : List (Int × FlS) := fs.take (insK fs e.1) ++ e :: fs.drop (insK fs e.1)
def SfS.addR (t : SfS) (id r most : Int) : SfS := if (getF t.fs id).isSome then t else { t with fs := insF t.fs (id, FlS.new r most) }
theorem insK_le (fs : List (Int × FlS)) (id : Int) : insK fs id ≤ fs.length := by
  induction fs with
  | nil => exact Nat.le_refl _
  | cons e l ih => unfold insK; split <;> simp <;> omega
theorem insK_lt {fs : List (Int × FlS)} {id : Int} {k : Nat} {e : Int × FlS} (h : k < insK fs id) (he : fs[k]? = some e) : e.1 < id := by
  induction fs generalizing k with
  | nil => cases he
  | cons a l ih =>
    unfold insK at h
    by_cases ha : a.1 < id
    · rw [if_pos ha] at h
      cases k with
      | zero => simp at he; subst he; exact ha
      | succ k => exact ih (k := k) (by omega) (by simpa using he)
    · rw [if_neg ha] at h; omega
theorem insK_at {fs : List (Int × FlS)} {id : Int} {e : Int × FlS} (he : fs[insK fs id]? = some e) : ¬ e.1 < id := by
  induction fs with
  | nil => cases he
  | cons a l ih =>
    unfold insK at he
    by_cases ha : a.1 < id
    · rw [if_pos ha] at he; exact ih (by simpa using he)
    · rw [if_neg ha] at he; simp at he; subst he; exact ha


theorem insF_perm (fs : List (Int × FlS)) (e : Int × FlS) : (insF fs e).Perm (fs ++ [e]) := by
  unfold insF
  refine List.perm_middle.trans ?_
  rw [List.take_append_drop]
  exact (List.perm_append_singleton e fs).symm
/-- The last of adding one. -/
theorem add_end {w w3 w7 w8 w9 : World} {b : Nat} {v most : Int} {l : List FlR} {F : Nat → Prop} {fs : List (Int × FlS)} {id r m : Int} {K n d c7 c3 c8 c9 : Nat} {a3 a8 a9 : Option Addr}
    (h : RfR w b v most l F) (hl : l.map FlR.pl = fs) (hg : getF fs id = none) (hK : insK fs id = K) (hn : l.length = n) (hd : n - K = d) (hr : W64 r)
    (hb3 : Below w.heap.size w w3) (h3 : w3.ownsRow w.heap.size 101 1 (.slice a3 K c3) K ((ptrs l).take K)) (hb7 : Below w3.heap.size w3 w7) (hf7 : RefAt w7 c7 id (FlS.new r m) (fun k => w3.heap.size ≤ k ∧ k < w7.heap.size))
    (hg8 : w7.grownBy w8 (Value.slice a3 K c3).ownBlock) (hf8 : FreshOr w7 (.slice a3 K c3) (.slice a8 (K + 1) c8))
    (hg9 : w8.grownBy w9 (Value.slice a8 (K + 1) c8).ownBlock) (hf9 : FreshOr w8 (.slice a8 (K + 1) c8) (.slice a9 (K + 1 + d) c9))
    (hown : w9.ownsRow w.heap.size 101 1 (.slice a9 (K + 1 + d) c9) (K + 1 + d) ((ptrs l).take K ++ #[.pointer (some ⟨c7, 0, none⟩)].toList ++ (ptrs l).drop K)) (hb9 : Below w.heap.size w w9) :
    RfsPost b ⟨v, most, insF fs (id, FlS.new r m)⟩ F w (w9.setCell ⟨b, 0, none⟩ (.slice a9 (K + 1 + d) c9)) := by
  have hKn : K ≤ n := by rw [← hK, ← hn]; have := insK_le fs id; rw [← hl] at this ⊢; simpa using this
  have hlen : (l.take K ++ FlR.mk id c7 (FlS.new r m) (fun k => w3.heap.size ≤ k ∧ k < w7.heap.size) :: l.drop K).length = K + 1 + d := by
    simp only [List.length_append, List.length_take, List.length_cons, List.length_drop, hn]
    omega
  have hpt : ptrs (l.take K ++ FlR.mk id c7 (FlS.new r m) (fun k => w3.heap.size ≤ k ∧ k < w7.heap.size) :: l.drop K) = (ptrs l).take K ++ #[.pointer (some ⟨c7, 0, none⟩)].toList ++ (ptrs l).drop K := by
    unfold ptrs
    rw [List.map_append, List.map_cons, List.map_take, List.map_drop, List.append_assoc]
    rfl
  have hno : ∀ e ∈ l, e.id ≠ id := by
    rw [← hl, getF_pl] at hg
    have : getR l id = none := by
      cases hx : getR l id with
      | none => rfl
      | some e => rw [hx] at hg; cases hg
    exact getR_none.1 this
  have h3lt : ∀ k, (Value.slice a3 K c3).ownBlock = some k → k < w3.heap.size := fun k hk => (h3.lt k hk).2
  have h8n : ∀ k, (Value.slice a8 (K + 1) c8).ownBlock = some k → k < w3.heap.size ∨ w7.heap.size ≤ k := fun k hk => by
    rcases hf8 with hf | hf
    · rw [hf] at hk; exact .inl (h3lt k hk)
    · exact .inr (hf k hk)
  have h9n : ∀ k, (Value.slice a9 (K + 1 + d) c9).ownBlock = some k → k < w3.heap.size ∨ w7.heap.size ≤ k := fun k hk => by
    rcases hf9 with hf | hf
    · rw [hf] at hk; exact h8n k hk
    · have := hf k hk; have := hg8.size; exact .inr (by omega)
  have hs3 := hb3.size
  have hs7 := hb7.size
  have hs8 := hg8.size
  have hs9 := hg9.size
  have hf8' : RefAt w8 c7 id (FlS.new r m) (fun k => w3.heap.size ≤ k ∧ k < w7.heap.size) :=
    hf7.fr (S := fun k => (Value.slice a3 K c3).ownBlock = some k) ((Fr.refl _ _).grown hg8 fun k hk => .inl hk) fun k hk hk' => by have := h3lt k hk'; omega
  have hf9' : RefAt w9 c7 id (FlS.new r m) (fun k => w3.heap.size ≤ k ∧ k < w7.heap.size) :=
    hf8'.fr (S := fun k => (Value.slice a8 (K + 1) c8).ownBlock = some k) ((Fr.refl _ _).grown hg9 fun k hk => .inl hk) fun k hk hk' => by have := h8n k hk'; omega
  rw [← hlen] at hown ⊢
  obtain ⟨hR, hF⟩ := h.rowed (l' := l.take K ++ FlR.mk id c7 (FlS.new r m) (fun k => w3.heap.size ≤ k ∧ k < w7.heap.size) :: l.drop K) hb9 (by rw [hpt]; exact hown) (fun e he => by
      rcases mem_ins he with rfl | he
      · refine .inr ⟨hf9', FlS.new_ok hr, fun k hk => by simp only at hk; omega, fun a ha hk => ?_⟩
        have := h9n a.block (by rw [ha]; rfl)
        simp only at hk
        omega
      · exact .inl he)
    (pairwise_ins K h.disj (fun e he k hk hk' => by have := h.lt k (h.sub e (List.mem_of_mem_take he) k hk).1; simp only at hk'; omega) (fun e he k hk hk' => by have := h.lt k (h.sub e (List.mem_of_mem_drop he) k hk').1; simp only at hk; omega))
    (pairwise_ins K h.rise (fun e he => by
        obtain ⟨j, hj⟩ := List.getElem?_of_mem he
        have hjK : j < K := by
          rcases Nat.lt_or_ge j K with h | h
          · exact h
          · rw [List.getElem?_eq_none (by rw [List.length_take]; omega)] at hj; cases hj
        rw [List.getElem?_take_of_lt hjK] at hj
        exact insK_lt (fs := fs) (e := e.pl) (by rw [hK]; exact hjK) (by rw [← hl]; simp [hj]))
      (fun e he => by
        obtain ⟨j, hj⟩ := List.getElem?_of_mem he
        rw [List.getElem?_drop] at hj
        have hne := hno e (List.mem_of_mem_drop he)
        show id < e.id
        rcases Nat.eq_zero_or_pos j with rfl | hj0
        · have : ¬ e.pl.1 < id := insK_at (fs := fs) (e := e.pl) (by rw [hK, ← hl, List.getElem?_map]; rw [Nat.add_zero] at hj; rw [hj]; rfl)
          have : ¬ e.id < id := this
          omega
        · have hKl : K < l.length := by
            rcases Nat.lt_or_ge K l.length with h | h
            · exact h
            · rw [List.getElem?_eq_none (by omega)] at hj; cases hj
          have h0 : l[K]? = some l[K] := List.getElem?_eq_getElem hKl
          have h1 : ¬ (l[K]).pl.1 < id := insK_at (fs := fs) (e := (l[K]).pl) (by rw [hK, ← hl]; simp [h0])
          have h1 : ¬ (l[K]).id < id := h1
          have h2 := rise_lt h.rise h0 hj (by omega)
          omega))
  refine ⟨⟨_, ?_, hR⟩, hF⟩
  show _ = insF fs (id, FlS.new r m)
  unfold insF
  rw [hK, ← hl, List.map_append, List.map_cons, List.map_take, List.map_drop]
  rfl
end Go.Proofs.Ytfgfjnlkgadkhaa
