/- Words for memory that the walks share: what a slice reads as, a slice that the call itself made, appending to it, and regions that only read while calls make memory. Over any program. -/
import Derived.WalkKit
import Derived.WalkSpells
import Derived.Lib.Hide
import Derived.ArgAppend
import Derived.Below
import Derived.Deep.RegionHeld3
import Derived.Deep.AppendLies
import Derived.Laws.AppendOwnNone
import Derived.Maps.AppendAt
namespace Go.Proofs.YtfgfjnlkgadkhaaMem
set_option linter.unusedVariables false
set_option linter.unusedSimpArgs false
open Go Go.RowKit

/-! ### Below -/
theorem below_trans {B : Nat} {a b c : World} (h : Below B a b) (k : Below b.heap.size b c) (hB : B ≤ b.heap.size) : Below B a c := h.trans (k.mono hB)
theorem below_step {a b c : World} (h : Below a.heap.size a b) (k : Below b.heap.size b c) : Below a.heap.size a c := h.trans (k.mono h.size)
/-- The facts on cells in the form that the walk takes for rules. -/
def Cells (W w : World) : Prop := Below W.heap.size W w ∧ (∀ b o, b < W.heap.size → w.cell? ⟨b, o, none⟩ = W.cell? ⟨b, o, none⟩)
theorem hs_refl {W w1 : World} (hb : Below W.heap.size W w1) : Below W.heap.size W w1 ∧ (∀ b o, b < W.heap.size → w1.cell? ⟨b, o, none⟩ = W.cell? ⟨b, o, none⟩) :=
  ⟨hb, fun b o h => hb.cell (p := ⟨b, o, none⟩) h⟩
theorem hs_step {W w1 w2 : World} (h : Below W.heap.size W w1 ∧ (∀ b o, b < W.heap.size → w1.cell? ⟨b, o, none⟩ = W.cell? ⟨b, o, none⟩)) (hb : Below w1.heap.size w1 w2) : Below W.heap.size W w2 ∧ (∀ b o, b < W.heap.size → w2.cell? ⟨b, o, none⟩ = W.cell? ⟨b, o, none⟩) :=
  hs_refl (h.1.trans (hb.mono h.1.size))

/-! ### Lists of numbers -/
def nth (zs : List Int) (k : Nat) : Int := zs.getD k 0
theorem nth_eq {zs : List Int} {k : Nat} (h : k < zs.length) : nth zs k = zs[k] := by simp [nth, h]
def I64 (z : Int) : Prop := -9223372036854775808 ≤ z ∧ z ≤ 9223372036854775807
instance (z : Int) : Decidable (I64 z) := by unfold I64; infer_instance
def ints (zs : List Int) : List Value := zs.map (Value.int .i64)
theorem ints_append (a b : List Int) : ints (a ++ b) = ints a ++ ints b := by simp [ints]
theorem ints_length (a : List Int) : (ints a).length = a.length := by simp [ints]

/-- What a slice of numbers reads as, wherever it lies. -/
structure RdI (w : World) (ao : Option Addr) (n cap : Nat) (zs : List Int) : Prop where
  len : zs.length = n
  le : n ≤ cap
  nil : ao = none → n = 0 ∧ cap = 0
  small : n ≤ 9223372036854775807
  fits : ∀ z ∈ zs, I64 z
  at_ : ∀ k, k < n → ∃ b off, ao = some ⟨b, off, none⟩ ∧ b < w.heap.size ∧ w.cell? ⟨b, off + k, none⟩ = some (.int .i64 (nth zs k))
theorem RdI.below {B : Nat} {w w' : World} {ao : Option Addr} {n cap : Nat} {zs : List Int} (h : RdI w ao n cap zs) (hb : Below w.heap.size w w') : RdI w' ao n cap zs :=
  ⟨h.len, h.le, h.nil, h.small, h.fits, fun k hk => let ⟨b, off, e, hlt, hc⟩ := h.at_ k hk; ⟨b, off, e, Nat.lt_of_lt_of_le hlt hb.size, (hb.cell (p := ⟨b, off + k, none⟩) hlt).trans hc⟩⟩
theorem RdI.held {W w' : World} {ao : Option Addr} {n cap : Nat} {zs : List Int} (h : RdI W ao n cap zs) (hs : Below W.heap.size W w' ∧ (∀ b o, b < W.heap.size → w'.cell? ⟨b, o, none⟩ = W.cell? ⟨b, o, none⟩)) : RdI w' ao n cap zs := RdI.below (B := 0) h hs.1
theorem RdI.nth_fits {w : World} {ao : Option Addr} {n cap : Nat} {zs : List Int} (h : RdI w ao n cap zs) (k : Nat) : I64 (nth zs k) := by
  by_cases hk : k < zs.length
  · rw [nth_eq hk]; exact h.fits _ (List.getElem_mem hk)
  · have : nth zs k = 0 := by simp [nth, List.getD_eq_getElem?_getD, List.getElem?_eq_none (show zs.length ≤ k by omega)]
    rw [this]; unfold I64; omega

/-! ### Rows that the call itself made -/
theorem owns_below {B : Nat} {w w' : World} {base : Nat} {e : TypeId} {size : Nat} {v : Value} {n : Nat} {xs : List Value} (h : w.ownsRow base e size v n xs) (hb : Below w.heap.size w w') : w'.ownsRow base e size v n xs := by
  refine ⟨h.1, ?_⟩
  rcases h.2 with h2 | ⟨g, cap, cur, hv, hg, hh, r⟩
  · exact .inl h2
  · refine .inr ⟨g, cap, cur, hv, hg, ?_, r⟩
    have hlt : g < w.heap.size := by
      rcases Nat.lt_or_ge g w.heap.size with hlt | hge
      · exact hlt
      · rw [Array.getElem?_eq_none hge] at hh; cases hh
    rw [hb.block g hlt]; exact hh
theorem owns_base {w : World} {base base' : Nat} {e : TypeId} {size : Nat} {v : Value} {n : Nat} {xs : List Value} (h : w.ownsRow base e size v n xs) (hb : base' ≤ base) : w.ownsRow base' e size v n xs := by
  refine ⟨h.1, ?_⟩
  rcases h.2 with h2 | ⟨g, cap, cur, hv, hg, r⟩
  · exact .inl h2
  · exact .inr ⟨g, cap, cur, hv, by omega, r⟩
theorem owns_slice {w : World} {base : Nat} {e : TypeId} {size : Nat} {v : Value} {n : Nat} {xs : List Value} (h : w.ownsRow base e size v n xs) : ∃ ao cap, v = .slice ao n cap := by
  rcases h.2 with ⟨rfl, rfl⟩ | ⟨g, cap, cur, rfl, _⟩
  · exact ⟨none, 0, rfl⟩
  · exact ⟨_, cap, rfl⟩
theorem owns_cap {w : World} {base : Nat} {e : TypeId} {size : Nat} {ao : Option Addr} {n m cap : Nat} {xs : List Value} (h : w.ownsRow base e size (.slice ao m cap) n xs) : n = m ∧ n ≤ cap ∧ cap ≤ maxLen ∧ (ao = none → n = 0 ∧ cap = 0) := by
  rcases h.2 with ⟨hv, hn⟩ | ⟨g, cap', cur, hv, _, _, h1, h2, _⟩
  · simp only [Value.slice.injEq] at hv
    obtain ⟨rfl, rfl, rfl⟩ := hv
    exact ⟨hn, by omega, by unfold maxLen; omega, fun _ => ⟨hn, rfl⟩⟩
  · simp only [Value.slice.injEq] at hv
    obtain ⟨rfl, rfl, rfl⟩ := hv
    exact ⟨rfl, h1, h2, fun h => by cases h⟩
theorem owns_at {w : World} {base : Nat} {e : TypeId} {size : Nat} {ao : Option Addr} {n cap : Nat} {xs : List Value} (h : w.ownsRow base e size (.slice ao n cap) n xs) {j : Nat} {u : Value} (hu : xs[j]? = some u) :
    ∃ g, ao = some ⟨g, 0, none⟩ ∧ base ≤ g ∧ g < w.heap.size ∧ w.cell? ⟨g, 0 + j, none⟩ = some u := by
  rcases h.2 with ⟨hv, hn⟩ | ⟨g, cap', cur, hv, hb, hh, _, _, hs, ht⟩
  · have := h.1; subst hn; simp at this; subst this; simp at hu
  · simp only [Value.slice.injEq] at hv
    obtain ⟨rfl, _, rfl⟩ := hv
    refine ⟨g, rfl, hb, ?_, ?_⟩
    · rcases Nat.lt_or_ge g w.heap.size with hlt | hge
      · exact hlt
      · rw [Array.getElem?_eq_none hge] at hh; cases hh
    · have h1 := h.cells (g := g) rfl j u hu
      have e1 : ((⟨g, 0, none⟩ : Addr).add j) = ⟨g, 0 + j, none⟩ := by unfold Addr.add; split <;> simp_all
      rw [e1] at h1
      exact h1
theorem owns_rdI {w : World} {base : Nat} {e : TypeId} {ao : Option Addr} {n cap : Nat} {zs : List Int} (h : w.ownsRow base e 1 (.slice ao n cap) n (ints zs)) (hf : ∀ z ∈ zs, I64 z) : RdI w ao n cap zs := by
  have hl : zs.length = n := by have := h.1; simpa [ints] using this
  refine ⟨hl, (owns_cap h).2.1, (owns_cap h).2.2.2, ?_, hf, fun k hk => ?_⟩
  · have := (owns_cap h).2; have := this.1; have := (owns_cap h).2.2.1; unfold maxLen at this; omega
  · have hu : (ints zs)[k]? = some (.int .i64 (nth zs k)) := by
      simp only [ints, List.getElem?_map, List.getElem?_eq_getElem (show k < zs.length by omega), Option.map_some, nth_eq (show k < zs.length by omega)]
    obtain ⟨g, rfl, _, hlt, hc⟩ := owns_at h hu
    exact ⟨g, 0, rfl, hlt, hc⟩
theorem owns_lt {w : World} {base : Nat} {e : TypeId} {size : Nat} {v : Value} {n : Nat} {xs : List Value} (h : w.ownsRow base e size v n xs) : ∀ k, v.ownBlock = some k → base ≤ k ∧ k < w.heap.size := h.lt

/-- A call that hands back a new row, and changes nothing that was there. -/
def RetRow (w : World) (e : TypeId) (size n : Nat) (xs : List Value) (en : Ending) (w' : World) : Prop := ∃ v, en = .returned v ∧ w'.ownsRow w.heap.size e size v n xs ∧ Below w.heap.size w w'
/-- What the model's table says of a slice type: its element's type, zero, cells and bytes. -/
structure ElT (P : Program) (t e : TypeId) (z : Value) (size : Nat) : Prop where
  under : P.underlying t = some (.slice e)
  info : ∃ bytes, (P.info? e).map (fun i => (i.zero, i.size, i.bytes)) = some (some z, size, bytes) ∧ bytes ≤ 128
  zsize : z.cells.size = size
  pos : 0 < size

section
variable {P : Program} {ops : Array Oper} {rest : List Oper} {o : Oper} {a : Act} {Q : Exit → Act → World → Prop}

/-- A row that was appended to lies where it lay, or in a block that was made since. -/
def FreshOr (w : World) (v v' : Value) : Prop := v'.ownBlock = v.ownBlock ∨ ∀ k, v'.ownBlock = some k → w.heap.size ≤ k
theorem wp_append_at {K : Act → World → Prop} (w : World) (s x : Operand) (t : TypeId)
    (ho : o.op = .call { callee := .builtin .append, args := #[s, x], argTypes := #[t, t] })
    (base : Nat) (e : TypeId) (i : TypeInfo) (z : Value) (size bytes : Nat) (ht : P.underlying t = some (.slice e)) (hi : P.info? e = some i) (hz : i.zero = some z)
    (hsize : i.size = size) (hby : i.bytes = bytes) (hzs : z.cells.size = size) (hsz : 0 < size)
    (v : Value) (n : Nat) (xs : List Value) (hs : a.eval s = v) (hown : w.ownsRow base e size v n xs)
    (ad : Addr) (m c : Nat) (news : List Value) (hx : a.eval x = .slice (some ad) m c) (hl : news.length = m * size) (hnews : ∀ j u, news[j]? = some u → w.cell? (ad.add j) = some u) (h1 : ∀ u ∈ news, u.oneCell' = true)
    (h63 : n + m ≤ maxLen) (hbytes : (n + m) * bytes ≤ 140737488355328) (hbase : base ≤ w.heap.size)
    (h : ∀ v' w', w'.ownsRow base e size v' (n + m) (xs ++ news) → w.grownBy w' v.ownBlock → (v'.ownBlock = v.ownBlock ∨ v'.ownBlock = some w.heap.size) → K (a.put o.dst v') w') : o.wp P a w K Q := by
  obtain ⟨v', w', hr, h2, h3, _, h5⟩ := run_append_own_at (P := P) w base t o.type e i z size bytes ht hi hz hsize hby hzs hsz v n xs hown ad m c news hl hnews h1 h63 hbytes hbase
  unfold Oper.wp execOp
  simp only [ho, resolve, invoke, builtin, Sem.run_bind, Sem.run_pure, Result.andThen_ok, List.map_toArray, List.map_cons, List.map_nil, hs, hx, hr]
  exact h v' w' h2 h3 h5
theorem one1 {c : Value} (h : c.oneCell' = true) : ∀ u ∈ (#[c] : Array Value).toList, u.oneCell' = true := by simp [h]
theorem news_new (w : World) (cs : Array Value) (e : TypeId) : ∀ j u, cs.toList[j]? = some u → (w.alloc (.cells cs e)).cell? ((⟨w.heap.size, 0, none⟩ : Addr).add j) = some u :=
  World.news_of_block (t := e) (fr := (0, 0)) (heap_alloc_new w _)

/-- 'append(v, elements..)', the elements laid in a new block just ahead of it. -/
theorem ap_new (w : World) (cs : Array Value) {t e : TypeId} {z : Value} {size : Nat} (E : ElT P t e z size) (hgd : o.guard = none) (s x : Operand) (ho : o.op = .call { callee := .builtin .append, args := #[s, x], argTypes := #[t, t] })
    (base : Nat) (v : Value) (n : Nat) (xs : List Value) (hs : a.eval s = v) (hown : w.ownsRow base e size v n xs) (hbase : base ≤ w.heap.size)
    (m : Nat) (hx : a.eval x = .slice (some ⟨w.heap.size, 0, none⟩) m m) (hl : cs.size = m * size) (h1 : ∀ u ∈ cs.toList, u.oneCell' = true) (hn : n + m ≤ 1099511627776)
    (h : ∀ v' w', w'.ownsRow base e size v' (n + m) (xs ++ cs.toList) → w.grownBy w' v.ownBlock → Below base w w' → FreshOr w v v' → wpList P ops Q rest (a.put o.dst v') w') : wpList P ops Q (o :: rest) a (w.alloc (.cells cs e)) := by
  obtain ⟨bytes, hi, hb⟩ := E.info
  obtain ⟨i, hi, hz0, hz1, hz2⟩ := info_parts hi
  have hbb : (n + m) * bytes ≤ 1099511627776 * 128 := Nat.mul_le_mul hn hb
  refine wpList_plain hgd fun K hK => wp_append_at (w.alloc (.cells cs e)) s x t ho base e i z size bytes E.under hi hz0 hz1 hz2 E.zsize E.pos v n xs hs (hown.alloc _) ⟨w.heap.size, 0, none⟩ m m cs.toList hx (by simpa using hl) (news_new w cs e) h1 (by unfold maxLen; omega) (by omega) (by simp; omega) ?_
  intro v' w' h2 h3 h5
  have hg : w.grownBy w' v.ownBlock := by
    have g1 := World.grownBy_alloc w (.cells cs e) v.ownBlock
    exact ⟨h3.os.trans g1.os, h3.tape.trans g1.tape, h3.output.trans g1.output, Nat.le_trans g1.size h3.size, fun k hk hne => (h3.block k (Nat.lt_of_lt_of_le hk g1.size) hne).trans (g1.block k hk hne)⟩
  refine hK _ _ (h v' w' h2 hg ((Below.refl base w).grown hg hbase fun k hk => (hown.lt k hk).1) ?_)
  rcases h5 with h5 | h5
  · exact .inl h5
  · refine .inr fun k hk => ?_
    rw [hk] at h5; simp at h5; omega

theorem grown_through {w w1 w' : World} {r : Option Nat} (g1 : w.grownBy w1 none) (h3 : w1.grownBy w' r) : w.grownBy w' r :=
  ⟨h3.os.trans g1.os, h3.tape.trans g1.tape, h3.output.trans g1.output, Nat.le_trans g1.size h3.size, fun k hk hne => (h3.block k (Nat.lt_of_lt_of_le hk g1.size) hne).trans (g1.block k hk (by simp))⟩

/-- The same at a step of a region that draws its order. -/
theorem step_ap_new {K : Act → World → Prop} {Ep : Prop} (w : World) (cs : Array Value) {t e : TypeId} {z : Value} {size : Nat} (E : ElT P t e z size) (hgd : o.guard = none) (s x : Operand) (ho : o.op = .call { callee := .builtin .append, args := #[s, x], argTypes := #[t, t] })
    (base : Nat) (v : Value) (n : Nat) (xs : List Value) (hs : a.eval s = v) (hown : w.ownsRow base e size v n xs) (hbase : base ≤ w.heap.size)
    (m : Nat) (hx : a.eval x = .slice (some ⟨w.heap.size, 0, none⟩) m m) (hl : cs.size = m * size) (h1 : ∀ u ∈ cs.toList, u.oneCell' = true) (hn : n + m ≤ 1099511627776)
    (h : ∀ v' w', w'.ownsRow base e size v' (n + m) (xs ++ cs.toList) → w.grownBy w' v.ownBlock → Below base w w' → FreshOr w v v' → K (a.put o.dst v') w') :
    if Region.wanted o (yielded ops a.tmps) = true then Oper.wp P o a (w.alloc (.cells cs e)).drew K Q else Ep := by
  obtain ⟨bytes, hi, hb⟩ := E.info
  obtain ⟨i, hi, hz0, hz1, hz2⟩ := info_parts hi
  have hbb : (n + m) * bytes ≤ 1099511627776 * 128 := Nat.mul_le_mul hn hb
  rw [if_pos (by simp [Region.wanted, hgd])]
  refine wp_append_at (w.alloc (.cells cs e)).drew s x t ho base e i z size bytes E.under hi hz0 hz1 hz2 E.zsize E.pos v n xs hs (hown.alloc _).drew ⟨w.heap.size, 0, none⟩ m m cs.toList hx (by simpa using hl) (news_new w cs e) h1 (by unfold maxLen; omega) (by omega) (by simp; omega) ?_
  intro v' w' h2 h3 h5
  have hg : w.grownBy w' v.ownBlock := grown_through (World.grownBy_alloc w (.cells cs e) none) ⟨h3.os, h3.tape, h3.output, h3.size, h3.block⟩
  refine h v' w' h2 hg ((Below.refl base w).grown hg hbase fun k hk => (hown.lt k hk).1) ?_
  rcases h5 with h5 | h5
  · exact .inl h5
  · refine .inr fun k hk => ?_
    rw [hk] at h5; simp at h5; omega

/-- 'append(v, xs...)' behind what was made by 'make' or a literal, the source wherever it lies. -/
theorem ap_src (w : World) {t e : TypeId} {z : Value} {size : Nat} (E : ElT P t e z size) (hgd : o.guard = none) (s x : Operand) (ho : o.op = .call { callee := .builtin .append, args := #[s, x], argTypes := #[t, t] })
    (base : Nat) (v : Value) (n : Nat) (xs : List Value) (hs : a.eval s = v) (hown : w.ownsRow base e size v n xs) (hbase : base ≤ w.heap.size)
    (ao : Option Addr) (m c : Nat) (news : List Value) (hx : a.eval x = .slice ao m c) (hnone : ao = none → m = 0 ∧ c = 0) (hl : news.length = m * size) (hnews : ∀ j u, news[j]? = some u → ∃ b off, ao = some ⟨b, off, none⟩ ∧ w.cell? ⟨b, off + j, none⟩ = some u) (h1 : ∀ u ∈ news, u.oneCell' = true) (hn : n + m ≤ 1099511627776)
    (h : ∀ v' w', w'.ownsRow base e size v' (n + m) (xs ++ news) → w.grownBy w' v.ownBlock → Below base w w' → FreshOr w v v' → wpList P ops Q rest (a.put o.dst v') w') : wpList P ops Q (o :: rest) a w := by
  obtain ⟨bytes, hi, hb⟩ := E.info
  obtain ⟨i, hi, hz0, hz1, hz2⟩ := info_parts hi
  have hbb : (n + m) * bytes ≤ 1099511627776 * 128 := Nat.mul_le_mul hn hb
  cases ao with
  | none =>
    obtain ⟨rfl, rfl⟩ := hnone rfl
    have hnil : news = [] := List.eq_nil_of_length_eq_zero (by simpa using hl)
    subst hnil
    refine wpList_append_own_none hgd s x t ho base e i size E.under hi v n xs hs hown hx ?_
    exact h v w (by simpa using hown) ⟨rfl, rfl, rfl, Nat.le_refl _, fun _ _ _ => rfl⟩ (Below.refl _ _) (.inl rfl)
  | some ad =>
    refine wpList_plain hgd fun K hK => wp_append_at w s x t ho base e i z size bytes E.under hi hz0 hz1 hz2 E.zsize E.pos v n xs hs hown ad m c news hx hl ?_ h1 (by unfold maxLen; omega) (by omega) hbase ?_
    · intro j u hu
      obtain ⟨b, off, he, hc⟩ := hnews j u hu
      cases he
      have e1 : ((⟨b, off, none⟩ : Addr).add j) = ⟨b, off + j, none⟩ := by unfold Addr.add; split <;> simp_all
      rw [e1]; exact hc
    · intro v' w' h2 h3 h5
      refine hK _ _ (h v' w' h2 h3 ((Below.refl base w).grown h3 hbase fun k hk => (hown.lt k hk).1) ?_)
      rcases h5 with h5 | h5
      · exact .inl h5
      · refine .inr fun k hk => ?_
        rw [hk] at h5; simp at h5; omega
end

/-! ### Spare room -/
theorem owns_spare {w : World} {base : Nat} {e : TypeId} {size g n cap : Nat} {xs : List Value} (h : w.ownsRow base e size (.slice (some ⟨g, 0, none⟩) n cap) n xs) {j : Nat} (hj : j < cap * size) : ∃ u, w.cell? ⟨g, j, none⟩ = some u := by
  rcases h.2 with ⟨hv, _⟩ | ⟨g', cap', cur, hv, _, hh, _, _, hs, _⟩
  · simp at hv
  · simp only [Value.slice.injEq, Option.some.injEq, Addr.mk.injEq, and_true, true_and] at hv
    obtain ⟨rfl, rfl⟩ := hv
    exact ⟨cur[j], by simp [World.cell?, hh, Array.getElem?_eq_getElem (show j < cur.size by omega)]⟩
theorem owns_push {w : World} {base : Nat} {e : TypeId} {g n cap : Nat} {xs : List Value} (h : w.ownsRow base e 1 (.slice (some ⟨g, 0, none⟩) n cap) n xs) (hn : n < cap) (u : Value) :
    (w.setCell ⟨g, n, none⟩ u).ownsRow base e 1 (.slice (some ⟨g, 0, none⟩) (n + 1) cap) (n + 1) (xs ++ [u]) := by
  have hl := h.1
  rcases h.2 with ⟨hv, _⟩ | ⟨g', cap', cur, hv, hb, hh, hnc, hm, hs, ht⟩
  · simp at hv
  · simp only [Value.slice.injEq, Option.some.injEq, Addr.mk.injEq, and_true, true_and] at hv
    obtain ⟨rfl, rfl⟩ := hv
    refine ⟨by simp [hl], .inr ⟨g, cap, cur.setIfInBounds n u, rfl, hb, ?_, by omega, hm, by simpa using hs, ?_⟩⟩
    · simp [World.setCell, Array.getElem?_modify, hh]
    · have hlt : n < cur.size := by omega
      simp only [Array.toList_setIfInBounds]
      rw [show (n + 1) * 1 = n + 1 by omega, List.take_add_one, List.take_set_of_le (Nat.le_refl n)]
      simp only [Nat.mul_one] at ht
      rw [ht]
      simp [hlt]
/-- Grown but for a row: what lies elsewhere stays owned. -/
theorem owns_grown {w w' : World} {base : Nat} {e : TypeId} {size : Nat} {v : Value} {n : Nat} {xs : List Value} {r : Option Nat} (h : w.ownsRow base e size v n xs) (hg : w.grownBy w' r) (hne : ∀ k, v.ownBlock = some k → r ≠ some k) : w'.ownsRow base e size v n xs := by
  cases hv : v.ownBlock with
  | none => exact h.kept hg (.inl hv)
  | some k => exact h.kept hg (.inr (by rw [hv]; exact fun e => hne k hv e.symm))
/-- An empty literal: 'make' of nothing, '[]T{}'. -/
theorem owns_empty (w : World) (base : Nat) (e : TypeId) (size : Nat) (hb : base ≤ w.heap.size) : (w.alloc (.cells #[] e)).ownsRow base e size (.slice (some ⟨w.heap.size, 0, none⟩) 0 0) 0 [] :=
  World.ownsRow_made w #[] 0 hb (by unfold maxLen; omega) (by simp)

/-- A literal of numbers, in the block that was laid for it. -/
theorem lit_rdI (w : World) (e : TypeId) (cs : Array Value) (zs : List Int) (hcs : cs = (ints zs).toArray) (hf : ∀ z ∈ zs, I64 z) (hm : zs.length ≤ 9223372036854775807) (B n : Nat) (hB : w.heap.size = B) (hn : zs.length = n) :
    RdI (w.alloc (.cells cs e)) (some ⟨B, 0, none⟩) n n zs := by
  subst hB; subst hn; subst hcs
  have h := World.ownsRow_lit (e := e) (size := 1) (base := 0) w (ints zs).toArray zs.length (Nat.zero_le _) (by unfold maxLen; omega) (by simp [ints])
  exact owns_rdI (by simpa using h) hf
theorem nil_rdI (w : World) : RdI w none 0 0 [] := ⟨rfl, Nat.le_refl _, fun _ => ⟨rfl, rfl⟩, by omega, (fun z hz => by cases hz), fun k hk => by omega⟩
theorem i64_of_wf {n : Int} (h : (Lit.int .i64 n).wf = true) : I64 n := by
  simp only [Lit.wf, Bool.and_eq_true, decide_eq_true_eq, IntKind.min, IntKind.max] at h
  unfold I64
  have h1 := h.1; have h2 := h.2
  simp [IntKind.signed, IntKind.bits] at h1 h2
  omega
end Go.Proofs.YtfgfjnlkgadkhaaMem
