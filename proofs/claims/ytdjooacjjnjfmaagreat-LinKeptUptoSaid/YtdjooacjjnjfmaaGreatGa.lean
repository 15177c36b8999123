/- Several texts in one: Mem Obj MemS MapK IntKey MapD MapR LinP. -/
import Derived.WalkKit
import Derived.WalkSpells
import Derived.Lib.Hide
import Derived.ArgAppend
import Derived.Below
import Derived.Deep.RegionHeld3
import Derived.Deep.AppendLies
import Derived.Laws.AppendOwnNone
import Derived.Maps.AppendAt
import Derived.Lib.SliceRun
import Derived.ChangeMaps5
import Derived.Maps.Own
import Derived.Test.YtdjooacjjnjfmaaGreatChecked
import Derived.Laws.StructEq
import Derived.Laws.Cover2
import Derived.KernelRfl
import Derived.Maps.RangeRun
-- Words for memory that the walks share: what a slice reads as, a slice that the call itself made, appending to it, and regions that only read while calls make memory. Over any program.
section
namespace Go.Proofs.YtdjooacjjnjfmaaGreatMem
set_option linter.unusedVariables false
set_option linter.unusedSimpArgs false
open Go Go.RowKit

/-! ### Below -/
theorem below_trans {B : Nat} {a b c : World} (h : Below B a b) (k : Below b.heap.size b c) (hB : B ≤ b.heap.size) : Below B a c := h.trans (k.mono hB)
theorem below_step {a b c : World} (h : Below a.heap.size a b) (k : Below b.heap.size b c) : Below a.heap.size a c := h.trans (k.mono h.size)
/-- The facts on cells in the form that the walk takes for rules. -/
def Cells (W w : World) : Prop := Below W.heap.size W w ∧ (∀ b o, b < W.heap.size → w.cell? ⟨b, o, none⟩ = W.cell? ⟨b, o, none⟩)
theorem hs_refl {W w1 : World} (hb : Below W.heap.size W w1) : Below W.heap.size W w1 ∧ (∀ b o, b < W.heap.size → w1.cell? ⟨b, o, none⟩ = W.cell? ⟨b, o, none⟩) :=
  ⟨hb, fun b o h => hb.cell (p := ⟨b, o, none⟩) h⟩
theorem hs_step {W w1 w2 : World} (h : Below W.heap.size W w1 ∧ (∀ b o, b < W.heap.size → w1.cell? ⟨b, o, none⟩ = W.cell? ⟨b, o, none⟩)) (hb : Below w1.heap.size w1 w2) : Below W.heap.size W w2 ∧ (∀ b o, b < W.heap.size → w2.cell? ⟨b, o, none⟩ = W.cell? ⟨b, o, none⟩) :=
  hs_refl (h.1.trans (hb.mono h.1.size))

/-! ### Lists of numbers -/
def nth (zs : List Int) (k : Nat) : Int := zs.getD k 0
theorem nth_eq {zs : List Int} {k : Nat} (h : k < zs.length) : nth zs k = zs[k] := by simp [nth, h]
def I64 (z : Int) : Prop := -9223372036854775808 ≤ z ∧ z ≤ 9223372036854775807
instance (z : Int) : Decidable (I64 z) := by unfold I64; infer_instance
def ints (zs : List Int) : List Value := zs.map (Value.int .i64)
theorem ints_append (a b : List Int) : ints (a ++ b) = ints a ++ ints b := by simp [ints]
theorem ints_length (a : List Int) : (ints a).length = a.length := by simp [ints]

/-- What a slice of numbers reads as, wherever it lies. -/
structure RdI (w : World) (ao : Option Addr) (n cap : Nat) (zs : List Int) : Prop where
  len : zs.length = n
  le : n ≤ cap
  nil : ao = none → n = 0 ∧ cap = 0
  small : n ≤ 9223372036854775807
  fits : ∀ z ∈ zs, I64 z
  at_ : ∀ k, k < n → ∃ b off, ao = some ⟨b, off, none⟩ ∧ b < w.heap.size ∧ w.cell? ⟨b, off + k, none⟩ = some (.int .i64 (nth zs k))
theorem RdI.below {B : Nat} {w w' : World} {ao : Option Addr} {n cap : Nat} {zs : List Int} (h : RdI w ao n cap zs) (hb : Below w.heap.size w w') : RdI w' ao n cap zs :=
  ⟨h.len, h.le, h.nil, h.small, h.fits, fun k hk => let ⟨b, off, e, hlt, hc⟩ := h.at_ k hk; ⟨b, off, e, Nat.lt_of_lt_of_le hlt hb.size, (hb.cell (p := ⟨b, off + k, none⟩) hlt).trans hc⟩⟩
theorem RdI.held {W w' : World} {ao : Option Addr} {n cap : Nat} {zs : List Int} (h : RdI W ao n cap zs) (hs : Below W.heap.size W w' ∧ (∀ b o, b < W.heap.size → w'.cell? ⟨b, o, none⟩ = W.cell? ⟨b, o, none⟩)) : RdI w' ao n cap zs := RdI.below (B := 0) h hs.1
theorem RdI.nth_fits {w : World} {ao : Option Addr} {n cap : Nat} {zs : List Int} (h : RdI w ao n cap zs) (k : Nat) : I64 (nth zs k) := by
  by_cases hk : k < zs.length
  · rw [nth_eq hk]; exact h.fits _ (List.getElem_mem hk)
  · have : nth zs k = 0 := by simp [nth, List.getD_eq_getElem?_getD, List.getElem?_eq_none (show zs.length ≤ k by omega)]
    rw [this]; unfold I64; omega

/-! ### Rows that the call itself made -/
theorem owns_below {B : Nat} {w w' : World} {base : Nat} {e : TypeId} {size : Nat} {v : Value} {n : Nat} {xs : List Value} (h : w.ownsRow base e size v n xs) (hb : Below w.heap.size w w') : w'.ownsRow base e size v n xs := by
  refine ⟨h.1, ?_⟩
  rcases h.2 with h2 | ⟨g, cap, cur, hv, hg, hh, r⟩
  · exact .inl h2
  · refine .inr ⟨g, cap, cur, hv, hg, ?_, r⟩
    have hlt : g < w.heap.size := by
      rcases Nat.lt_or_ge g w.heap.size with hlt | hge
      · exact hlt
      · rw [Array.getElem?_eq_none hge] at hh; cases hh
    rw [hb.block g hlt]; exact hh
theorem owns_base {w : World} {base base' : Nat} {e : TypeId} {size : Nat} {v : Value} {n : Nat} {xs : List Value} (h : w.ownsRow base e size v n xs) (hb : base' ≤ base) : w.ownsRow base' e size v n xs := by
  refine ⟨h.1, ?_⟩
  rcases h.2 with h2 | ⟨g, cap, cur, hv, hg, r⟩
  · exact .inl h2
  · exact .inr ⟨g, cap, cur, hv, by omega, r⟩
theorem owns_slice {w : World} {base : Nat} {e : TypeId} {size : Nat} {v : Value} {n : Nat} {xs : List Value} (h : w.ownsRow base e size v n xs) : ∃ ao cap, v = .slice ao n cap := by
  rcases h.2 with ⟨rfl, rfl⟩ | ⟨g, cap, cur, rfl, _⟩
  · exact ⟨none, 0, rfl⟩
  · exact ⟨_, cap, rfl⟩
theorem owns_cap {w : World} {base : Nat} {e : TypeId} {size : Nat} {ao : Option Addr} {n m cap : Nat} {xs : List Value} (h : w.ownsRow base e size (.slice ao m cap) n xs) : n = m ∧ n ≤ cap ∧ cap ≤ maxLen ∧ (ao = none → n = 0 ∧ cap = 0) := by
  rcases h.2 with ⟨hv, hn⟩ | ⟨g, cap', cur, hv, _, _, h1, h2, _⟩
  · simp only [Value.slice.injEq] at hv
    obtain ⟨rfl, rfl, rfl⟩ := hv
    exact ⟨hn, by omega, by unfold maxLen; omega, fun _ => ⟨hn, rfl⟩⟩
  · simp only [Value.slice.injEq] at hv
    obtain ⟨rfl, rfl, rfl⟩ := hv
    exact ⟨rfl, h1, h2, fun h => by cases h⟩
theorem owns_at {w : World} {base : Nat} {e : TypeId} {size : Nat} {ao : Option Addr} {n cap : Nat} {xs : List Value} (h : w.ownsRow base e size (.slice ao n cap) n xs) {j : Nat} {u : Value} (hu : xs[j]? = some u) :
    ∃ g, ao = some ⟨g, 0, none⟩ ∧ base ≤ g ∧ g < w.heap.size ∧ w.cell? ⟨g, 0 + j, none⟩ = some u := by
  rcases h.2 with ⟨hv, hn⟩ | ⟨g, cap', cur, hv, hb, hh, _, _, hs, ht⟩
  · have := h.1; subst hn; simp at this; subst this; simp at hu
  · simp only [Value.slice.injEq] at hv
    obtain ⟨rfl, _, rfl⟩ := hv
    refine ⟨g, rfl, hb, ?_, ?_⟩
    · rcases Nat.lt_or_ge g w.heap.size with hlt | hge
      · exact hlt
      · rw [Array.getElem?_eq_none hge] at hh; cases hh
    · have h1 := h.cells (g := g) rfl j u hu
      have e1 : ((⟨g, 0, none⟩ : Addr).add j) = ⟨g, 0 + j, none⟩ := by unfold Addr.add; split <;> simp_all
      rw [e1] at h1
      exact h1
theorem owns_rdI {w : World} {base : Nat} {e : TypeId} {ao : Option Addr} {n cap : Nat} {zs : List Int} (h : w.ownsRow base e 1 (.slice ao n cap) n (ints zs)) (hf : ∀ z ∈ zs, I64 z) : RdI w ao n cap zs := by
  have hl : zs.length = n := by have := h.1; simpa [ints] using this
  refine ⟨hl, (owns_cap h).2.1, (owns_cap h).2.2.2, ?_, hf, fun k hk => ?_⟩
  · have := (owns_cap h).2; have := this.1; have := (owns_cap h).2.2.1; unfold maxLen at this; omega
  · have hu : (ints zs)[k]? = some (.int .i64 (nth zs k)) := by
      simp only [ints, List.getElem?_map, List.getElem?_eq_getElem (show k < zs.length by omega), Option.map_some, nth_eq (show k < zs.length by omega)]
    obtain ⟨g, rfl, _, hlt, hc⟩ := owns_at h hu
    exact ⟨g, 0, rfl, hlt, hc⟩
theorem owns_lt {w : World} {base : Nat} {e : TypeId} {size : Nat} {v : Value} {n : Nat} {xs : List Value} (h : w.ownsRow base e size v n xs) : ∀ k, v.ownBlock = some k → base ≤ k ∧ k < w.heap.size := h.lt

/-- A call that hands back a new row, and changes nothing that was there. -/
def RetRow (w : World) (e : TypeId) (size n : Nat) (xs : List Value) (en : Ending) (w' : World) : Prop := ∃ v, en = .returned v ∧ w'.ownsRow w.heap.size e size v n xs ∧ Below w.heap.size w w'
/-- What the model's table says of a slice type: its element's type, zero, cells and bytes. -/
structure ElT (P : Program) (t e : TypeId) (z : Value) (size : Nat) : Prop where
  under : P.underlying t = some (.slice e)
  info : ∃ bytes, (P.info? e).map (fun i => (i.zero, i.size, i.bytes)) = some (some z, size, bytes) ∧ bytes ≤ 128
  zsize : z.cells.size = size
  pos : 0 < size

section
variable {P : Program} {ops : Array Oper} {rest : List Oper} {o : Oper} {a : Act} {Q : Exit → Act → World → Prop}

/-- A row that was appended to lies where it lay, or in a block that was made since. -/
def FreshOr (w : World) (v v' : Value) : Prop := v'.ownBlock = v.ownBlock ∨ ∀ k, v'.ownBlock = some k → w.heap.size ≤ k
theorem wp_append_at {K : Act → World → Prop} (w : World) (s x : Operand) (t : TypeId)
    (ho : o.op = .call { callee := .builtin .append, args := #[s, x], argTypes := #[t, t] })
    (base : Nat) (e : TypeId) (i : TypeInfo) (z : Value) (size bytes : Nat) (ht : P.underlying t = some (.slice e)) (hi : P.info? e = some i) (hz : i.zero = some z)
    (hsize : i.size = size) (hby : i.bytes = bytes) (hzs : z.cells.size = size) (hsz : 0 < size)
    (v : Value) (n : Nat) (xs : List Value) (hs : a.eval s = v) (hown : w.ownsRow base e size v n xs)
    (ad : Addr) (m c : Nat) (news : List Value) (hx : a.eval x = .slice (some ad) m c) (hl : news.length = m * size) (hnews : ∀ j u, news[j]? = some u → w.cell? (ad.add j) = some u) (h1 : ∀ u ∈ news, u.oneCell' = true)
    (h63 : n + m ≤ maxLen) (hbytes : (n + m) * bytes ≤ 140737488355328) (hbase : base ≤ w.heap.size)
    (h : ∀ v' w', w'.ownsRow base e size v' (n + m) (xs ++ news) → w.grownBy w' v.ownBlock → (v'.ownBlock = v.ownBlock ∨ v'.ownBlock = some w.heap.size) → K (a.put o.dst v') w') : o.wp P a w K Q := by
  obtain ⟨v', w', hr, h2, h3, _, h5⟩ := run_append_own_at (P := P) w base t o.type e i z size bytes ht hi hz hsize hby hzs hsz v n xs hown ad m c news hl hnews h1 h63 hbytes hbase
  unfold Oper.wp execOp
  simp only [ho, resolve, invoke, builtin, Sem.run_bind, Sem.run_pure, Result.andThen_ok, List.map_toArray, List.map_cons, List.map_nil, hs, hx, hr]
  exact h v' w' h2 h3 h5
theorem one1 {c : Value} (h : c.oneCell' = true) : ∀ u ∈ (#[c] : Array Value).toList, u.oneCell' = true := by simp [h]
theorem news_new (w : World) (cs : Array Value) (e : TypeId) : ∀ j u, cs.toList[j]? = some u → (w.alloc (.cells cs e)).cell? ((⟨w.heap.size, 0, none⟩ : Addr).add j) = some u :=
  World.news_of_block (t := e) (fr := (0, 0)) (heap_alloc_new w _)

/-- 'append(v, elements..)', the elements laid in a new block just ahead of it. -/
theorem ap_new (w : World) (cs : Array Value) {t e : TypeId} {z : Value} {size : Nat} (E : ElT P t e z size) (hgd : o.guard = none) (s x : Operand) (ho : o.op = .call { callee := .builtin .append, args := #[s, x], argTypes := #[t, t] })
    (base : Nat) (v : Value) (n : Nat) (xs : List Value) (hs : a.eval s = v) (hown : w.ownsRow base e size v n xs) (hbase : base ≤ w.heap.size)
    (m : Nat) (hx : a.eval x = .slice (some ⟨w.heap.size, 0, none⟩) m m) (hl : cs.size = m * size) (h1 : ∀ u ∈ cs.toList, u.oneCell' = true) (hn : n + m ≤ 1099511627776)
    (h : ∀ v' w', w'.ownsRow base e size v' (n + m) (xs ++ cs.toList) → w.grownBy w' v.ownBlock → Below base w w' → FreshOr w v v' → wpList P ops Q rest (a.put o.dst v') w') : wpList P ops Q (o :: rest) a (w.alloc (.cells cs e)) := by
  obtain ⟨bytes, hi, hb⟩ := E.info
  obtain ⟨i, hi, hz0, hz1, hz2⟩ := info_parts hi
  have hbb : (n + m) * bytes ≤ 1099511627776 * 128 := Nat.mul_le_mul hn hb
  refine wpList_plain hgd fun K hK => wp_append_at (w.alloc (.cells cs e)) s x t ho base e i z size bytes E.under hi hz0 hz1 hz2 E.zsize E.pos v n xs hs (hown.alloc _) ⟨w.heap.size, 0, none⟩ m m cs.toList hx (by simpa using hl) (news_new w cs e) h1 (by unfold maxLen; omega) (by omega) (by simp; omega) ?_
  intro v' w' h2 h3 h5
  have hg : w.grownBy w' v.ownBlock := by
    have g1 := World.grownBy_alloc w (.cells cs e) v.ownBlock
    exact ⟨h3.os.trans g1.os, h3.tape.trans g1.tape, h3.output.trans g1.output, Nat.le_trans g1.size h3.size, fun k hk hne => (h3.block k (Nat.lt_of_lt_of_le hk g1.size) hne).trans (g1.block k hk hne)⟩
  refine hK _ _ (h v' w' h2 hg ((Below.refl base w).grown hg hbase fun k hk => (hown.lt k hk).1) ?_)
  rcases h5 with h5 | h5
  · exact .inl h5
  · refine .inr fun k hk => ?_
    rw [hk] at h5; simp at h5; omega

theorem grown_through {w w1 w' : World} {r : Option Nat} (g1 : w.grownBy w1 none) (h3 : w1.grownBy w' r) : w.grownBy w' r :=
  ⟨h3.os.trans g1.os, h3.tape.trans g1.tape, h3.output.trans g1.output, Nat.le_trans g1.size h3.size, fun k hk hne => (h3.block k (Nat.lt_of_lt_of_le hk g1.size) hne).trans (g1.block k hk (by simp))⟩

/-- The same at a step of a region that draws its order. -/
theorem step_ap_new {K : Act → World → Prop} {Ep : Prop} (w : World) (cs : Array Value) {t e : TypeId} {z : Value} {size : Nat} (E : ElT P t e z size) (hgd : o.guard = none) (s x : Operand) (ho : o.op = .call { callee := .builtin .append, args := #[s, x], argTypes := #[t, t] })
    (base : Nat) (v : Value) (n : Nat) (xs : List Value) (hs : a.eval s = v) (hown : w.ownsRow base e size v n xs) (hbase : base ≤ w.heap.size)
    (m : Nat) (hx : a.eval x = .slice (some ⟨w.heap.size, 0, none⟩) m m) (hl : cs.size = m * size) (h1 : ∀ u ∈ cs.toList, u.oneCell' = true) (hn : n + m ≤ 1099511627776)
    (h : ∀ v' w', w'.ownsRow base e size v' (n + m) (xs ++ cs.toList) → w.grownBy w' v.ownBlock → Below base w w' → FreshOr w v v' → K (a.put o.dst v') w') :
    if Region.wanted o (yielded ops a.tmps) = true then Oper.wp P o a (w.alloc (.cells cs e)).drew K Q else Ep := by
  obtain ⟨bytes, hi, hb⟩ := E.info
  obtain ⟨i, hi, hz0, hz1, hz2⟩ := info_parts hi
  have hbb : (n + m) * bytes ≤ 1099511627776 * 128 := Nat.mul_le_mul hn hb
  rw [if_pos (by simp [Region.wanted, hgd])]
  refine wp_append_at (w.alloc (.cells cs e)).drew s x t ho base e i z size bytes E.under hi hz0 hz1 hz2 E.zsize E.pos v n xs hs (hown.alloc _).drew ⟨w.heap.size, 0, none⟩ m m cs.toList hx (by simpa using hl) (news_new w cs e) h1 (by unfold maxLen; omega) (by omega) (by simp; omega) ?_
  intro v' w' h2 h3 h5
  have hg : w.grownBy w' v.ownBlock := grown_through (World.grownBy_alloc w (.cells cs e) none) ⟨h3.os, h3.tape, h3.output, h3.size, h3.block⟩
  refine h v' w' h2 hg ((Below.refl base w).grown hg hbase fun k hk => (hown.lt k hk).1) ?_
  rcases h5 with h5 | h5
  · exact .inl h5
  · refine .inr fun k hk => ?_
    rw [hk] at h5; simp at h5; omega

/-- 'append(v, xs...)' behind what was made by 'make' or a literal, the source wherever it lies. -/
theorem ap_src (w : World) {t e : TypeId} {z : Value} {size : Nat} (E : ElT P t e z size) (hgd : o.guard = none) (s x : Operand) (ho : o.op = .call { callee := .builtin .append, args := #[s, x], argTypes := #[t, t] })
    (base : Nat) (v : Value) (n : Nat) (xs : List Value) (hs : a.eval s = v) (hown : w.ownsRow base e size v n xs) (hbase : base ≤ w.heap.size)
    (ao : Option Addr) (m c : Nat) (news : List Value) (hx : a.eval x = .slice ao m c) (hnone : ao = none → m = 0 ∧ c = 0) (hl : news.length = m * size) (hnews : ∀ j u, news[j]? = some u → ∃ b off, ao = some ⟨b, off, none⟩ ∧ w.cell? ⟨b, off + j, none⟩ = some u) (h1 : ∀ u ∈ news, u.oneCell' = true) (hn : n + m ≤ 1099511627776)
    (h : ∀ v' w', w'.ownsRow base e size v' (n + m) (xs ++ news) → w.grownBy w' v.ownBlock → Below base w w' → FreshOr w v v' → wpList P ops Q rest (a.put o.dst v') w') : wpList P ops Q (o :: rest) a w := by
  obtain ⟨bytes, hi, hb⟩ := E.info
  obtain ⟨i, hi, hz0, hz1, hz2⟩ := info_parts hi
  have hbb : (n + m) * bytes ≤ 1099511627776 * 128 := Nat.mul_le_mul hn hb
  cases ao with
  | none =>
    obtain ⟨rfl, rfl⟩ := hnone rfl
    have hnil : news = [] := List.eq_nil_of_length_eq_zero (by simpa using hl)
    subst hnil
    refine wpList_append_own_none hgd s x t ho base e i size E.under hi v n xs hs hown hx ?_
    exact h v w (by simpa using hown) ⟨rfl, rfl, rfl, Nat.le_refl _, fun _ _ _ => rfl⟩ (Below.refl _ _) (.inl rfl)
  | some ad =>
    refine wpList_plain hgd fun K hK => wp_append_at w s x t ho base e i z size bytes E.under hi hz0 hz1 hz2 E.zsize E.pos v n xs hs hown ad m c news hx hl ?_ h1 (by unfold maxLen; omega) (by omega) hbase ?_
    · intro j u hu
      obtain ⟨b, off, he, hc⟩ := hnews j u hu
      cases he
      have e1 : ((⟨b, off, none⟩ : Addr).add j) = ⟨b, off + j, none⟩ := by unfold Addr.add; split <;> simp_all
      rw [e1]; exact hc
    · intro v' w' h2 h3 h5
      refine hK _ _ (h v' w' h2 h3 ((Below.refl base w).grown h3 hbase fun k hk => (hown.lt k hk).1) ?_)
      rcases h5 with h5 | h5
      · exact .inl h5
      · refine .inr fun k hk => ?_
        rw [hk] at h5; simp at h5; omega
end

/-! ### Spare room -/
theorem owns_spare {w : World} {base : Nat} {e : TypeId} {size g n cap : Nat} {xs : List Value} (h : w.ownsRow base e size (.slice (some ⟨g, 0, none⟩) n cap) n xs) {j : Nat} (hj : j < cap * size) : ∃ u, w.cell? ⟨g, j, none⟩ = some u := by
  rcases h.2 with ⟨hv, _⟩ | ⟨g', cap', cur, hv, _, hh, _, _, hs, _⟩
  · simp at hv
  · simp only [Value.slice.injEq, Option.some.injEq, Addr.mk.injEq, and_true, true_and] at hv
    obtain ⟨rfl, rfl⟩ := hv
    exact ⟨cur[j], by simp [World.cell?, hh, Array.getElem?_eq_getElem (show j < cur.size by omega)]⟩
theorem owns_push {w : World} {base : Nat} {e : TypeId} {g n cap : Nat} {xs : List Value} (h : w.ownsRow base e 1 (.slice (some ⟨g, 0, none⟩) n cap) n xs) (hn : n < cap) (u : Value) :
    (w.setCell ⟨g, n, none⟩ u).ownsRow base e 1 (.slice (some ⟨g, 0, none⟩) (n + 1) cap) (n + 1) (xs ++ [u]) := by
  have hl := h.1
  rcases h.2 with ⟨hv, _⟩ | ⟨g', cap', cur, hv, hb, hh, hnc, hm, hs, ht⟩
  · simp at hv
  · simp only [Value.slice.injEq, Option.some.injEq, Addr.mk.injEq, and_true, true_and] at hv
    obtain ⟨rfl, rfl⟩ := hv
    refine ⟨by simp [hl], .inr ⟨g, cap, cur.setIfInBounds n u, rfl, hb, ?_, by omega, hm, by simpa using hs, ?_⟩⟩
    · simp [World.setCell, Array.getElem?_modify, hh]
    · have hlt : n < cur.size := by omega
      simp only [Array.toList_setIfInBounds]
      rw [show (n + 1) * 1 = n + 1 by omega, List.take_add_one, List.take_set_of_le (Nat.le_refl n)]
      simp only [Nat.mul_one] at ht
      rw [ht]
      simp [hlt]
/-- Grown but for a row: what lies elsewhere stays owned. -/
theorem owns_grown {w w' : World} {base : Nat} {e : TypeId} {size : Nat} {v : Value} {n : Nat} {xs : List Value} {r : Option Nat} (h : w.ownsRow base e size v n xs) (hg : w.grownBy w' r) (hne : ∀ k, v.ownBlock = some k → r ≠ some k) : w'.ownsRow base e size v n xs := by
  cases hv : v.ownBlock with
  | none => exact h.kept hg (.inl hv)
  | some k => exact h.kept hg (.inr (by rw [hv]; exact fun e => hne k hv e.symm))
/-- An empty literal: 'make' of nothing, '[]T{}'. -/
theorem owns_empty (w : World) (base : Nat) (e : TypeId) (size : Nat) (hb : base ≤ w.heap.size) : (w.alloc (.cells #[] e)).ownsRow base e size (.slice (some ⟨w.heap.size, 0, none⟩) 0 0) 0 [] :=
  World.ownsRow_made w #[] 0 hb (by unfold maxLen; omega) (by simp)

/-- A literal of numbers, in the block that was laid for it. -/
theorem lit_rdI (w : World) (e : TypeId) (cs : Array Value) (zs : List Int) (hcs : cs = (ints zs).toArray) (hf : ∀ z ∈ zs, I64 z) (hm : zs.length ≤ 9223372036854775807) (B n : Nat) (hB : w.heap.size = B) (hn : zs.length = n) :
    RdI (w.alloc (.cells cs e)) (some ⟨B, 0, none⟩) n n zs := by
  subst hB; subst hn; subst hcs
  have h := World.ownsRow_lit (e := e) (size := 1) (base := 0) w (ints zs).toArray zs.length (Nat.zero_le _) (by unfold maxLen; omega) (by simp [ints])
  exact owns_rdI (by simpa using h) hf
theorem nil_rdI (w : World) : RdI w none 0 0 [] := ⟨rfl, Nat.le_refl _, fun _ => ⟨rfl, rfl⟩, by omega, (fun z hz => by cases hz), fun k hk => by omega⟩
theorem i64_of_wf {n : Int} (h : (Lit.int .i64 n).wf = true) : I64 n := by
  simp only [Lit.wf, Bool.and_eq_true, decide_eq_true_eq, IntKind.min, IntKind.max] at h
  unfold I64
  have h1 := h.1; have h2 := h.2
  simp [IntKind.signed, IntKind.bits] at h1 h2
  omega
end Go.Proofs.YtdjooacjjnjfmaaGreatMem
end

-- Words for objects in memory: what may be changed of it ('Fr'), a block known whole, what a slice reads as cell by cell. Over any program.
section
namespace Go.Proofs.YtdjooacjjnjfmaaGreatMem
set_option linter.unusedVariables false
set_option linter.unusedSimpArgs false
open Go Go.RowKit

/-- From w to w' nothing turns of what was there but blocks of S. -/
structure Fr (S : Nat → Prop) (w w' : World) : Prop where
  os : w'.os = w.os
  tape : w'.tape = w.tape
  output : w'.output = w.output
  size : w.heap.size ≤ w'.heap.size
  block : ∀ k, k < w.heap.size → ¬ S k → w'.heap[k]? = w.heap[k]?
theorem Fr.refl (S : Nat → Prop) (w : World) : Fr S w w := ⟨rfl, rfl, rfl, Nat.le_refl _, fun _ _ _ => rfl⟩
theorem Fr.trans {S T : Nat → Prop} {a b c : World} (h : Fr S a b) (k : Fr T b c) (hT : ∀ i, i < a.heap.size → T i → S i) : Fr S a c :=
  ⟨k.os.trans h.os, k.tape.trans h.tape, k.output.trans h.output, Nat.le_trans h.size k.size, fun i hi hn => (k.block i (Nat.lt_of_lt_of_le hi h.size) (fun t => hn (hT i hi t))).trans (h.block i hi hn)⟩
theorem Fr.mono {S T : Nat → Prop} {a b : World} (h : Fr S a b) (hT : ∀ i, i < a.heap.size → S i → T i) : Fr T a b :=
  ⟨h.os, h.tape, h.output, h.size, fun i hi hn => h.block i hi fun s => hn (hT i hi s)⟩
theorem Fr.of_below {S : Nat → Prop} {w w' : World} (h : Below w.heap.size w w') : Fr S w w' := ⟨h.os, h.tape, h.output, h.size, fun k hk _ => h.block k hk⟩
theorem Fr.below {S : Nat → Prop} {B : Nat} {w w' : World} (h : Fr S w w') (hS : ∀ k, S k → B ≤ k) (hB : B ≤ w.heap.size) : Below B w w' :=
  ⟨h.os, h.tape, h.output, h.size, fun k hk => h.block k (by omega) fun s => by have := hS k s; omega⟩
theorem Fr.then_below {S : Nat → Prop} {a b c : World} (h : Fr S a b) (k : Below b.heap.size b c) : Fr S a c := h.trans (Fr.of_below (S := S) k) fun _ _ s => s
theorem Fr.after_below {S : Nat → Prop} {a b c : World} (h : Below a.heap.size a b) (k : Fr S b c) : Fr S a c := (Fr.of_below (S := S) h).trans k fun _ _ s => s
theorem Fr.alloc {S : Nat → Prop} {w w' : World} (h : Fr S w w') (o : Obj) : Fr S w (w'.alloc o) := h.then_below ((Below.refl _ _).alloc (Nat.le_refl _) o)
theorem Fr.drew {S : Nat → Prop} {w w' : World} (h : Fr S w w') : Fr S w w'.drew := ⟨h.os, h.tape, h.output, h.size, h.block⟩
theorem Fr.setCell {S : Nat → Prop} {w w' : World} (h : Fr S w w') {a : Addr} (ha : S a.block ∨ w.heap.size ≤ a.block) (v : Value) : Fr S w (w'.setCell a v) :=
  ⟨h.os, h.tape, h.output, by simpa [World.setCell] using h.size, fun k hk hn => by
    rw [Below.heap_setCell _ _ _ _ (fun e => by subst e; rcases ha with ha | ha; exact hn ha; omega)]
    exact h.block k hk hn⟩
theorem Fr.grown {S : Nat → Prop} {w w' w2 : World} {r : Option Nat} (h : Fr S w w') (hg : w'.grownBy w2 r) (hr : ∀ k, r = some k → S k ∨ w.heap.size ≤ k) : Fr S w w2 :=
  ⟨hg.os.trans h.os, hg.tape.trans h.tape, hg.output.trans h.output, Nat.le_trans h.size hg.size, fun k hk hn =>
    (hg.block k (Nat.lt_of_lt_of_le hk h.size) (fun e => by rcases hr k e.symm with s | s; exact hn s; omega)).trans (h.block k hk hn)⟩
theorem Fr.cell {S : Nat → Prop} {w w' : World} (h : Fr S w w') {b o : Nat} (hb : b < w.heap.size) (hn : ¬ S b) : w'.cell? ⟨b, o, none⟩ = w.cell? ⟨b, o, none⟩ := World.cell?_of_block (a := ⟨b, o, none⟩) (h.block b hb hn)

/-! ### A block known whole -/
def Blk (w : World) (b : Nat) (cs : List Value) (t : TypeId) : Prop := w.heap[b]? = some (.cells cs.toArray t (0, 0))
theorem Blk.lt {w : World} {b : Nat} {cs : List Value} {t : TypeId} (h : Blk w b cs t) : b < w.heap.size := by
  rcases Nat.lt_or_ge b w.heap.size with hlt | hge
  · exact hlt
  · unfold Blk at h; rw [Array.getElem?_eq_none hge] at h; cases h
theorem Blk.cell {w : World} {b : Nat} {cs : List Value} {t : TypeId} (h : Blk w b cs t) (i : Nat) : w.cell? ⟨b, i, none⟩ = cs[i]? := by
  unfold Blk at h; simp [World.cell?, h]
theorem Blk.frozen {w : World} {b : Nat} {cs : List Value} {t : TypeId} (h : Blk w b cs t) (i : Nat) : w.frozen? ⟨b, i, none⟩ = false := by
  unfold Blk at h; simp [World.frozen?, h]
theorem Blk.new (w : World) (cs : List Value) (t : TypeId) : Blk (w.alloc (.cells cs.toArray t)) w.heap.size cs t := heap_alloc_new w _
theorem Blk.of_eq {w w' : World} {b : Nat} {cs : List Value} {t : TypeId} (h : Blk w b cs t) (e : w'.heap[b]? = w.heap[b]?) : Blk w' b cs t := e.trans h
theorem Blk.fr {S : Nat → Prop} {w w' : World} {b : Nat} {cs : List Value} {t : TypeId} (h : Blk w b cs t) (hf : Fr S w w') (hn : ¬ S b) : Blk w' b cs t := h.of_eq (hf.block b h.lt hn)
theorem Blk.below {w w' : World} {b : Nat} {cs : List Value} {t : TypeId} (h : Blk w b cs t) (hb : Below w.heap.size w w') : Blk w' b cs t := h.of_eq (hb.block b h.lt)
theorem Blk.grown {w w' : World} {b : Nat} {cs : List Value} {t : TypeId} {r : Option Nat} (h : Blk w b cs t) (hg : w.grownBy w' r) (hne : r ≠ some b) : Blk w' b cs t := h.of_eq (hg.block b h.lt (fun e => hne e.symm))
theorem Blk.alloc {w : World} {b : Nat} {cs : List Value} {t : TypeId} (h : Blk w b cs t) (o : Obj) : Blk (w.alloc o) b cs t := h.below ((Below.refl _ _).alloc (Nat.le_refl _) o)
theorem Blk.drew {w : World} {b : Nat} {cs : List Value} {t : TypeId} (h : Blk w b cs t) : Blk w.drew b cs t := h
theorem Blk.set {w : World} {b : Nat} {cs : List Value} {t : TypeId} (h : Blk w b cs t) (i : Nat) (v : Value) : Blk (w.setCell ⟨b, i, none⟩ v) b (cs.set i v) t := by
  unfold Blk at h ⊢
  simp [World.setCell, Array.getElem?_modify, h]
theorem Blk.set_far {w : World} {b : Nat} {cs : List Value} {t : TypeId} (h : Blk w b cs t) {a : Addr} (ha : b ≠ a.block) (v : Value) : Blk (w.setCell a v) b cs t := h.of_eq (Below.heap_setCell w a v b ha)

/-! ### What a slice reads as, cell by cell -/
structure RdS (w : World) (ao : Option Addr) (n cap size : Nat) (cs : List Value) : Prop where
  len : cs.length = n * size
  le : n ≤ cap
  nil : ao = none → n = 0 ∧ cap = 0
  small : n ≤ 9223372036854775807
  one : ∀ u ∈ cs, u.oneCell' = true
  at_ : ∀ j u, cs[j]? = some u → ∃ b off, ao = some ⟨b, off, none⟩ ∧ b < w.heap.size ∧ w.cell? ⟨b, off + j, none⟩ = some u
theorem RdS.below {w w' : World} {ao : Option Addr} {n cap size : Nat} {cs : List Value} (h : RdS w ao n cap size cs) (hb : Below w.heap.size w w') : RdS w' ao n cap size cs :=
  ⟨h.len, h.le, h.nil, h.small, h.one, fun j u hu => let ⟨b, off, e, hlt, hc⟩ := h.at_ j u hu; ⟨b, off, e, Nat.lt_of_lt_of_le hlt hb.size, (hb.cell (p := ⟨b, off + j, none⟩) hlt).trans hc⟩⟩
theorem owns_rdS {w : World} {base : Nat} {e : TypeId} {size : Nat} {ao : Option Addr} {n cap : Nat} {cs : List Value} (h : w.ownsRow base e size (.slice ao n cap) n cs) (h1 : ∀ u ∈ cs, u.oneCell' = true) : RdS w ao n cap size cs :=
  ⟨h.1, (owns_cap h).2.1, (owns_cap h).2.2.2, by have h1 := (owns_cap h).2.1; have h2 := (owns_cap h).2.2.1; unfold maxLen at h2; omega, h1, fun j u hu => by
    obtain ⟨g, e, _, hlt, hc⟩ := owns_at h hu
    exact ⟨g, 0, e, hlt, hc⟩⟩
theorem owns_fr {S : Nat → Prop} {w w' : World} {base : Nat} {e : TypeId} {size : Nat} {v : Value} {n : Nat} {xs : List Value} (h : w.ownsRow base e size v n xs) (hf : Fr S w w') (hn : ∀ k, v.ownBlock = some k → ¬ S k) : w'.ownsRow base e size v n xs := by
  refine ⟨h.1, ?_⟩
  rcases h.2 with h2 | ⟨g, cap, cur, hv, hg, hh, r⟩
  · exact .inl h2
  · refine .inr ⟨g, cap, cur, hv, hg, ?_, r⟩
    have hlt : g < w.heap.size := by
      rcases Nat.lt_or_ge g w.heap.size with hlt | hge
      · exact hlt
      · rw [Array.getElem?_eq_none hge] at hh; cases hh
    rw [hf.block g hlt (hn g (by rw [hv]; rfl))]; exact hh
theorem owns_nil (w : World) (base : Nat) (e : TypeId) (size : Nat) : w.ownsRow base e size (.slice none 0 0) 0 [] := World.ownsRow_nil _ _ _ _
end Go.Proofs.YtdjooacjjnjfmaaGreatMem
end

-- 'append(v, xs...)' at a step of a region that draws its order, the source wherever it lies.
section
namespace Go.Proofs.YtdjooacjjnjfmaaGreatMem
set_option linter.unusedVariables false
set_option linter.unusedSimpArgs false
open Go Go.RowKit
section
variable {P : Program} {ops : Array Oper} {o : Oper} {a : Act} {Q : Exit → Act → World → Prop}
theorem step_ap_src {K : Act → World → Prop} {Ep : Prop} (w : World) {t e : TypeId} {z : Value} {size : Nat} (E : ElT P t e z size) (hgd : o.guard = none) (s x : Operand) (ho : o.op = .call { callee := .builtin .append, args := #[s, x], argTypes := #[t, t] })
    (base : Nat) (v : Value) (n : Nat) (xs : List Value) (hs : a.eval s = v) (hown : w.ownsRow base e size v n xs) (hbase : base ≤ w.heap.size)
    (ao : Option Addr) (m c : Nat) (news : List Value) (hx : a.eval x = .slice ao m c) (hnone : ao = none → m = 0 ∧ c = 0) (hl : news.length = m * size) (hnews : ∀ j u, news[j]? = some u → ∃ b off, ao = some ⟨b, off, none⟩ ∧ w.cell? ⟨b, off + j, none⟩ = some u) (h1 : ∀ u ∈ news, u.oneCell' = true) (hn : n + m ≤ 1099511627776)
    (h : ∀ v' w', w'.ownsRow base e size v' (n + m) (xs ++ news) → w.grownBy w' v.ownBlock → Below base w w' → FreshOr w v v' → K (a.put o.dst v') w') :
    if Region.wanted o (yielded ops a.tmps) = true then Oper.wp P o a w.drew K Q else Ep := by
  obtain ⟨bytes, hi, hb⟩ := E.info
  obtain ⟨i, hi, hz0, hz1, hz2⟩ := info_parts hi
  have hbb : (n + m) * bytes ≤ 1099511627776 * 128 := Nat.mul_le_mul hn hb
  rw [if_pos (by simp [Region.wanted, hgd])]
  cases ao with
  | none =>
    obtain ⟨rfl, rfl⟩ := hnone rfl
    have hnil : news = [] := List.eq_nil_of_length_eq_zero (by simpa using hl)
    subst hnil
    have hrun := run_append_owned_none (P := P) (w := w.drew) base t o.type e i size E.under hi v n xs hown.drew
    unfold Oper.wp
    simp [execOp, ho, resolve, invoke, builtin, hs, hx, hrun, Result.andThen]
    exact h v w.drew (by simpa using hown.drew) ⟨rfl, rfl, rfl, Nat.le_refl _, fun _ _ _ => rfl⟩ ((Below.refl _ _).drew) (.inl rfl)
  | some ad =>
    refine wp_append_at w.drew s x t ho base e i z size bytes E.under hi hz0 hz1 hz2 E.zsize E.pos v n xs hs hown.drew ad m c news hx hl ?_ h1 (by unfold maxLen; omega) (by omega) hbase ?_
    · intro j u hu
      obtain ⟨b, off, he, hc⟩ := hnews j u hu
      cases he
      have e1 : ((⟨b, off, none⟩ : Addr).add j) = ⟨b, off + j, none⟩ := by unfold Addr.add; split <;> simp_all
      rw [e1]; exact hc
    · intro v' w' h2 h3 h5
      have hg : w.grownBy w' v.ownBlock := ⟨h3.os, h3.tape, h3.output, h3.size, h3.block⟩
      refine h v' w' h2 hg ((Below.refl base w).grown hg hbase fun k hk => (hown.lt k hk).1) ?_
      rcases h5 with h5 | h5
      · exact .inl h5
      · refine .inr fun k hk => ?_
        rw [hk] at h5; simp at h5; omega
theorem step_ap_src0 {K : Act → World → Prop} {Ep : Prop} (w : World) {t e : TypeId} {z : Value} {size : Nat} (E : ElT P t e z size) (hgd : o.guard = none) (s x : Operand) (ho : o.op = .call { callee := .builtin .append, args := #[s, x], argTypes := #[t, t] })
    (base : Nat) (v : Value) (n : Nat) (xs : List Value) (hs : a.eval s = v) (hown : w.ownsRow base e size v n xs) (hbase : base ≤ w.heap.size)
    (ao : Option Addr) (m c : Nat) (news : List Value) (hx : a.eval x = .slice ao m c) (hnone : ao = none → m = 0 ∧ c = 0) (hl : news.length = m * size) (hnews : ∀ j u, news[j]? = some u → ∃ b off, ao = some ⟨b, off, none⟩ ∧ w.cell? ⟨b, off + j, none⟩ = some u) (h1 : ∀ u ∈ news, u.oneCell' = true) (hn : n + m ≤ 1099511627776)
    (h : ∀ v' w', w'.ownsRow base e size v' (n + m) (xs ++ news) → w.grownBy w' v.ownBlock → Below base w w' → FreshOr w v v' → K (a.put o.dst v') w') :
    if Region.wanted o (yielded ops a.tmps) = true then Oper.wp P o a w K Q else Ep := by
  obtain ⟨bytes, hi, hb⟩ := E.info
  obtain ⟨i, hi, hz0, hz1, hz2⟩ := info_parts hi
  have hbb : (n + m) * bytes ≤ 1099511627776 * 128 := Nat.mul_le_mul hn hb
  rw [if_pos (by simp [Region.wanted, hgd])]
  cases ao with
  | none =>
    obtain ⟨rfl, rfl⟩ := hnone rfl
    have hnil : news = [] := List.eq_nil_of_length_eq_zero (by simpa using hl)
    subst hnil
    have hrun := run_append_owned_none (P := P) (w := w) base t o.type e i size E.under hi v n xs hown
    unfold Oper.wp
    simp [execOp, ho, resolve, invoke, builtin, hs, hx, hrun, Result.andThen]
    exact h v w (by simpa using hown) ⟨rfl, rfl, rfl, Nat.le_refl _, fun _ _ _ => rfl⟩ (Below.refl _ _) (.inl rfl)
  | some ad =>
    refine wp_append_at w s x t ho base e i z size bytes E.under hi hz0 hz1 hz2 E.zsize E.pos v n xs hs hown ad m c news hx hl ?_ h1 (by unfold maxLen; omega) (by omega) hbase ?_
    · intro j u hu
      obtain ⟨b, off, he, hc⟩ := hnews j u hu
      cases he
      have e1 : ((⟨b, off, none⟩ : Addr).add j) = ⟨b, off + j, none⟩ := by unfold Addr.add; split <;> simp_all
      rw [e1]; exact hc
    · intro v' w' h2 h3 h5
      have hg : w.grownBy w' v.ownBlock := ⟨h3.os, h3.tape, h3.output, h3.size, h3.block⟩
      refine h v' w' h2 hg ((Below.refl base w).grown hg hbase fun k hk => (hown.lt k hk).1) ?_
      rcases h5 with h5 | h5
      · exact .inl h5
      · refine .inr fun k hk => ?_
        rw [hk] at h5; simp at h5; omega
theorem step_ap_new0 {K : Act → World → Prop} {Ep : Prop} (w : World) (cs : Array Value) {t e : TypeId} {z : Value} {size : Nat} (E : ElT P t e z size) (hgd : o.guard = none) (s x : Operand) (ho : o.op = .call { callee := .builtin .append, args := #[s, x], argTypes := #[t, t] })
    (base : Nat) (v : Value) (n : Nat) (xs : List Value) (hs : a.eval s = v) (hown : w.ownsRow base e size v n xs) (hbase : base ≤ w.heap.size)
    (m : Nat) (hx : a.eval x = .slice (some ⟨w.heap.size, 0, none⟩) m m) (hl : cs.size = m * size) (h1 : ∀ u ∈ cs.toList, u.oneCell' = true) (hn : n + m ≤ 1099511627776)
    (h : ∀ v' w', w'.ownsRow base e size v' (n + m) (xs ++ cs.toList) → w.grownBy w' v.ownBlock → Below base w w' → FreshOr w v v' → K (a.put o.dst v') w') :
    if Region.wanted o (yielded ops a.tmps) = true then Oper.wp P o a (w.alloc (.cells cs e)) K Q else Ep := by
  obtain ⟨bytes, hi, hb⟩ := E.info
  obtain ⟨i, hi, hz0, hz1, hz2⟩ := info_parts hi
  have hbb : (n + m) * bytes ≤ 1099511627776 * 128 := Nat.mul_le_mul hn hb
  rw [if_pos (by simp [Region.wanted, hgd])]
  refine wp_append_at (w.alloc (.cells cs e)) s x t ho base e i z size bytes E.under hi hz0 hz1 hz2 E.zsize E.pos v n xs hs (hown.alloc _) ⟨w.heap.size, 0, none⟩ m m cs.toList hx (by simpa using hl) (news_new w cs e) h1 (by unfold maxLen; omega) (by omega) (by simp; omega) ?_
  intro v' w' h2 h3 h5
  have hg : w.grownBy w' v.ownBlock := grown_through (World.grownBy_alloc w (.cells cs e) none) h3
  refine h v' w' h2 hg ((Below.refl base w).grown hg hbase fun k hk => (hown.lt k hk).1) ?_
  rcases h5 with h5 | h5
  · exact .inl h5
  · refine .inr fun k hk => ?_
    rw [hk] at h5; simp at h5; omega
end
end Go.Proofs.YtdjooacjjnjfmaaGreatMem
end

-- Maps that the call itself made, as lists of pairs in the order in which they came: looked up, written, an entry taken and written. For any kind of key of which two are told apart by the model's own '=='. Over any program.
section
namespace Go.Proofs.YtdjooacjjnjfmaaGreatMapK
set_option linter.unusedVariables false
set_option linter.unusedSimpArgs false
set_option linter.unusedSectionVars false
open Go

/-- Where a key stands among the entries. -/
def findP {κ : Type} [DecidableEq κ] (k : κ) : List κ → List MapEntry → Nat → Option (Nat × Value)
  | k' :: ks, e :: es, i => if k = k' then some (i, e.val) else findP k ks es (i + 1)
  | _, _, _ => none

/-- A kind of key. -/
structure KeyT (P : Program) (kt : TypeId) {κ : Type} [DecidableEq κ] (kv : κ → Value) : Prop where
  check : ∀ (e : Bool) k w, (Instr.checkKey e 10000 kt (kv k)).run P w = .ok () w
  same : ∀ k, Instr.sameBits 10000 (kv k) (kv k) = true
  find : ∀ k (es : List MapEntry) (ks : List κ) w, es.map (·.key) = ks.map kv → (Instr.findKey kt (kv k) es).run P w = .ok (findP k ks es 0) w

/-- A map as a list of pairs, no key twice. -/
def getM {κ : Type} [DecidableEq κ] (m : List (κ × Value)) (k : κ) : Option Value := (m.find? fun p => p.1 = k).map (·.2)
def putM {κ : Type} [DecidableEq κ] (m : List (κ × Value)) (k : κ) (v : Value) : List (κ × Value) :=
  if (getM m k).isSome then m.map fun p => if p.1 = k then (k, v) else p else m ++ [(k, v)]

section
variable {κ : Type} [DecidableEq κ]
theorem getM_nil (k : κ) : getM ([] : List (κ × Value)) k = none := rfl
theorem getM_none {m : List (κ × Value)} {k : κ} : getM m k = none ↔ ∀ p ∈ m, p.1 ≠ k := by
  simp [getM]
theorem getM_append {m l : List (κ × Value)} {k : κ} : getM (m ++ l) k = (getM m k).or (getM l k) := by
  simp only [getM, List.find?_append]
  cases m.find? (fun p => decide (p.1 = k)) <;> simp
theorem getM_put (m : List (κ × Value)) (k k' : κ) (v : Value) : getM (putM m k v) k' = if k' = k then some v else getM m k' := by
  unfold putM
  split
  · rename_i h
    induction m with
    | nil => simp [getM] at h
    | cons p m ih =>
      by_cases hp : p.1 = k
      · by_cases hk : k' = k
        · subst hk; simp [getM, hp]
        · have : ¬ (k = k') := fun e => hk e.symm
          have ih' : getM (m.map fun p => if p.1 = k then (k, v) else p) k' = getM m k' := by
            clear ih h
            induction m with
            | nil => rfl
            | cons q m ih2 =>
              simp only [getM, List.map_cons, List.find?_cons] at ih2 ⊢
              by_cases hq : q.1 = k
              · have h2 : ¬ q.1 = k' := fun e => hk (e.symm.trans hq)
                simp only [hq, if_true, this, decide_false, h2] ; exact ih2
              · simp only [hq, if_false]
                by_cases hq2 : q.1 = k'
                · simp [hq2]
                · simp only [hq2, decide_false]; exact ih2
          have h3 : ¬ p.1 = k' := fun e => hk (e.symm.trans hp)
          simp only [getM, List.map_cons, hp, if_true, List.find?_cons, this, decide_false, h3, hk, if_false]
          exact ih'
      · have hm : (getM m k).isSome = true := by simpa [getM, hp] using h
        have ih := ih hm
        by_cases hpk : p.1 = k'
        · have hk : ¬ k' = k := fun e => hp (hpk.trans e)
          simp only [getM, List.map_cons, hp, if_false, List.find?_cons, hpk, decide_true, Option.map_some, hk]
        · simp only [getM, List.map_cons, hp, if_false, List.find?_cons, hpk, decide_false] at ih ⊢
          exact ih
  · rename_i h
    have hn : getM m k = none := by simpa using h
    rw [getM_append]
    by_cases hk : k' = k
    · subst hk; rw [hn]; simp [getM]
    · have : ¬ (k = k') := fun e => hk e.symm
      simp [getM, this, hk]

/-- The map at block b. -/
structure MapAt (w : World) (b : Nat) (kv : κ → Value) (m : List (κ × Value)) (es : Array MapEntry) (clock : Nat) : Prop where
  heap : w.heap[b]? = some (.map es clock)
  ents : es.toList.map (fun e => (e.key, e.val)) = m.map fun p => (kv p.1, p.2)
  keys : (m.map (·.1)).Nodup
  born : ∀ e ∈ es.toList, e.born < clock
  stamps : (es.toList.map (·.born)).Nodup
def IsMapAt (w : World) (b : Nat) (kv : κ → Value) (m : List (κ × Value)) : Prop := ∃ es clock, MapAt w b kv m es clock
theorem IsMapAt.lt {w : World} {b : Nat} {kv : κ → Value} {m : List (κ × Value)} (h : IsMapAt w b kv m) : b < w.heap.size := by
  obtain ⟨es, clock, h⟩ := h
  rcases Nat.lt_or_ge b w.heap.size with hlt | hge
  · exact hlt
  · have := h.heap; rw [Array.getElem?_eq_none hge] at this; cases this
theorem IsMapAt.of_eq {w w' : World} {b : Nat} {kv : κ → Value} {m : List (κ × Value)} (h : IsMapAt w b kv m) (e : w'.heap[b]? = w.heap[b]?) : IsMapAt w' b kv m := by
  obtain ⟨es, clock, h⟩ := h
  exact ⟨es, clock, e.trans h.heap, h.ents, h.keys, h.born, h.stamps⟩
theorem IsMapAt.made (w : World) (kv : κ → Value) : IsMapAt (w.alloc (.map #[] 0)) w.heap.size kv ([] : List (κ × Value)) :=
  ⟨#[], 0, heap_alloc_new w _, rfl, List.nodup_nil, (fun e he => by cases he), List.nodup_nil⟩

theorem MapAt.keyEq {w : World} {b : Nat} {kv : κ → Value} {m : List (κ × Value)} {es : Array MapEntry} {clock : Nat} (h : MapAt w b kv m es clock) : es.toList.map (·.key) = (m.map (·.1)).map kv := by
  have := congrArg (List.map Prod.fst) h.ents
  simpa [Function.comp_def] using this

theorem findP_spec (kv : κ → Value) (k : κ) : ∀ (es : List MapEntry) (m : List (κ × Value)) (i : Nat), es.map (fun e => (e.key, e.val)) = m.map (fun p => (kv p.1, p.2)) →
    (findP k (m.map (·.1)) es i = none ∧ getM m k = none) ∨ ∃ j v, findP k (m.map (·.1)) es i = some (i + j, v) ∧ getM m k = some v ∧ j < es.length ∧ m[j]? = some (k, v) := by
  intro es
  induction es with
  | nil =>
    intro m i h
    have hm : m = [] := by simpa using h.symm
    subst hm
    exact .inl ⟨rfl, rfl⟩
  | cons e es ih =>
    intro m i h
    cases m with
    | nil => simp at h
    | cons p m =>
      simp only [List.map_cons, List.cons.injEq, Prod.mk.injEq] at h
      by_cases hk : k = p.1
      · refine .inr ⟨0, p.2, ?_, ?_, by simp, ?_⟩
        · simp [findP, hk, h.1.2]
        · simp [getM, hk]
        · simp [hk]
      · have hk' : ¬ p.1 = k := fun e => hk e.symm
        rcases ih m (i + 1) h.2 with ⟨h1, h2⟩ | ⟨j, v, h1, h2, h3, h4⟩
        · exact .inl ⟨by simp [findP, hk, h1], by simpa [getM, hk'] using h2⟩
        · exact .inr ⟨j + 1, v, by simp only [findP, List.map_cons, hk, if_false, h1]; congr 2; omega, by simpa [getM, hk'] using h2, by simp; omega, by simpa using h4⟩
end

section
variable {κ : Type} [DecidableEq κ] {P : Program} {t kt et : TypeId} {kv : κ → Value} {w : World} {b : Nat} {m : List (κ × Value)}

theorem run_lookup (K : KeyT P kt kv) (ht : P.underlying t = some (.map kt et)) {z : Value} (hz : (zeroValue et).run P w = .ok z w) (h : IsMapAt w b kv m) (k : κ) :
    (Instr.lookup t (.map (some b)) (kv k) false).run P w = .ok ((getM m k).getD z) w := by
  obtain ⟨es, clock, h⟩ := h
  have hf := K.find k es.toList (m.map (·.1)) w h.keyEq
  rcases findP_spec kv k es.toList m 0 h.ents with ⟨h1, h2⟩ | ⟨j, v, h1, h2, h3, h4⟩
  · rw [h1] at hf
    rw [h2]
    simp [Instr.lookup, run_underlying ht, MapKept.run_getObj_map h.heap, K.check, hf, hz, Result.andThen]
  · rw [h1] at hf
    rw [h2]
    simp [Instr.lookup, run_underlying ht, MapKept.run_getObj_map h.heap, K.check, hf, Result.andThen]

theorem MapAt.pushed {es : Array MapEntry} {clock : Nat} (h : MapAt w b kv m es clock) (k : κ) (v : Value) (hn : getM m k = none) :
    MapAt (ChangeMaps.setBlock w b (.map (es.push ⟨kv k, v, clock⟩) (clock + 1))) b kv (m ++ [(k, v)]) (es.push ⟨kv k, v, clock⟩) (clock + 1) := by
  refine ⟨(MapKept.heap_set h.heap).1, by simp [h.ents], ?_, ?_, ?_⟩
  · simp only [List.map_append, List.map_cons, List.map_nil]
    rw [List.nodup_append]
    refine ⟨h.keys, by simp, ?_⟩
    intro a ha c hc
    simp only [List.mem_singleton] at hc
    subst hc
    obtain ⟨p, hp, rfl⟩ := List.mem_map.1 ha
    exact getM_none.1 hn p hp
  · intro e he
    simp only [Array.toList_push, List.mem_append, List.mem_singleton] at he
    rcases he with he | rfl
    · have := h.born e he; omega
    · show clock < clock + 1; omega
  · simp only [Array.toList_push, List.map_append, List.map_cons, List.map_nil]
    rw [List.nodup_append]
    refine ⟨h.stamps, by simp, ?_⟩
    intro a ha c hc
    simp only [List.mem_singleton] at hc
    subst hc
    obtain ⟨e, he, rfl⟩ := List.mem_map.1 ha
    have := h.born e he
    omega

theorem put_at {m : List (κ × Value)} {k : κ} {v v0 : Value} {j : Nat} (hj : m[j]? = some (k, v0)) (hn : (m.map (·.1)).Nodup) : putM m k v = m.set j (k, v) := by
  have hs : (getM m k).isSome = true := by
    cases hg : getM m k with
    | some _ => rfl
    | none => exact absurd rfl (getM_none.1 hg _ (List.mem_of_getElem? hj))
  unfold putM
  rw [if_pos hs]
  apply List.ext_getElem?
  intro i
  rw [List.getElem?_map, List.getElem?_set]
  have hjl : j < m.length := (List.getElem?_eq_some_iff.1 hj).1
  have hm := (List.getElem?_eq_some_iff.1 hj).2
  by_cases hij : j = i
  · subst hij; simp [hm, hjl]
  · simp only [hij, if_false]
    cases hi : m[i]? with
    | none => rfl
    | some p =>
      have hne : p.1 ≠ k := by
        intro e
        have hil : i < m.length := (List.getElem?_eq_some_iff.1 hi).1
        have e1 : (m.map (·.1))[i]? = some k := by simp [hi, e]
        have e2 : (m.map (·.1))[j]? = some k := by simp [hj]
        have := (List.getElem?_inj (by simpa using hjl) hn).1 (e2.trans e1.symm)
        exact hij this
      simp [hne]

theorem setBlock_grown {o : Obj} {o' : Obj} (hb : w.heap[b]? = some o) : w.grownBy (ChangeMaps.setBlock w b o') (some b) :=
  ⟨rfl, rfl, rfl, by simp [ChangeMaps.setBlock], fun k hk hne => (MapKept.heap_set hb).2 k (fun e => hne (by rw [e]))⟩

theorem MapAt.turned {es : Array MapEntry} {clock : Nat} (h : MapAt w b kv m es clock) {k : κ} {v v0 : Value} {j : Nat} (hj : m[j]? = some (k, v0)) :
    MapAt (ChangeMaps.setBlock w b (.map (es.modify j fun e => { e with key := kv k, val := v }) clock)) b kv (putM m k v) (es.modify j fun e => { e with key := kv k, val := v }) clock := by
  have hl : (es.modify j fun e => { e with key := kv k, val := v }).toList = es.toList.modify j fun e => { e with key := kv k, val := v } := by simp
  have hb : (es.toList.modify j fun e => { e with key := kv k, val := v }).map (·.born) = es.toList.map (·.born) := by
    apply List.ext_getElem?
    intro i
    simp only [List.getElem?_map, List.getElem?_modify]
    by_cases hij : j = i
    · simp only [hij, if_true]; cases es.toList[i]? <;> rfl
    · simp only [hij, if_false]; cases es.toList[i]? <;> rfl
  refine ⟨(MapKept.heap_set h.heap).1, ?_, ?_, ?_, ?_⟩
  · rw [hl, put_at hj h.keys]
    apply List.ext_getElem?
    intro i
    have he := congrArg (fun l => l[i]?) h.ents
    simp only [List.getElem?_map] at he
    simp only [List.getElem?_map, List.getElem?_modify, List.getElem?_set]
    have hjl : j < m.length := (List.getElem?_eq_some_iff.1 hj).1
    by_cases hij : j = i
    · subst hij
      rw [hj] at he
      simp only [if_true, hjl]
      cases hx : es.toList[j]? with
      | none => rw [hx] at he; simp at he
      | some x => simp
    · simp only [hij, if_false]
      cases hx : es.toList[i]? with
      | none => rw [hx] at he; simpa using he
      | some x => rw [hx] at he; simpa using he
  · rw [put_at hj h.keys]
    have : (m.set j (k, v)).map (·.1) = m.map (·.1) := by
      apply List.ext_getElem?
      intro i
      simp only [List.getElem?_map, List.getElem?_set]
      have hjl : j < m.length := (List.getElem?_eq_some_iff.1 hj).1
      have hm := (List.getElem?_eq_some_iff.1 hj).2
      by_cases hij : j = i
      · subst hij; simp [hm, hjl]
      · simp [hij]
    rw [this]; exact h.keys
  · intro e he
    rw [hl] at he
    have : e.born ∈ (es.toList.modify j fun e => { e with key := kv k, val := v }).map (·.born) := List.mem_map.2 ⟨e, he, rfl⟩
    rw [hb] at this
    obtain ⟨e', he', e2⟩ := List.mem_map.1 this
    have := h.born e' he'
    omega
  · rw [hl, hb]; exact h.stamps

theorem run_keep (K : KeyT P kt kv) (k : κ) : (Instr.keyThatStays (kv k) (kv k)).run P w = .ok (kv k) w := by
  simp [Instr.keyThatStays, K.same]

theorem run_update (K : KeyT P kt kv) (ht : P.underlying t = some (.map kt et)) (h : IsMapAt w b kv m) (k : κ) (v : Value) :
    ∃ w', (Instr.mapUpdate t (.map (some b)) (kv k) v).run P w = .ok () w' ∧ IsMapAt w' b kv (putM m k v) ∧ w.grownBy w' (some b) := by
  obtain ⟨es, clock, h⟩ := h
  have hf := K.find k es.toList (m.map (·.1)) w h.keyEq
  rcases findP_spec kv k es.toList m 0 h.ents with ⟨h1, h2⟩ | ⟨j, v0, h1, h2, h3, h4⟩
  · rw [h1] at hf
    have he : putM m k v = m ++ [(k, v)] := by unfold putM; rw [h2]; rfl
    rw [he]
    refine ⟨_, ?_, ⟨_, _, h.pushed k v h2⟩, setBlock_grown h.heap⟩
    simp [Instr.mapUpdate, run_underlying ht, MapKept.run_getObj_map h.heap, K.check, hf, MapKept.run_setObj_map _ h.heap, Result.andThen, ChangeMaps.setBlock]
  · rw [h1] at hf
    have hke : (es[0 + j]?.map (·.key)).getD (kv k) = kv k := by
      have he := congrArg (fun l => l[j]?) h.keyEq
      simp only [List.getElem?_map, h4, Option.map_some, Array.getElem?_toList] at he
      rw [Nat.zero_add]
      cases hx : es[j]? with
      | none => rfl
      | some x => rw [hx] at he; simpa using he
    refine ⟨_, ?_, ⟨_, _, h.turned h4⟩, setBlock_grown h.heap⟩
    have hkeep := run_keep (w := w) K k
    simp only [Nat.zero_add] at hf hke
    simp [Instr.mapUpdate, run_underlying ht, MapKept.run_getObj_map h.heap, K.check, hf, hke, hkeep, MapKept.run_setObj_map _ h.heap, Result.andThen, ChangeMaps.setBlock]

/-- An entry was taken: the map, and the stamp of the key's entry. -/
def EntAt (w : World) (b : Nat) (kv : κ → Value) (m : List (κ × Value)) (k : κ) (s : Nat) : Prop :=
  ∃ (es : Array MapEntry) (clock j : Nat) (v : Value), MapAt w b kv m es clock ∧ m[j]? = some (k, v) ∧ ∃ e : MapEntry, es[j]? = some e ∧ e.born = s
/-- The map in which the key's entry is there. -/
def withM (m : List (κ × Value)) (k : κ) (z : Value) : List (κ × Value) := if (getM m k).isSome then m else m ++ [(k, z)]
theorem EntAt.of_eq {w w' : World} {k : κ} {s : Nat} (h : EntAt w b kv m k s) (e : w'.heap[b]? = w.heap[b]?) : EntAt w' b kv m k s := by
  obtain ⟨es, clock, j, v, h, r⟩ := h
  exact ⟨es, clock, j, v, ⟨e.trans h.heap, h.ents, h.keys, h.born, h.stamps⟩, r⟩
theorem EntAt.isMap {w : World} {k : κ} {s : Nat} (h : EntAt w b kv m k s) : IsMapAt w b kv m := by
  obtain ⟨es, clock, j, v, h, r⟩ := h
  exact ⟨es, clock, h⟩

theorem run_entry (K : KeyT P kt kv) (ht : P.underlying t = some (.map kt et)) {z : Value} (hz : ∀ w, (zeroValue et).run P w = .ok z w) (h : IsMapAt w b kv m) (k : κ) :
    ∃ (w' : World) (s : Nat), (Instr.mapEntry t (.map (some b)) (kv k)).run P w = .ok (.tuple #[(getM m k).getD z, goInt s]) w' ∧ EntAt w' b kv (withM m k z) k s ∧ w.grownBy w' (some b) := by
  obtain ⟨es, clock, h⟩ := h
  have hf := K.find k es.toList (m.map (·.1)) w h.keyEq
  rcases findP_spec kv k es.toList m 0 h.ents with ⟨h1, h2⟩ | ⟨j, v0, h1, h2, h3, h4⟩
  · rw [h1] at hf
    have he : withM m k z = m ++ [(k, z)] := by unfold withM; rw [h2]; rfl
    rw [he, h2]
    refine ⟨_, clock, ?_, ⟨_, _, m.length, z, h.pushed k z h2, by simp, ⟨kv k, z, clock⟩, ?_, rfl⟩, setBlock_grown h.heap⟩
    · simp [Instr.mapEntry, run_underlying ht, MapKept.run_getObj_map h.heap, K.check, hf, hz, MapKept.run_setObj_map _ h.heap, Result.andThen, ChangeMaps.setBlock]
    · have hl : es.size = m.length := by have := congrArg List.length h.ents; simpa using this
      rw [← hl]; simp
  · rw [h1] at hf
    have he : withM m k z = m := by unfold withM; rw [h2]; rfl
    have hp : putM m k v0 = m := by
      rw [put_at h4 h.keys]
      apply List.ext_getElem?
      intro i
      rw [List.getElem?_set]
      have hjl : j < m.length := (List.getElem?_eq_some_iff.1 h4).1
      by_cases hij : j = i
      · subst hij; simp only [if_true, hjl]; exact h4.symm
      · simp [hij]
    have hx : ∃ x, es[j]? = some x ∧ x.key = kv k ∧ x.val = v0 := by
      have he := congrArg (fun l => l[j]?) h.ents
      simp only [List.getElem?_map, h4, Option.map_some, Array.getElem?_toList] at he
      cases hx : es[j]? with
      | none => rw [hx] at he; simp at he
      | some x => rw [hx] at he; simp at he; exact ⟨x, rfl, he.1, he.2⟩
    obtain ⟨x, hx, hx1, hx2⟩ := hx
    have hkeep := run_keep (w := w) K k
    simp only [Nat.zero_add] at hf
    have hmod : (es.modify j fun e => { e with key := kv k }) = es.modify j fun e => { e with key := kv k, val := v0 } := by
      apply Array.ext_getElem?
      intro i
      simp only [Array.getElem?_modify]
      by_cases hij : j = i
      · subst hij; simp [hx, hx2]
      · simp [hij]
    have ht2 := h.turned (v := v0) h4
    rw [he, h2]
    rw [hp] at ht2
    refine ⟨_, x.born, ?_, ⟨_, _, j, v0, ht2, h4, { x with key := kv k, val := v0 }, ?_, rfl⟩, setBlock_grown h.heap⟩
    · simp [Instr.mapEntry, run_underlying ht, MapKept.run_getObj_map h.heap, K.check, hf, hx, hx1, hkeep, MapKept.run_setObj_map _ h.heap, Result.andThen, ChangeMaps.setBlock, hmod]
    · simp [Array.getElem?_modify, hx]

theorem findIdx_stamp : ∀ (l : List MapEntry) (j : Nat) (e : MapEntry), l[j]? = some e → (l.map (·.born)).Nodup → l.findIdx? (fun x => (x.born : Int) == (e.born : Int)) = some j := by
  intro l
  induction l with
  | nil => intro j e h; simp at h
  | cons x l ih =>
    intro j e h hn
    simp only [List.map_cons, List.nodup_cons] at hn
    cases j with
    | zero => simp at h; subst h; simp [List.findIdx?_cons]
    | succ j =>
      simp at h
      have hne : x.born ≠ e.born := fun e1 => hn.1 (e1 ▸ List.mem_map.2 ⟨e, List.mem_of_getElem? h, rfl⟩)
      have hne' : ((x.born : Int) == (e.born : Int)) = false := by simp; omega
      rw [List.findIdx?_cons, hne']
      simp [ih j e h hn.2]

theorem run_entryStore {w : World} {k : κ} {s : Nat} (h : EntAt w b kv m k s) (v : Value) :
    ∃ w', (Instr.entryStore t (.map (some b)) (goInt s) v).run P w = .ok () w' ∧ IsMapAt w' b kv (putM m k v) ∧ w.grownBy w' (some b) := by
  obtain ⟨es, clock, j, v0, h, hj, e, he, hs⟩ := h
  have hf : es.findIdx? (fun x => (x.born : Int) == (s : Int)) = some j := by
    rw [← hs]
    have := findIdx_stamp es.toList j e (by simpa using he) h.stamps
    rw [← this]
    obtain ⟨l⟩ := es
    simp
  have hk : e.key = kv k := by
    have h2 := congrArg (fun l => l[j]?) h.ents
    simp only [List.getElem?_map, hj, Option.map_some, Array.getElem?_toList, he] at h2
    simp at h2; exact h2.1
  have hmod : (es.modify j fun e => { e with val := v }) = es.modify j fun e => { e with key := kv k, val := v } := by
    apply Array.ext_getElem?
    intro i
    simp only [Array.getElem?_modify]
    by_cases hij : j = i
    · subst hij; simp [he, hk]
    · simp [hij]
  refine ⟨_, ?_, ⟨_, _, h.turned (v := v) hj⟩, setBlock_grown h.heap⟩
  simp [Instr.entryStore, MapKept.run_getObj_map h.heap, hf, asInt, asIntOf, goInt, MapKept.run_setObj_map _ h.heap, Result.andThen, ChangeMaps.setBlock, hmod]
end
end Go.Proofs.YtdjooacjjnjfmaaGreatMapK
end

-- A number as a map's key.
section
namespace Go.Proofs.YtdjooacjjnjfmaaGreat
set_option linter.unusedVariables false
set_option linter.unusedSimpArgs false
open Go Go.Proofs.YtdjooacjjnjfmaaGreatMapK

theorem check_intK (e : Bool) (v : Int) (w : World) : (Instr.checkKey e 10000 3 (.int .i64 v)).run Tryz.prog w = .ok () w := by
  rw [show (10000 : Nat) = 9999 + 1 from rfl]
  unfold Instr.checkKey
  simp [run_underlying Tryz.underlying3, Result.andThen]
theorem now_int (k : Int) : ∀ (es : List MapEntry) (ks : List Int) (i : Nat), es.map (·.key) = ks.map (Value.int .i64) →
    Instr.findNow (.int .i64) (.int .i64 k) es i = some (findP k ks es i) := by
  intro es
  induction es with
  | nil => intro ks i h; cases ks <;> first | rfl | simp at h
  | cons e es ih =>
    intro ks i h
    cases ks with
    | nil => simp at h
    | cons k' ks =>
      simp only [List.map_cons, List.cons.injEq] at h
      have ih' := ih ks (i + 1) h.2
      simp only [Instr.findNow, h.1, findP]
      by_cases hk : k = k'
      · simp [hk, Instr.sameNow]
      · have hk2 : (k == k') = false := by simpa using hk
        simp [hk, hk2, Instr.sameNow, ih']
theorem find_int (k : Int) (es : List MapEntry) (ks : List Int) (w : World) (h : es.map (·.key) = ks.map (Value.int .i64)) : (Instr.findKey 3 (.int .i64 k) es).run Tryz.prog w = .ok (findP k ks es 0) w := by
  simp only [Instr.findKey, Sem.run_bind, run_underlying Tryz.underlying3, Result.andThen, now_int k es ks 0 h]
  rfl
theorem intKey : KeyT Tryz.prog 3 (Value.int .i64) :=
  ⟨fun e k w => check_intK e k w, fun k => by simp [Instr.sameBits], fun k es ks w h => find_int k es ks w h⟩
end Go.Proofs.YtdjooacjjnjfmaaGreat
end

-- Maps that the call itself made, next: an entry is struck out. Over any program.
section
namespace Go.Proofs.YtdjooacjjnjfmaaGreatMapK
set_option linter.unusedVariables false
set_option linter.unusedSimpArgs false
set_option linter.unusedSectionVars false
open Go

theorem erase_map {α β : Type} (f : α → β) : ∀ (l : List α) (j : Nat), (l.eraseIdx j).map f = (l.map f).eraseIdx j
  | [], _ => by simp
  | x :: l, 0 => rfl
  | x :: l, j + 1 => by simp [erase_map f l j]
section
variable {κ : Type} [DecidableEq κ] {P : Program} {t kt et : TypeId} {kv : κ → Value} {w : World} {b : Nat} {m : List (κ × Value)}
def delM (m : List (κ × Value)) (k : κ) : List (κ × Value) := m.filter fun p => decide (p.1 ≠ k)
theorem delM_none {m : List (κ × Value)} {k : κ} (h : getM m k = none) : delM m k = m := by
  unfold delM
  rw [List.filter_eq_self]
  intro p hp
  simpa using getM_none.1 h p hp
theorem delM_at : ∀ {m : List (κ × Value)} {k : κ} {v : Value} {j : Nat}, m[j]? = some (k, v) → (m.map (·.1)).Nodup → delM m k = m.eraseIdx j
  | [], _, _, _, h, _ => by simp at h
  | p :: m, k, v, 0, h, hn => by
    simp only [List.getElem?_cons_zero, Option.some.injEq] at h
    subst h
    simp only [List.map_cons, List.nodup_cons] at hn
    have : delM m k = m := by
      unfold delM
      rw [List.filter_eq_self]
      intro q hq
      have : q.1 ≠ k := fun e => hn.1 (List.mem_map.2 ⟨q, hq, e⟩)
      simpa using this
    simp only [delM, List.eraseIdx_cons_zero] at this ⊢
    rw [List.filter_cons_of_neg (by simp)]
    exact this
  | p :: m, k, v, j + 1, h, hn => by
    simp only [List.getElem?_cons_succ] at h
    simp only [List.map_cons, List.nodup_cons] at hn
    have ih := delM_at h hn.2
    have hp : p.1 ≠ k := fun e => hn.1 (e ▸ List.mem_map.2 ⟨(k, v), List.mem_of_getElem? h, rfl⟩)
    simp only [delM, List.eraseIdx_cons_succ] at ih ⊢
    rw [List.filter_cons_of_pos (by simpa using hp), ih]

theorem run_delete (K : KeyT P kt kv) (ht : P.underlying t = some (.map kt et)) (ty : TypeId) (h : IsMapAt w b kv m) (k : κ) :
    ∃ w', (Builtin.delete_ #[t, kt] ty #[.map (some b), kv k]).run P w = .ok (.tuple #[]) w' ∧ IsMapAt w' b kv (delM m k) ∧ w.grownBy w' (some b) := by
  obtain ⟨es, clock, h⟩ := h
  have hf := K.find k es.toList (m.map (·.1)) w h.keyEq
  rcases findP_spec kv k es.toList m 0 h.ents with ⟨h1, h2⟩ | ⟨j, v0, h1, h2, h3, h4⟩
  · rw [h1] at hf
    rw [delM_none h2]
    refine ⟨_, ?_, ⟨es, clock, (MapKept.heap_set h.heap).1, h.ents, h.keys, h.born, h.stamps⟩, setBlock_grown h.heap⟩
    simp [Builtin.delete_, run_underlying ht, MapKept.run_getObj_map h.heap, K.check, hf, MapKept.run_setObj_map _ h.heap, Result.andThen, ChangeMaps.setBlock]
  · rw [h1] at hf
    rw [delM_at h4 h.keys]
    simp only [Nat.zero_add] at hf
    have hjs : j < es.size := by simpa using h3
    have hsub : (es.eraseIdxIfInBounds j).toList = es.toList.eraseIdx j := by
      unfold Array.eraseIdxIfInBounds
      rw [dif_pos hjs]
      simp
    refine ⟨_, ?_, ⟨es.eraseIdxIfInBounds j, clock, (MapKept.heap_set h.heap).1, ?_, ?_, ?_, ?_⟩, setBlock_grown h.heap⟩
    · simp [Builtin.delete_, run_underlying ht, MapKept.run_getObj_map h.heap, K.check, hf, MapKept.run_setObj_map _ h.heap, Result.andThen, ChangeMaps.setBlock]
    · rw [hsub, erase_map, erase_map, h.ents]
    · rw [erase_map]; exact h.keys.sublist (List.eraseIdx_sublist _ _)
    · intro e he; rw [hsub] at he; exact h.born e ((List.eraseIdx_sublist _ _).subset he)
    · rw [hsub, erase_map]; exact h.stamps.sublist (List.eraseIdx_sublist _ _)

/-- 'delete(m, k)' at a plain region's list. -/
theorem wpList_deleteK {ops : Array Oper} {rest : List Oper} {o : Oper} {a : Act} {Q : Exit → Act → World → Prop} (hg : o.guard = none) (x y : Operand) (hop : o.op = Op.call { callee := Callee.builtin Builtin.delete, args := #[x, y], argTypes := #[t, kt] })
    (K : KeyT P kt kv) (ht : P.underlying t = some (.map kt et)) (k : κ) (hm : a.eval x = .map (some b)) (hk : a.eval y = kv k) (h : IsMapAt w b kv m)
    (hK : ∀ w', IsMapAt w' b kv (delM m k) → w.grownBy w' (some b) → wpList P ops Q rest (a.put o.dst (.tuple #[])) w') : wpList P ops Q (o :: rest) a w := by
  refine wpList_plain hg fun K' hK' => ?_
  obtain ⟨w', hrun, r1, r2⟩ := run_delete K ht o.type h k
  unfold Oper.wp
  simp [execOp, hop, resolve, invoke, builtin, hm, hk, hrun, Result.andThen]
  exact hK' _ _ (hK w' r1 r2)

/-- 'm[k] = v' at a step of a region that draws its order. -/
theorem step_updateK {ops : Array Oper} {o : Oper} {a : Act} {Q : Exit → Act → World → Prop} {C : Act → World → Prop} {Ep : Prop} (hg : o.guard = none) (x y z : Operand) (hop : o.op = Op.mapUpdate t x y z)
    (K : KeyT P kt kv) (ht : P.underlying t = some (.map kt et)) (k : κ) (v : Value) (hm : a.eval x = .map (some b)) (hk : a.eval y = kv k) (hv : a.eval z = v) (h : IsMapAt w b kv m)
    (hK : ∀ w', IsMapAt w' b kv (putM m k v) → w.grownBy w' (some b) → C (a.put o.dst undef) w') :
    if Region.wanted o (yielded ops a.tmps) = true then Oper.wp P o a w C Q else Ep := by
  rw [if_pos (by simp [Region.wanted, hg])]
  obtain ⟨w', hrun, r1, r2⟩ := run_update K ht h k v
  unfold Oper.wp
  simp [execOp, hop, hm, hk, hv, hrun, Result.andThen]
  exact hK w' r1 r2
end
end Go.Proofs.YtdjooacjjnjfmaaGreatMapK
end

-- Maps that the call itself made, walked by 'for k, v := range m': which pairs have come, in whatever order. Over any program.
section
namespace Go.Proofs.YtdjooacjjnjfmaaGreatMapK
set_option linter.unusedVariables false
set_option linter.unusedSimpArgs false
set_option linter.unusedSectionVars false
open Go
section
variable {κ : Type} [DecidableEq κ] {P : Program} {t kt et : TypeId} {kv : κ → Value} {w : World} {b r : Nat} {m : List (κ × Value)}
def StampOf (es : Array MapEntry) (m : List (κ × Value)) (p : κ × Value) (s : Nat) : Prop := ∃ (j : Nat) (e : MapEntry), es.toList[j]? = some e ∧ m[j]? = some p ∧ e.born = s
/-- The iterator at block r over the map at block b: the pairs 'done' have come. -/
def IterAt (w : World) (r b : Nat) (kv : κ → Value) (m done : List (κ × Value)) : Prop :=
  ∃ (es : Array MapEntry) (clock : Nat) (seen : Array Nat), MapAt w b kv m es clock ∧ w.heap[r]? = some (.mapIter (some b) clock seen clock) ∧ (done.map (·.1)).Nodup ∧ seen.size = done.length ∧
    (∀ s, s ∈ seen.toList ↔ ∃ p ∈ done, StampOf es m p s) ∧ ∀ p ∈ done, p ∈ m
theorem IterAt.seen {done : List (κ × Value)} (h : IterAt w r b kv m done) : (w.iterSeen r).size = done.length := by
  obtain ⟨es, clock, seen, h1, h2, h3, h4, h5, h6⟩ := h
  unfold World.iterSeen
  rw [h2]; exact h4
theorem IterAt.lt {done : List (κ × Value)} (h : IterAt w r b kv m done) : r < w.heap.size := by
  obtain ⟨es, clock, seen, h1, h2, -⟩ := h
  rcases Nat.lt_or_ge r w.heap.size with hlt | hge
  · exact hlt
  · rw [Array.getElem?_eq_none hge] at h2; cases h2
theorem IterAt.of_eq {w' : World} {done : List (κ × Value)} (h : IterAt w r b kv m done) (e : w'.heap[b]? = w.heap[b]?) (e2 : w'.heap[r]? = w.heap[r]?) : IterAt w' r b kv m done := by
  obtain ⟨es, clock, seen, h1, h2, h3⟩ := h
  exact ⟨es, clock, seen, ⟨e.trans h1.heap, h1.ents, h1.keys, h1.born, h1.stamps⟩, e2.trans h2, h3⟩
theorem iter_start (ht : P.underlying t = some (.map kt et)) (h : IsMapAt w b kv m) :
    ∃ w', (Instr.range t (.map (some b))).run P w = .ok (.pointer (some ⟨w.heap.size, 0, none⟩)) w' ∧ IterAt w' w.heap.size b kv m [] ∧ w.grownBy w' none ∧ w'.heap.size = w.heap.size + 1 := by
  have hlt := h.lt
  obtain ⟨es, clock, h⟩ := h
  refine ⟨_, run_range_map w t kt et b es clock ht h.heap, ⟨es, clock, #[], ⟨(heap_alloc_old _ _ hlt).trans h.heap, h.ents, h.keys, h.born, h.stamps⟩, heap_alloc_new _ _, List.nodup_nil, rfl, ?_, fun p hp => by cases hp⟩, World.grownBy_alloc w _ none, by simp⟩
  intro s; simp
theorem MapAt.pair {es : Array MapEntry} {clock : Nat} (h : MapAt w b kv m es clock) {j : Nat} {e : MapEntry} (hj : es.toList[j]? = some e) : ∃ p, m[j]? = some p ∧ e.key = kv p.1 ∧ e.val = p.2 := by
  have h1 := congrArg (fun l => l[j]?) h.ents
  simp only [List.getElem?_map, hj, Option.map_some] at h1
  cases hm : m[j]? with
  | none => rw [hm] at h1; cases h1
  | some p =>
    rw [hm] at h1
    simp only [Option.map_some, Option.some.injEq, Prod.mk.injEq] at h1
    exact ⟨p, rfl, h1.1, h1.2⟩
theorem MapAt.entry {es : Array MapEntry} {clock : Nat} (h : MapAt w b kv m es clock) {j : Nat} {p : κ × Value} (hj : m[j]? = some p) : ∃ e, es.toList[j]? = some e := by
  have h1 := congrArg (fun l => l[j]?) h.ents
  simp only [List.getElem?_map, hj, Option.map_some] at h1
  cases hm : es.toList[j]? with
  | none => rw [hm] at h1; cases h1
  | some e => exact ⟨e, rfl⟩
theorem nodup_at {l : List κ} (h : l.Nodup) {i j : Nat} {x : κ} (hi : l[i]? = some x) (hj : l[j]? = some x) : i = j := by
  rw [List.getElem?_eq_some_iff] at hi hj
  obtain ⟨h1, h2⟩ := hi
  obtain ⟨h3, h4⟩ := hj
  exact (List.getElem_inj h).1 (h2.trans h4.symm)
theorem nodup_atN {l : List Nat} (h : l.Nodup) {i j : Nat} {x : Nat} (hi : l[i]? = some x) (hj : l[j]? = some x) : i = j := by
  rw [List.getElem?_eq_some_iff] at hi hj
  obtain ⟨h1, h2⟩ := hi
  obtain ⟨h3, h4⟩ := hj
  exact (List.getElem_inj h).1 (h2.trans h4.symm)

theorem iter_next (ty : TypeId) {done : List (κ × Value)} (h : IterAt w r b kv m done) :
    ((∀ p ∈ m, p ∈ done) ∧ (Instr.next (.pointer (some ⟨r, 0, none⟩)) false ty).run P w = .ok (.tuple #[.bool false]) w) ∨
    ∃ p ∈ m, p.1 ∉ done.map (·.1) ∧ ∃ w', (Instr.next (.pointer (some ⟨r, 0, none⟩)) false ty).run P w = .ok (.tuple #[.bool true, kv p.1, p.2]) w' ∧
      (Instr.entry (.pointer (some ⟨r, 0, none⟩))).run P w' = .ok (.tuple #[kv p.1, p.2]) w' ∧ IterAt w' r b kv m (done ++ [p]) ∧ w.grownBy w' (some r) ∧ w'.heap.size = w.heap.size := by
  obtain ⟨es, clock, seen, h1, h2, h3, h4, h5, h6⟩ := h
  have hbr : b ≠ r := by intro e; subst e; rw [h1.heap] at h2; cases h2
  have hk : ∀ {i j : Nat} {p q : κ × Value}, m[i]? = some p → m[j]? = some q → p.1 = q.1 → i = j := by
    intro i j p q hi hj e
    have a1 : (m.map (·.1))[i]? = some p.1 := by rw [List.getElem?_map, hi]; rfl
    have a2 : (m.map (·.1))[j]? = some p.1 := by rw [List.getElem?_map, hj, e]; rfl
    exact nodup_at h1.keys a1 a2
  have hs : ∀ {i j : Nat} {p q : MapEntry}, es.toList[i]? = some p → es.toList[j]? = some q → p.born = q.born → i = j := by
    intro i j p q hi hj e
    have a1 : (es.toList.map (·.born))[i]? = some p.born := by rw [List.getElem?_map, hi]; rfl
    have a2 : (es.toList.map (·.born))[j]? = some p.born := by rw [List.getElem?_map, hj, e]; rfl
    exact nodup_atN h1.stamps a1 a2
  rcases run_next_at (P := P) w ty r b clock clock seen es clock h2 h1.heap h1.born (Nat.le_refl _) with ⟨h7, h8⟩ | ⟨e, he, w1, hw1, h8⟩
  · refine .inl ⟨fun p hp => ?_, h8⟩
    obtain ⟨j, hj⟩ := List.getElem?_of_mem hp
    obtain ⟨e, he⟩ := h1.entry hj
    have hem : e ∈ es.toList := List.mem_of_getElem? he
    by_cases hc : e.born ∈ seen.toList
    · obtain ⟨q, hq, j', e', he', hq', hb'⟩ := (h5 _).1 hc
      have := hs he he' hb'.symm
      subst this
      rw [hj] at hq'
      cases hq'
      exact hq
    · exfalso
      have : e ∈ (leftOf es seen).toList := by
        unfold leftOf
        simp only [Array.toList_filter, List.mem_filter]
        refine ⟨hem, ?_⟩
        simpa using hc
      have h0 : leftOf es seen = #[] := by simpa using h7
      rw [h0] at this
      cases this
  · right
    have hmem : e ∈ es.toList ∧ e.born ∉ seen.toList := by
      unfold leftOf at he
      simp only [Array.toList_filter, List.mem_filter] at he
      exact ⟨he.1, by simpa using he.2⟩
    obtain ⟨j, hj⟩ := List.getElem?_of_mem hmem.1
    obtain ⟨p, hp, k1, k2⟩ := h1.pair hj
    have hw : w1.heap = w.heap := by rcases hw1 with rfl | rfl <;> rfl
    have hr1 : w1.heap[r]? = some (.mapIter (some b) clock seen clock) := by rw [hw]; exact h2
    have hnd : p.1 ∉ done.map (·.1) := by
      intro hin
      obtain ⟨q, hq, e1⟩ := List.mem_map.1 hin
      obtain ⟨i, hi⟩ := List.getElem?_of_mem (h6 q hq)
      have := hk hi hp e1
      subst this
      rw [hp] at hi
      cases hi
      exact hmem.2 ((h5 _).2 ⟨p, hq, i, e, hj, hp, rfl⟩)
    have hg1 : w1.grownBy (ChangeMaps.setBlock w1 r (.mapIter (some b) clock (seen.push e.born) clock)) (some r) := setBlock_grown hr1
    have hg : w.grownBy (ChangeMaps.setBlock w1 r (.mapIter (some b) clock (seen.push e.born) clock)) (some r) := by
      rcases hw1 with rfl | rfl
      · exact hg1
      · exact ⟨hg1.os, hg1.tape, hg1.output, hg1.size, hg1.block⟩
    have hb2 : (ChangeMaps.setBlock w1 r (.mapIter (some b) clock (seen.push e.born) clock)).heap[b]? = some (.map es clock) := (hg.block b (by
      rcases Nat.lt_or_ge b w.heap.size with hlt | hge
      · exact hlt
      · have := h1.heap; rw [Array.getElem?_eq_none hge] at this; cases this) (by intro h0; cases h0; exact hbr rfl)).trans h1.heap
    have hr2 : (ChangeMaps.setBlock w1 r (.mapIter (some b) clock (seen.push e.born) clock)).heap[r]? = some (.mapIter (some b) clock (seen.push e.born) clock) := (MapKept.heap_set hr1).1
    refine ⟨p, List.mem_of_getElem? hp, hnd, _, by rw [h8, k1, k2], by rw [← k1, ← k2]; exact run_entry_at _ r b clock seen es clock e hr2 hb2 hmem.1 h1.stamps, ⟨es, clock, _, ⟨hb2, h1.ents, h1.keys, h1.born, h1.stamps⟩, hr2, ?_, ?_, ?_, ?_⟩, hg, ?_⟩
    · rw [List.map_append]
      exact List.nodup_append.2 ⟨h3, by simp, by intro a ha c hc e1; simp only [List.map_cons, List.map_nil, List.mem_singleton] at hc; subst hc; subst e1; exact hnd ha⟩
    · simp [h4]
    · intro s
      simp only [Array.toList_push, List.mem_append, List.mem_singleton, h5]
      constructor
      · rintro (⟨q, hq, h⟩ | rfl)
        · exact ⟨q, .inl hq, h⟩
        · exact ⟨p, .inr rfl, j, e, hj, hp, rfl⟩
      · rintro ⟨q, hq | rfl, h⟩
        · exact .inl ⟨q, hq, h⟩
        · obtain ⟨i, e', a1, a2, a3⟩ := h
          have := hk a2 hp rfl
          subst this
          rw [hj] at a1
          cases a1
          exact .inr a3.symm
    · intro q hq
      rcases List.mem_append.1 hq with hq | hq
      · exact h6 q hq
      · simp only [List.mem_singleton] at hq; subst hq; exact List.mem_of_getElem? hp
    · simp [ChangeMaps.setBlock, hw]
theorem nodup_le : ∀ (l : List κ), l.Nodup → ∀ m : List κ, l ⊆ m → l.length ≤ m.length
  | [], _, _, _ => Nat.zero_le _
  | x :: l, hn, m, hs => by
    have hn' := List.nodup_cons.1 hn
    have hx : x ∈ m := hs List.mem_cons_self
    have := nodup_le l hn'.2 (m.erase x) fun y hy => (List.mem_erase_of_ne (show y ≠ x from fun e => by subst e; exact hn'.1 hy)).2 (hs (List.mem_cons_of_mem _ hy))
    rw [List.length_erase_of_mem hx] at this
    have h0 := List.length_pos_of_mem hx
    simp only [List.length_cons]
    omega
/-- What has come is part of the map; no more than it holds. -/
theorem IterAt.some_left {done : List (κ × Value)} (h : IterAt w r b kv m done) {p : κ × Value} (hp : p ∈ m) (hn : p.1 ∉ done.map (·.1)) : done.length < m.length := by
  obtain ⟨es, clock, seen, h1, h2, h3, h4, h5, h6⟩ := h
  have hsub : (p :: done).map (·.1) ⊆ m.map (·.1) := by
    intro x hx
    obtain ⟨q, hq, rfl⟩ := List.mem_map.1 hx
    rcases List.mem_cons.1 hq with rfl | hq
    · exact List.mem_map.2 ⟨_, hp, rfl⟩
    · exact List.mem_map.2 ⟨q, h6 q hq, rfl⟩
  have hnd : ((p :: done).map (·.1)).Nodup := List.nodup_cons.2 ⟨hn, h3⟩
  have := nodup_le _ hnd _ hsub
  simp at this
  omega
theorem IterAt.all {done : List (κ × Value)} (h : IterAt w r b kv m done) (ha : ∀ p ∈ m, p ∈ done) : List.Perm done m := by
  obtain ⟨es, clock, seen, h1, h2, h3, h4, h5, h6⟩ := h
  have n1 : done.Nodup := List.Pairwise.of_map _ (fun a c hn e => hn (congrArg Prod.fst e)) h3
  have n2 : m.Nodup := List.Pairwise.of_map _ (fun a c hn e => hn (congrArg Prod.fst e)) h1.keys
  exact (List.perm_ext_iff_of_nodup n1 n2).2 fun p => ⟨h6 p, ha p⟩
end
end Go.Proofs.YtdjooacjjnjfmaaGreatMapK
end

-- The search for an order, as plain data: what fits, what is found first, what a memory of dead states may leave out. Over any program.
section
namespace Go.Proofs.YtdjooacjjnjfmaaGreatLin
set_option linter.unusedVariables false
set_option linter.unusedSimpArgs false

section
variable {S : Type} (n : Nat) (bef : Nat → Nat → Bool) (step : S → Nat → Option S)
/-- May part k be the next one, where those of ord were done? -/
def rdy (ord : List Nat) (k : Nat) : Bool := !ord.contains k && (List.range n).all fun i => ord.contains i || decide (i = k) || !bef i k
/-- The first way on: r more parts. -/
def fnd : Nat → List Nat → S → Option (List Nat)
  | 0, _, _ => some []
  | r + 1, ord, m => (List.range n).findSome? fun k => if rdy n bef ord k then (step m k).bind fun m' => (fnd r (ord ++ [k]) m').map (k :: ·) else none
/-- What is tried at one part. -/
def tri (r : Nat) (ord : List Nat) (m : S) (k : Nat) : Option (List Nat) := if rdy n bef ord k then (step m k).bind fun m' => (fnd n bef step r (ord ++ [k]) m').map (k :: ·) else none
theorem fnd_succ (r : Nat) (ord : List Nat) (m : S) : fnd n bef step (r + 1) ord m = (List.range n).findSome? (tri n bef step r ord m) := rfl
/-- Steps one behind the other. -/
def runS (m : S) : List Nat → Option S
  | [] => some m
  | k :: l => (step m k).bind fun m' => runS m' l
/-- A way on that fits. -/
def Way : List Nat → S → List Nat → Prop
  | _, _, [] => True
  | ord, m, k :: l => rdy n bef ord k = true ∧ k < n ∧ ∃ m', step m k = some m' ∧ Way (ord ++ [k]) m' l
end
section
variable {S : Type} {n : Nat} {bef : Nat → Nat → Bool} {step : S → Nat → Option S}
theorem rdy_iff {ord : List Nat} {k : Nat} : rdy n bef ord k = true ↔ k ∉ ord ∧ ∀ i, i < n → i ∉ ord → i ≠ k → bef i k = false := by
  unfold rdy
  rw [Bool.and_eq_true, List.all_eq_true]
  constructor
  · rintro ⟨h1, h2⟩
    refine ⟨by simpa using h1, fun i hi ho hk => ?_⟩
    have := h2 i (List.mem_range.2 hi)
    simpa [ho, hk] using this
  · rintro ⟨h1, h2⟩
    refine ⟨by simpa using h1, fun i hi => ?_⟩
    have hi := List.mem_range.1 hi
    by_cases ho : i ∈ ord
    · simp [ho]
    · by_cases hk : i = k
      · simp [hk]
      · simp [h2 i hi ho hk]
theorem rdy_congr {ord ord' : List Nat} (h : ∀ i, i ∈ ord ↔ i ∈ ord') (k : Nat) : rdy n bef ord k = rdy n bef ord' k := by
  rw [Bool.eq_iff_iff, rdy_iff, rdy_iff]
  simp only [h]
theorem range_find {α : Type} {f : Nat → Option α} : ∀ {n : Nat} {x : α}, (List.range n).findSome? f = some x → ∃ k, k < n ∧ f k = some x ∧ ∀ j, j < k → f j = none := by
  intro n
  induction n with
  | zero => intro x h; simp at h
  | succ n ih =>
    intro x h
    rw [List.range_succ, List.findSome?_append] at h
    cases hc : (List.range n).findSome? f with
    | some y =>
      rw [hc] at h
      simp at h
      obtain ⟨k, h1, h2, h3⟩ := ih hc
      exact ⟨k, by omega, by rw [h2, h], h3⟩
    | none =>
      rw [hc] at h
      simp at h
      rw [List.findSome?_eq_none_iff] at hc
      exact ⟨n, by omega, h, fun j hj => hc j (List.mem_range.2 hj)⟩
theorem range_find_none {α : Type} {f : Nat → Option α} {n : Nat} : (List.range n).findSome? f = none ↔ ∀ k, k < n → f k = none := by
  rw [List.findSome?_eq_none_iff]
  exact ⟨fun h k hk => h k (List.mem_range.2 hk), fun h k hk => h k (List.mem_range.1 hk)⟩
theorem range_find_some {α : Type} {f : Nat → Option α} {n k : Nat} {x : α} (hk : k < n) (h : f k = some x) (hn : ∀ j, j < k → f j = none) : (List.range n).findSome? f = some x := by
  cases hc : (List.range n).findSome? f with
  | none => rw [range_find_none.1 hc k hk] at h; cases h
  | some y =>
    obtain ⟨k', h1, h2, h3⟩ := range_find hc
    have : k' = k := by
      rcases Nat.lt_trichotomy k' k with h4 | h4 | h4
      · rw [hn k' h4] at h2; cases h2
      · exact h4
      · rw [h3 k h4] at h; cases h
    subst this
    rw [← h2, h]
theorem tri_some {r : Nat} {ord : List Nat} {m : S} {k : Nat} {l : List Nat} (h : tri n bef step r ord m k = some l) : ∃ m' l', rdy n bef ord k = true ∧ step m k = some m' ∧ fnd n bef step r (ord ++ [k]) m' = some l' ∧ l = k :: l' := by
  unfold tri at h
  split at h
  · rename_i hr
    cases hs : step m k with
    | none => rw [hs] at h; cases h
    | some m' =>
      rw [hs] at h
      simp only [Option.bind_some, Option.map_eq_some_iff] at h
      obtain ⟨l', h1, rfl⟩ := h
      exact ⟨m', l', hr, rfl, h1, rfl⟩
  · cases h
/-- What is found is a way on that fits, of the length that was asked for. -/
theorem fnd_way : ∀ (r : Nat) {ord : List Nat} {m : S} {l : List Nat}, fnd n bef step r ord m = some l → Way n bef step ord m l ∧ l.length = r
  | 0, ord, m, l, h => by
    simp only [fnd, Option.some.injEq] at h
    subst h
    exact ⟨trivial, rfl⟩
  | r + 1, ord, m, l, h => by
    rw [fnd_succ] at h
    obtain ⟨k, hk, h1, -⟩ := range_find h
    obtain ⟨m', l', h2, h3, h4, rfl⟩ := tri_some h1
    obtain ⟨h5, h6⟩ := fnd_way r h4
    exact ⟨⟨h2, hk, m', h3, h5⟩, by simp [h6]⟩
/-- Number by number no greater. -/
def leL : List Nat → List Nat → Prop
  | [], _ => True
  | _ :: _, [] => False
  | a :: l, b :: l' => a < b ∨ (a = b ∧ leL l l')
/-- Where there is a way on, one is found, and it is no greater. -/
theorem way_fnd : ∀ (r : Nat) {ord : List Nat} {m : S} {l : List Nat}, Way n bef step ord m l → l.length = r → ∃ l', fnd n bef step r ord m = some l' ∧ leL l' l
  | 0, ord, m, l, h, hl => ⟨[], rfl, trivial⟩
  | r + 1, ord, m, [], h, hl => by simp at hl
  | r + 1, ord, m, k :: l, h, hl => by
    obtain ⟨h1, hk, m', h2, h3⟩ := h
    simp only [List.length_cons, Nat.add_right_cancel_iff] at hl
    obtain ⟨l', h4, h5⟩ := way_fnd r h3 hl
    have ht : tri n bef step r ord m k = some (k :: l') := by unfold tri; rw [if_pos h1, h2]; simp [h4]
    rw [fnd_succ]
    cases hc : (List.range n).findSome? (tri n bef step r ord m) with
    | none => rw [range_find_none.1 hc k hk] at ht; cases ht
    | some x =>
      refine ⟨x, rfl, ?_⟩
      obtain ⟨j, hj, h6, h7⟩ := range_find hc
      obtain ⟨m2, l2, -, -, -, rfl⟩ := tri_some h6
      rcases Nat.lt_trichotomy j k with h8 | h8 | h8
      · exact .inl h8
      · subst h8
        rw [ht] at h6
        simp only [Option.some.injEq, List.cons.injEq, true_and] at h6
        subst h6
        exact .inr ⟨rfl, h5⟩
      · rw [h7 k h8] at ht; cases ht
/-- How a search hangs on what was done and on the state: by any relation that steps keep. -/
theorem fnd_congr {R : S → S → Prop} (hR : ∀ m m' k, R m m' → (step m k = none ∧ step m' k = none) ∨ ∃ x x', step m k = some x ∧ step m' k = some x' ∧ R x x') :
    ∀ (r : Nat) {ord ord' : List Nat} {m m' : S}, (∀ i, i ∈ ord ↔ i ∈ ord') → R m m' → fnd n bef step r ord m = fnd n bef step r ord' m'
  | 0, ord, ord', m, m', _, _ => rfl
  | r + 1, ord, ord', m, m', ho, hm => by
    rw [fnd_succ, fnd_succ]
    congr 1
    funext k
    unfold tri
    rw [rdy_congr ho]
    split
    · rcases hR m m' k hm with ⟨h1, h2⟩ | ⟨x, x', h1, h2, h3⟩
      · rw [h1, h2]; rfl
      · rw [h1, h2]
        simp only [Option.bind_some]
        rw [fnd_congr hR r (ord := ord ++ [k]) (ord' := ord' ++ [k]) (fun i => by simp [ho i]) h3]
    · rfl
end

/-! ### Orders as lists of numbers -/
section
variable {S : Type} (n : Nat) (bef : Nat → Nat → Bool) (step : S → Nat → Option S)
/-- Is it each of n places once? -/
def allIn (o : List Int) : Bool := decide (o.length = n) && (o.all fun z => decide (0 ≤ z) && decide (z < n)) && decide o.Nodup
/-- None has to stand ahead of one that is ahead of it. -/
def pairO : List Int → Bool
  | [] => true
  | k :: l => (l.all fun z => !bef z.toNat k.toNat) && pairO l
def fitO (m : S) (o : List Int) : Bool := allIn n o && (pairO bef o && (runS step m (o.map Int.toNat)).isSome)
end
section
variable {S : Type} {n : Nat} {bef : Nat → Nat → Bool} {step : S → Nat → Option S}
theorem allIn_iff {o : List Int} : allIn n o = true ↔ o.length = n ∧ (∀ z ∈ o, 0 ≤ z ∧ z < n) ∧ o.Nodup := by
  unfold allIn
  simp [and_assoc]
def toI (l : List Nat) : List Int := l.map fun k : Nat => (k : Int)
theorem toI_toNat (l : List Nat) : (toI l).map Int.toNat = l := by
  unfold toI
  rw [List.map_map]
  induction l with
  | nil => rfl
  | cons a l ih => simp [ih]
theorem toNat_toI {o : List Int} (h : ∀ z ∈ o, 0 ≤ z) : toI (o.map Int.toNat) = o := by
  unfold toI
  rw [List.map_map]
  induction o with
  | nil => rfl
  | cons a l ih =>
    have h0 := h a (List.mem_cons_self ..)
    simp only [List.map_cons, Function.comp]
    rw [show (fun k : Nat => (k : Int)) ∘ Int.toNat = fun z : Int => ((z.toNat : Nat) : Int) from rfl] at ih
    rw [Int.toNat_of_nonneg h0]
    congr 1
    exact ih fun z hz => h z (List.mem_cons_of_mem _ hz)
theorem nodup_le : ∀ (n : Nat) {l : List Nat}, l.Nodup → (∀ k ∈ l, k < n) → l.length ≤ n
  | 0, l, _, hb => by
    cases l with
    | nil => simp
    | cons a l => exact absurd (hb a (List.mem_cons_self ..)) (Nat.not_lt_zero _)
  | n + 1, l, hn, hb => by
    have h1 := nodup_le n (hn.erase n) (fun k hk => by
      have h2 := (List.Nodup.mem_erase_iff hn).1 hk
      have h3 := hb k h2.2
      have := h2.1
      omega)
    have h2 := List.length_erase (a := n) (l := l)
    split at h2 <;> omega
theorem mem_all_of_nodup {l : List Nat} (hl : l.length = n) (hn : l.Nodup) (hb : ∀ k ∈ l, k < n) {i : Nat} (hi : i < n) : i ∈ l := by
  rcases Classical.em (i ∈ l) with h | h
  · exact h
  · exfalso
    have hs : (i :: l).Nodup := List.nodup_cons.2 ⟨h, hn⟩
    have := nodup_le n hs (by
      intro x hx
      rcases List.mem_cons.1 hx with rfl | hx
      · exact hi
      · exact hb x hx)
    simp at this
    omega
/-- A way on, to the end: an order that fits. -/
theorem way_iff : ∀ {l ord : List Nat} {m : S}, (ord ++ l).length = n → (ord ++ l).Nodup → (∀ k ∈ ord ++ l, k < n) →
    (Way n bef step ord m l ↔ pairO bef (toI l) = true ∧ (runS step m l).isSome = true)
  | [], ord, m, _, _, _ => by simp [Way, pairO, toI, runS]
  | k :: l, ord, m, hl, hn, hb => by
    have e : ord ++ k :: l = (ord ++ [k]) ++ l := by simp
    have ih := fun m' => way_iff (l := l) (ord := ord ++ [k]) (m := m') (by rw [← e]; exact hl) (by rw [← e]; exact hn) (by rw [← e]; exact hb)
    have hrd : rdy n bef ord k = true ↔ ((toI l).all fun z => !bef z.toNat k) = true := by
      rw [rdy_iff, List.all_eq_true]
      have hn1 := List.nodup_append.1 hn
      have hn2 := List.nodup_cons.1 hn1.2.1
      constructor
      · rintro ⟨h1, h2⟩ z hz
        unfold toI at hz
        obtain ⟨i, hi, rfl⟩ := List.mem_map.1 hz
        have hib : i < n := hb i (List.mem_append_right _ (List.mem_cons_of_mem _ hi))
        have h3 := h2 i hib (fun ho => hn1.2.2 i ho i (List.mem_cons_of_mem _ hi) rfl) (fun ek => hn2.1 (ek ▸ hi))
        simp [h3]
      · intro h
        refine ⟨fun ho => hn1.2.2 k ho k (List.mem_cons_self ..) rfl, fun i hi ho hk => ?_⟩
        have hmem := mem_all_of_nodup hl hn hb hi
        have hil : i ∈ l := by
          rcases List.mem_append.1 hmem with h1 | h1
          · exact absurd h1 ho
          · rcases List.mem_cons.1 h1 with h1 | h1
            · exact absurd h1 hk
            · exact h1
        have := h (i : Int) (by unfold toI; exact List.mem_map.2 ⟨i, hil, rfl⟩)
        simpa using this
    have hkb : k < n := hb k (List.mem_append_right _ (List.mem_cons_self ..))
    have ep : pairO bef (toI (k :: l)) = (((toI l).all fun z => !bef z.toNat k) && pairO bef (toI l)) := rfl
    unfold Way runS
    rw [ep, Bool.and_eq_true, ← hrd]
    cases hs : step m k with
    | none => simp
    | some m' => simp [ih m', hkb, and_assoc]
theorem fitO_iff {m : S} {o : List Int} : fitO n bef step m o = true ↔ ∃ l : List Nat, o = toI l ∧ l.length = n ∧ Way n bef step [] m l := by
  unfold fitO
  rw [Bool.and_eq_true, Bool.and_eq_true, allIn_iff]
  constructor
  · rintro ⟨⟨h1, h2, h3⟩, h4⟩
    have he := toNat_toI fun z hz => (h2 z hz).1
    refine ⟨o.map Int.toNat, he.symm, by simpa using h1, ?_⟩
    have hnd : (o.map Int.toNat).Nodup := by
      rw [← he] at h3
      unfold toI at h3
      rw [List.Nodup, List.pairwise_map] at h3
      exact h3.imp fun h e => h (by rw [e])
    rw [way_iff (by simpa using h1) (by simpa using hnd) (by
      intro k hk
      simp only [List.nil_append, List.mem_map] at hk
      obtain ⟨z, hz, rfl⟩ := hk
      have := h2 z hz
      omega), he]
    exact h4
  · rintro ⟨l, rfl, h1, h2⟩
    have key : ∀ (l ord : List Nat) (m : S), Way n bef step ord m l → ord.Nodup → (ord ++ l).Nodup ∧ ∀ k ∈ l, k < n := by
      intro l
      induction l with
      | nil => intro ord m _ ho; exact ⟨by simpa using ho, by simp⟩
      | cons k l ih =>
        intro ord m hw ho
        obtain ⟨hr, hk, m', hs, hw⟩ := hw
        have hko := (rdy_iff.1 hr).1
        obtain ⟨h3, h4⟩ := ih (ord ++ [k]) m' hw (by rw [List.nodup_append]; exact ⟨ho, by simp, fun a ha b hb e => by simp only [List.mem_singleton] at hb; subst hb; subst e; exact hko ha⟩)
        refine ⟨by simpa using h3, fun j hj => ?_⟩
        rcases List.mem_cons.1 hj with rfl | hj
        · exact hk
        · exact h4 j hj
    obtain ⟨h3, h4⟩ := key l [] m h2 List.nodup_nil
    refine ⟨⟨by simpa [toI] using h1, ?_, ?_⟩, ?_⟩
    · intro z hz
      unfold toI at hz
      obtain ⟨k, hk, rfl⟩ := List.mem_map.1 hz
      have := h4 k hk
      omega
    · unfold toI
      have h5 : l.Nodup := by simpa using h3
      rw [List.Nodup, List.pairwise_map]
      exact List.Pairwise.imp (fun h => by omega) h5
    · rw [toI_toNat]
      exact (way_iff (ord := []) (by simpa using h1) (by simpa using h3) (by simpa using h4)).1 h2
theorem fitO_fnd {m : S} {o : List Int} (h : fitO n bef step m o = true) : ∃ l, fnd n bef step n [] m = some l ∧ ∃ p, o = toI p ∧ leL l p := by
  obtain ⟨p, rfl, h1, h2⟩ := fitO_iff.1 h
  obtain ⟨l, h3, h4⟩ := way_fnd n h2 h1
  exact ⟨l, h3, p, rfl, h4⟩
theorem fnd_fitO {m : S} {l : List Nat} (h : fnd n bef step n [] m = some l) : fitO n bef step m (toI l) = true := by
  obtain ⟨h1, h2⟩ := fnd_way n h
  exact fitO_iff.2 ⟨l, rfl, h2, h1⟩
theorem fnd_length {m : S} {l : List Nat} {r : Nat} {ord : List Nat} (h : fnd n bef step r ord m = some l) : l.length = r := (fnd_way r h).2
theorem fnd_lt {m : S} : ∀ {r : Nat} {ord l : List Nat} {m : S}, fnd n bef step r ord m = some l → ∀ k ∈ l, k < n := by
  intro r ord l m h
  have hw := (fnd_way r h).1
  clear h
  induction l generalizing ord m with
  | nil => simp
  | cons k l ih =>
    obtain ⟨_, hk, m', _, hw⟩ := hw
    intro j hj
    rcases List.mem_cons.1 hj with rfl | hj
    · exact hk
    · exact ih hw j hj
end
end Go.Proofs.YtdjooacjjnjfmaaGreatLin
end
