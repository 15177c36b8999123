/- weighbridgehelp at packets and calls, next: a copy with spare room in which there is something; what is written over; whether it is as it was. -/
import Derived.Test.YtonldjkmbapjeaaHelpD
import Derived.Test.YtonldjkmbapjeaaMemW
import Derived.OwnWalk
namespace Go.Proofs.Ytonldjkmbapjeaa
set_option linter.unusedVariables false
set_option linter.unusedSimpArgs false
open Go.RowKit Go.Proofs.YtonldjkmbapjeaaMem Go.Proofs.YtonldjkmbapjeaaFlat

theorem grown_both {w w1 w2 : World} {r : Option Nat} (h : w.grownBy w1 r) (h' : w1.grownBy w2 r) : w.grownBy w2 r :=
  ⟨h'.os.trans h.os, h'.tape.trans h.tape, h'.output.trans h.output, Nat.le_trans h.size h'.size, fun k hk hne => (h'.block k (Nat.lt_of_lt_of_le hk h.size) hne).trans (h.block k hk hne)⟩
theorem own_src {w w1 : World} {ao : Option Addr} {xs : List Value} (h : ∀ j u, xs[j]? = some u → ∃ b off, ao = some ⟨b, off, none⟩ ∧ b < w.heap.size ∧ w.cell? ⟨b, off + j, none⟩ = some u) (hb : Below w.heap.size w w1) :
    ∀ ad, ao = some ad → ∀ j u, xs[j]? = some u → w1.cell? (ad.add j) = some u := fun ad he j u hu => by
  obtain ⟨b, off, e, hlt, hcc⟩ := h j u hu
  rw [he] at e; cases e
  have e1 : ((⟨b, off, none⟩ : Addr).add j) = ⟨b, off + j, none⟩ := by unfold Addr.add; split <;> simp_all
  rw [e1]; exact (hb.cell (p := ⟨b, off + j, none⟩) hlt).trans hcc
theorem pkC_append (a b : List PkS) : pkC (a ++ b) = pkC a ++ pkC b := by simp [pkC]
theorem pkC_snoc (l : List PkS) (p : PkS) : pkC (l ++ [p]) = pkC l ++ p.cells := by simp [pkC]
theorem box_cells {w : World} {B : Nat} {c0 c1 c2 : Value} {t : TypeId} (h : w.heap[B]? = some (.cells #[c0, c1, c2] t (0, 0))) : w.cell? ⟨B, 0, none⟩ = some c0 ∧ w.cell? ⟨B, 1, none⟩ = some c1 ∧ w.cell? ⟨B, 2, none⟩ = some c2 := by
  simp only [World.cell?, h]
  exact ⟨rfl, rfl, rfl⟩
theorem owns_rdK {w : World} {base : Nat} {ao : Option Addr} {n cap : Nat} {l : List PkS} (h : w.ownsRow base 49 3 (.slice ao n cap) n (pkC l)) (hf : ∀ p ∈ l, p.Ok) : RdK w ao n cap l :=
  ⟨owns_rdS h (pkC_one _), by have := h.1; rw [pkC_length] at this; omega, hf⟩

/-- A copy, in a block of its own, three more behind it. -/
def OwnedK (w : World) (g n : Nat) (l : List PkS) (f : PkS) : Prop := l.length = n ∧ w.ownsRow 0 49 3 (.slice (some ⟨g, 0, none⟩) (n + 3) (n + 3)) (n + 3) (pkC (l ++ [f, f, f]))
def OwnPostK (w : World) (n : Nat) (l : List PkS) (f : PkS) (en : Ending) (w' : World) : Prop := ∃ g, en = .returned (.slice (some ⟨g, 0, none⟩) n (n + 3)) ∧ w.heap.size ≤ g ∧ g < w'.heap.size ∧ OwnedK w' g n l f ∧ Below w.heap.size w w'

set_option maxHeartbeats 1000000 in
theorem ownK3_any (ao : Option Addr) (n cap : Nat) (l : List PkS) (f : PkS) (w : World) (h : RdK w ao n cap l) (hn : n ≤ 1048576) :
    Calls Try.prog 28 #[.slice ao n cap, .agg #[.int .i64 f.flow, .int .i64 f.len, .int .i64 f.mark]] w (OwnPostK w n l f) := by
  have HN := Lib.hid h.rd.nil
  have HL : Hid ((pkC l).length = n * 3) := h.rd.len
  have HC := Lib.hid h.rd.at_
  have H1 := Lib.hid (pkC_one l)
  have HZ := Lib.hid h.len
  obtain ⟨bytes, hi, hb⟩ := EPK.info
  obtain ⟨i0, hi, hz0, hz1, hz2⟩ := info_parts hi
  have hb8 : i0.bytes * (n + 3) ≤ 281474976710656 := by rw [hz2]; exact Nat.le_trans (Nat.mul_le_mul hb (show n + 3 ≤ 1048579 by omega)) (by omega)
  have HB8 := Lib.hid hb8
  have HI := Lib.hid hi
  have HZ0 := Lib.hid hz0
  have HZ1 := Lib.hid hz1
  have hm : n + 3 ≤ maxLen := by unfold maxLen; omega
  have hC : ((n : Int) + 3) = ((n + 3 : Nat) : Int) := by omega
  have HCC := Lib.hid hC
  clear hi hz0 hz1 hz2 hb8 hC h
  go_enter Try.func28, Try.ntmps28
  have hroom : 0 + n ≤ n + 3 := by omega
  go_upto_region 1 with fail
  obtain ⟨W0, hW0⟩ : ∃ W0, W0 = w.alloc (.cells #[.int .i64 f.flow, .int .i64 f.len, .int .i64 f.mark] 49) := ⟨_, rfl⟩
  have hbW : Below w.heap.size w W0 := by rw [hW0]; exact below1 _ _
  have hbx : ∀ w' : World, Below W0.heap.size W0 w' → w'.heap[w.heap.size]? = some (.cells #[.int .i64 f.flow, .int .i64 f.len, .int .i64 f.mark] 49 (0, 0)) := fun w' hb => (hb.block _ (by rw [hW0]; simp)).trans (by rw [hW0]; exact heap_alloc_new _ _)
  have HBX := Lib.hid hbx
  have hCW : ∀ j u, (pkC l)[j]? = some u → ∃ b off, ao = some ⟨b, off, none⟩ ∧ b < W0.heap.size ∧ W0.cell? ⟨b, off + j, none⟩ = some u := by
    intro j u hu
    obtain ⟨b, off, e, hlt, hc⟩ := HC.out j u hu
    exact ⟨b, off, e, Nat.lt_of_lt_of_le hlt hbW.size, (hbW.cell (p := ⟨b, off + j, none⟩) hlt).trans hc⟩
  have HCW := Lib.hid hCW
  rw [← hW0]
  clear hW0 hbx hCW HC
  generalize hBx : w.heap.size = B at *
  have hbase0 : W0.heap.size ≤ W0.heap.size := Nat.le_refl _
  go_wp2_with (first
    | (refine wpList_make_own W0 rfl _ _ 26 rfl W0.heap.size 49 i0 (.agg #[.int .i64 0, .int .i64 0, .int .i64 0]) 3 Try.underlying26 HI.out HZ0.out HZ1.out .i64 .i64 ((n : Int) + 3) (n + 3) rfl rfl HCC.out HB8.out hm hbase0 ?_; intro w1 hown1 hg1; have hb1 : Below W0.heap.size W0 w1 := (Below.refl _ _).grown hg1 hbase0 (fun k hk => by cases hk); have hlt1 : W0.heap.size < w1.heap.size := (hown1.lt _ rfl).2; have HC1 := Lib.hid (own_src HCW.out hb1))
    | (refine wpList_append_fits_any w1 rfl _ _ 26 rfl W0.heap.size 49 i0 3 Try.underlying26 HI.out HZ1.out W0.heap.size 0 (n + 3) [] rfl hown1 ao n cap (pkC l) rfl HL.out HN.out HC1.out H1.out hroom ?_; intro w2 hown2 hg2; rw [Nat.zero_add] at hown2; have hb2 : Below W0.heap.size W0 w2 := hb1.grown hg2 hb1.size (fun k hk => by cases hk; exact Nat.le_refl _); have hlt2 : W0.heap.size < w2.heap.size := (hown2.lt _ rfl).2; simp only [List.nil_append] at hown2; simp only [Nat.zero_add]))
  have HH := Lib.hid hown2
  clear hown1 hg1 hb1 hlt1 HC1 hg2
  generalize hG : W0.heap.size = G at *
  go_loopw [7] (fun i wr => ∃ k : Nat, k ≤ 3 ∧ i = .int .i64 (n + k : Nat) ∧ wr.ownsRow G 49 3 (.slice (some ⟨G, 0, none⟩) (n + k) (n + 3)) (n + k) (pkC (l ++ List.replicate k f)) ∧ Below G W0 wr) (fun i _ => n + 3 - (intOf i).toNat)
  case atStart => exact ⟨0, by omega, rfl, by simpa using hown2, hb2⟩
  case round =>
    obtain ⟨k, hk, rfl, hownr, hbr⟩ := hrel
    clear hown2 HH
    by_cases hl : k < 3
    · have hlt5 : (n + k) * 3 + 2 < (n + 3) * 3 := by omega
      obtain ⟨u0, hu0⟩ := owns_spare hownr (j := (n + k) * 3) (by omega)
      obtain ⟨u1, hu1⟩ := owns_spare hownr (j := (n + k) * 3 + 1) (by omega)
      obtain ⟨u2, hu2⟩ := owns_spare hownr (j := (n + k) * 3 + 2) (by omega)
      have z0 := hownr.frozenAt ((n + k) * 3)
      have z1 := hownr.frozenAt ((n + k) * 3 + 1)
      have z2 := hownr.frozenAt ((n + k) * 3 + 2)
      obtain ⟨x0, x1, x2⟩ := box_cells (HBX.out wr hbr)
      have hltr : G < wr.heap.size := (hownr.lt _ rfl).2
      have hnk : (0 : Int) ≤ (n : Int) + k := by omega
      have hp := owns_pushR hownr (by omega) (us := f.cells) rfl
      have HP := Lib.hid hp
      clear hp
      go_wp2
      go_roundw
      case rel =>
        refine ⟨k + 1, by omega, by go_num, ?_, ((hbr.setCell (p := ⟨G, (n + k) * 3, none⟩) (Nat.le_refl _) _).setCell (p := ⟨G, (n + k) * 3 + 1, none⟩) (Nat.le_refl _) _).setCell (p := ⟨G, (n + k) * 3 + 2, none⟩) (Nat.le_refl _) _⟩
        rw [List.replicate_succ', ← List.append_assoc, pkC_snoc]
        exact HP.out
      case measure => simp [intOf]; omega
    · have hk3 : k = 3 := by omega
      subst hk3
      go_wp2
      go_ret
      exact ⟨G, rfl, by rw [← hG]; rw [← hBx] at hbW; exact hbW.size, (hownr.lt _ rfl).2, ⟨HZ.out, owns_base (by simpa [List.replicate] using hownr) (Nat.zero_le _)⟩, by rw [← hBx] at hbW; rw [← hG] at hbr; exact below_step hbW hbr⟩

theorem OwnedK.below {w w' : World} {g n : Nat} {l : List PkS} {f : PkS} (h : OwnedK w g n l f) (hb : Below w.heap.size w w') : OwnedK w' g n l f := ⟨h.1, owns_below (B := 0) h.2 hb⟩
theorem OwnedK.grown {w w' : World} {g n : Nat} {l : List PkS} {f : PkS} {r : Option Nat} (h : OwnedK w g n l f) (hg : w.grownBy w' r) (hne : r ≠ some g) : OwnedK w' g n l f :=
  ⟨h.1, owns_grown h.2 hg fun k hk => by cases hk; exact hne⟩
theorem row_ofS {w : World} {g m cap n s : Nat} {xs : List Value} {base : Nat} {e : TypeId} (h : w.ownsRow base e s (.slice (some ⟨g, 0, none⟩) m cap) m xs) (hn : n ≤ m) (base' : Nat) (hb : base' ≤ g) : w.ownsRow base' e s (.slice (some ⟨g, 0, none⟩) n cap) n (xs.take (n * s)) := by
  have hl := h.1
  have hle : n * s ≤ m * s := Nat.mul_le_mul_right s hn
  rcases h.2 with ⟨hv, _⟩ | ⟨g', cap', cur, hv, _, hh, hnc, hm, hs, ht⟩
  · simp at hv
  · simp only [Value.slice.injEq, Option.some.injEq, Addr.mk.injEq, and_true, true_and] at hv
    obtain ⟨rfl, rfl⟩ := hv
    refine ⟨by rw [List.length_take, hl]; omega, .inr ⟨g, cap, cur, rfl, hb, hh, by omega, hm, hs, ?_⟩⟩
    rw [← ht, List.take_take, Nat.min_eq_left hle]
theorem OwnedK.rd {w : World} {g n : Nat} {l : List PkS} {f : PkS} (h : OwnedK w g n l f) (hf : ∀ e ∈ l, e.Ok) : RdK w (some ⟨g, 0, none⟩) n (n + 3) l := by
  have h1 := row_ofS h.2 (n := n) (by omega) g (Nat.le_refl _)
  have e : (pkC (l ++ [f, f, f])).take (n * 3) = pkC l := by
    rw [pkC_append]; exact List.take_left' (by rw [pkC_length, h.1])
  rw [e] at h1
  exact owns_rdK h1 hf

set_option maxHeartbeats 1000000 in
theorem keptK_any (g n : Nat) (ao : Option Addr) (cap : Nat) (l : List PkS) (f : PkS) (w : World) (ho : OwnedK w g n l f) (h : RdK w ao n cap l) (hn : n ≤ 1048576) :
    Calls Try.prog 31 #[.slice (some ⟨g, 0, none⟩) n (n + 3), .slice ao n cap, .agg #[.int .i64 f.flow, .int .i64 f.len, .int .i64 f.mark]] w fun e w' => e = .returned (.bool true) ∧ Below w.heap.size w w' := by
  have rd := ho.rd h.ok
  have hcapI : ((n : Int) + 3) ≤ ((n + 3 : Nat) : Int) := by omega
  go_enter Try.func31, Try.ntmps31
  go_upto_region 1 with fail
  obtain ⟨W0, hW0⟩ : ∃ W0, W0 = w.alloc (.cells #[.int .i64 f.flow, .int .i64 f.len, .int .i64 f.mark] 49) := ⟨_, rfl⟩
  have hbW : Below w.heap.size w W0 := by rw [hW0]; exact below1 _ _
  have hbx : ∀ w' : World, Below W0.heap.size W0 w' → w'.heap[w.heap.size]? = some (.cells #[.int .i64 f.flow, .int .i64 f.len, .int .i64 f.mark] 49 (0, 0)) := fun w' hb => (hb.block _ (by rw [hW0]; simp)).trans (by rw [hW0]; exact heap_alloc_new _ _)
  have HBX := Lib.hid hbx
  rw [← hW0]
  clear hW0 hbx
  have rd0 := rd.below hbW
  have h0 := h.below hbW
  have ho0 := ho.below hbW
  clear rd h ho
  go_wp2_with fail
  refine (plainK_any _ _ _ _ _ l _ rd0 h0).mono ?_
  rintro e w1 ⟨rfl, hb⟩
  have hown := (ho0.below hb).2
  have hlen := (ho0.below hb).1
  have HL := Lib.hid hlen
  have B1 : Below w.heap.size w w1 := below_step hbW hb
  have hbx1 := HBX.out w1 hb
  clear rd0 h0 ho0 hlen hb hbW HBX
  generalize hBB : w.heap.size = B at *
  go_wp2_with fail
  go_loopw [8] (fun i wr => ∃ k : Nat, k ≤ 3 ∧ i = .int .i64 (n + k : Nat) ∧ Below w1.heap.size w1 wr) (fun i _ => n + 3 - (intOf i).toNat)
  case atStart => exact ⟨0, by omega, rfl, Below.refl _ _⟩
  case round =>
    obtain ⟨k, hk, rfl, hbr2⟩ := hrel
    by_cases hl : k < 3
    · have hownr := owns_below (B := 0) hown hbr2
      have hxr : wr.heap[B]? = _ := (hbr2.block B (Array.getElem?_eq_some_iff.1 hbx1).1).trans hbx1
      obtain ⟨x0, x1, x2⟩ := box_cells hxr
      have hcell : ∀ i, i < 3 → wr.cell? ⟨g, (n + k) * 3 + i, none⟩ = f.cells[i]? := by
        intro i hi
        have hat : (pkC (l ++ [f, f, f]))[(n + k) * 3 + i]? = f.cells[i]? := by
          have hk' : (l ++ [f, f, f])[n + k]? = some f := by
            rw [List.getElem?_append_right (by rw [HL.out]; omega), HL.out]
            have : n + k - n = k := by omega
            rw [this]
            rcases (show k = 0 ∨ k = 1 ∨ k = 2 by omega) with rfl | rfl | rfl <;> rfl
          have hsome : ∃ u, f.cells[i]? = some u := ⟨f.cells[i]'(by rw [pkS_cells]; exact hi), by simp [pkS_cells, hi]⟩
          obtain ⟨u, hu⟩ := hsome
          rw [hu]
          exact recs_at pkS_cells _ _ _ hk' i u hu
        rw [← hat]
        have hlt : (n + k) * 3 + i < (pkC (l ++ [f, f, f])).length := by rw [pkC_length]; simp [HL.out]; omega
        obtain ⟨g', e', _, _, hc⟩ := owns_at hownr (List.getElem?_eq_getElem hlt)
        cases e'
        rw [Nat.zero_add] at hc
        rw [hc, List.getElem?_eq_getElem hlt]
      have y0 := hcell 0 (by omega)
      have y1 := hcell 1 (by omega)
      have y2 := hcell 2 (by omega)
      simp only [PkS.cells, List.getElem?_cons_succ, List.getElem?_cons_zero, Nat.add_zero] at y0 y1 y2
      clear hcell
      have hnk : (0 : Int) ≤ (n : Int) + k := by omega
      go_wp2_with fail
      go_region
      go_wp2
      go_roundw
      case rel => exact ⟨k + 1, by omega, by go_num, hbr2.drew⟩
      case measure => simp [intOf]; omega
    · have hk3 : k = 3 := by omega
      subst hk3
      go_wp2
      go_ret
      exact ⟨rfl, by rw [hBB]; exact B1.trans (hbr2.mono (by have := B1.size; omega))⟩

/-! ### What is written over -/
/-- A row of whatever. -/
def AnyRow (w : World) (base : Nat) (e : TypeId) (s : Nat) (v : Value) (n : Nat) : Prop := ∃ xs, w.ownsRow base e s v n xs
theorem AnyRow.below {w w' : World} {base n s : Nat} {e : TypeId} {v : Value} (h : AnyRow w base e s v n) (hb : Below w.heap.size w w') : AnyRow w' base e s v n := let ⟨xs, h⟩ := h; ⟨xs, owns_below (B := 0) h hb⟩
theorem AnyRow.set {w : World} {base n cap s g j : Nat} {e : TypeId} (h : AnyRow w base e s (.slice (some ⟨g, 0, none⟩) n cap) n) (u : Value) : AnyRow (w.setCell ⟨g, j, none⟩ u) base e s (.slice (some ⟨g, 0, none⟩) n cap) n :=
  let ⟨xs, h⟩ := h
  by
    rcases h.2 with ⟨hv, _⟩ | ⟨g', cap', cur, hv, hb, hh, hnc, hm, hs, ht⟩
    · simp at hv
    · simp only [Value.slice.injEq, Option.some.injEq, Addr.mk.injEq, and_true, true_and] at hv
      obtain ⟨rfl, rfl⟩ := hv
      have hle : n * s ≤ cap * s := Nat.mul_le_mul_right s hnc
      exact ⟨(cur.setIfInBounds j u).toList.take (n * s), by rw [List.length_take, Array.length_toList]; simp only [Array.size_setIfInBounds, hs]; omega, .inr ⟨g, cap, cur.setIfInBounds j u, rfl, hb, by simp [World.setCell, Array.getElem?_modify, hh], hnc, hm, by simpa using hs, rfl⟩⟩
/-- Another row, when one was written over: it is there still, whatever it holds. -/
theorem AnyRow.other {w w' : World} {b1 b2 n1 n2 s : Nat} {e : TypeId} {v1 v2 : Value} (h2 : AnyRow w b2 e s v2 n2) (hg : w.grownBy w' v1.ownBlock) (h1 : AnyRow w b1 e s v1 n1) (h1' : AnyRow w' b1 e s v1 n1) : AnyRow w' b2 e s v2 n2 := by
  obtain ⟨ys, h2⟩ := h2
  by_cases hk : ∀ k, v2.ownBlock = some k → v1.ownBlock ≠ some k
  · exact ⟨ys, owns_grown h2 hg hk⟩
  · obtain ⟨k, hk2, hk1⟩ : ∃ k, v2.ownBlock = some k ∧ v1.ownBlock = some k := by
      refine Classical.byContradiction fun hc => hk fun k e1 e2 => hc ⟨k, e1, e2⟩
    obtain ⟨xs, h1⟩ := h1
    obtain ⟨zs, h1'⟩ := h1'
    rcases h2.2 with ⟨rfl, _⟩ | ⟨g2, cap2, cur2, rfl, hb2, hh2, hnc2, hm2, hs2, _⟩
    · cases hk2
    · cases hk2
      rcases h1.2 with ⟨rfl, _⟩ | ⟨g1, cap1, cur1, rfl, hb1, hh1, hnc1, hm1, hs1, _⟩
      · cases hk1
      · cases hk1
        rw [hh2] at hh1
        simp only [Option.some.injEq, Obj.cells.injEq] at hh1
        obtain ⟨rfl, _⟩ := hh1
        rcases h1'.2 with ⟨hv, _⟩ | ⟨g3, cap3, cur3, hv, _, hh3, _, _, hs3, _⟩
        · simp at hv
        · simp only [Value.slice.injEq, Option.some.injEq, Addr.mk.injEq, and_true, true_and] at hv
          obtain ⟨rfl, rfl⟩ := hv
          have hle : n2 * s ≤ cap2 * s := Nat.mul_le_mul_right s hnc2
          exact ⟨cur3.toList.take (n2 * s), by rw [List.length_take, Array.length_toList, hs3, ← hs1, hs2]; omega, .inr ⟨_, cap2, cur3, rfl, hb2, hh3, hnc2, hm2, by rw [hs3, ← hs1, hs2], rfl⟩⟩
def SpoilPost (w : World) (base : Nat) (e : TypeId) (s n : Nat) (v : Value) (en : Ending) (w' : World) : Prop := en = .returned (.tuple #[]) ∧ w.grownBy w' v.ownBlock ∧ AnyRow w' base e s v n

set_option maxHeartbeats 1000000 in
theorem spoilK_any (v : Value) (n base : Nat) (w : World) (h : AnyRow w base 49 3 v n) :
    Calls Try.prog 29 #[v] w (SpoilPost w base 49 3 n v) := by
  obtain ⟨xs, h0⟩ := h
  obtain ⟨ao, cap, rfl⟩ := owns_slice h0
  have hcap := owns_cap h0
  have hn : n ≤ 9223372036854775807 := by have h1 := hcap.2.1; have h2 := hcap.2.2.1; unfold maxLen at h2; omega
  have HZ := Lib.hid (heap_alloc_new w (.cells #[.int .i64 0, .int .i64 0, .int .i64 0] 49))
  have hlt0 := fun k hk => (h0.lt k hk).2
  have H0 := Lib.hid (show AnyRow (w.alloc (.cells #[.int .i64 0, .int .i64 0, .int .i64 0] 49)) base 49 3 (.slice ao n cap) n from ⟨xs, h0.alloc _⟩)
  have HG := Lib.hid (World.grownBy_alloc w (.cells #[.int .i64 0, .int .i64 0, .int .i64 0] 49) (Value.slice ao n cap).ownBlock)
  have HLT := Lib.hid hlt0
  clear hcap h0 hlt0
  go_enter Try.func29, Try.ntmps29
  go_upto_region 1 with fail
  generalize w.alloc (.cells #[.int .i64 0, .int .i64 0, .int .i64 0] 49) = W at *
  obtain ⟨Z, hZ⟩ : ∃ Z, Z = w.heap.size := ⟨_, rfl⟩
  rw [← hZ] at HZ HLT ⊢
  have HZE := Lib.hid hZ
  clear hZ
  go_wp2_with fail
  go_loopw [3] (fun i wr => ∃ k : Nat, k ≤ n ∧ i = .int .i64 k ∧ AnyRow wr base 49 3 (.slice ao n cap) n ∧ w.grownBy wr (Value.slice ao n cap).ownBlock ∧ wr.heap[Z]? = some (.cells #[.int .i64 0, .int .i64 0, .int .i64 0] 49 (0, 0))) (fun i _ => n - (intOf i).toNat)
  case atStart => exact ⟨0, Nat.zero_le _, rfl, H0.out, HG.out, HZ.out⟩
  case round =>
    obtain ⟨k, hk, rfl, hany, hgr, hzb⟩ := hrel
    by_cases hl : k < n
    · have hany' := hany
      obtain ⟨ys, hownr⟩ := hany'
      obtain ⟨g, cap', hv, hg, hglt⟩ := hownr.form (by omega)
      simp only [Value.slice.injEq] at hv
      obtain ⟨rfl, _, rfl⟩ := hv
      have hle : k * 3 + 3 ≤ cap * 3 := by have := (owns_cap hownr).2.1; omega
      obtain ⟨u0, hu0⟩ := owns_spare hownr (j := k * 3) (by omega)
      obtain ⟨u1, hu1⟩ := owns_spare hownr (j := k * 3 + 1) (by omega)
      obtain ⟨u2, hu2⟩ := owns_spare hownr (j := k * 3 + 2) (by omega)
      have z0 := hownr.frozenAt (k * 3)
      have z1 := hownr.frozenAt (k * 3 + 1)
      have z2 := hownr.frozenAt (k * 3 + 2)
      obtain ⟨x0, x1, x2⟩ := box_cells hzb
      have hgZ : Z ≠ g := by have := HLT.out g rfl; omega
      have A1 := Lib.hid (((hany.set (j := k * 3) (.int .i64 0)).set (j := k * 3 + 1) (.int .i64 0)).set (j := k * 3 + 2) (.int .i64 0))
      have G1 := Lib.hid (grown_both hgr (putCells_grown [.int .i64 0, .int .i64 0, .int .i64 0] wr g (k * 3)))
      have Z1 := Lib.hid ((((Blk.set_far (cs := [.int .i64 0, .int .i64 0, .int .i64 0]) (t := 49) hzb (a := ⟨g, k * 3, none⟩) hgZ (.int .i64 0)).set_far (a := ⟨g, k * 3 + 1, none⟩) hgZ (.int .i64 0)).set_far (a := ⟨g, k * 3 + 2, none⟩) hgZ (.int .i64 0)))
      clear hgr hany hownr hzb
      go_wp2
      go_roundw
      case rel => exact ⟨k + 1, by omega, by go_num, A1.out, G1.out, Z1.out⟩
      case measure => simp [intOf]; omega
    · have A1 := Lib.hid hany
      have G1 := Lib.hid hgr
      clear hany hgr hzb
      go_wp2
      go_end0
      exact ⟨rfl, G1.out, A1.out⟩
end Go.Proofs.Ytonldjkmbapjeaa
