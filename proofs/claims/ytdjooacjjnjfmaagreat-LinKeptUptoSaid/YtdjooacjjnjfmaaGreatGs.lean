/- Several texts in one: HelpI HelpI2 MemR MemW. -/
import Derived.Test.YtdjooacjjnjfmaaGreatRows
import Derived.Test.YtdjooacjjnjfmaaGreatGa
import Derived.Test.YtdjooacjjnjfmaaGreatGb
import Derived.WalkLawsBesides
import Derived.OwnWalk
import Derived.Test.YtdjooacjjnjfmaaGreatGq
import Derived.Deep.MidRow
-- weighbridgehelp at slices of numbers: two held against each other; a copy with spare room; what is written over.
section
namespace Go.Proofs.YtdjooacjjnjfmaaGreat
set_option linter.unusedVariables false
set_option linter.unusedSimpArgs false
open Go.RowKit Go.Proofs.YtdjooacjjnjfmaaGreatMem

def eqI (x y : List Int) : Bool := decide (x = y)
theorem eqI_same (x : List Int) : eqI x x = true := by simp [eqI]
theorem ext_nth {x y : List Int} (h : x.length = y.length) (hn : ∀ j, j < x.length → nth x j = nth y j) : x = y := by
  apply List.ext_getElem h
  intro i h1 h2
  have := hn i h1
  rw [nth_eq h1, nth_eq h2] at this
  exact this

set_option maxHeartbeats 400000 in
theorem plain1_any (a b : Int) (w : World) :
    Calls Tryz.prog 45 #[.int .i64 a, .int .i64 b] w fun e w' => e = .returned (.bool (a == b)) ∧ w = w' := by
  go_enter Tryz.func45, Tryz.ntmps45
  go_wp2
  go_ret
  exact ⟨rfl, rfl⟩

set_option maxHeartbeats 400000 in
theorem sameI_any (a0 a1 : Option Addr) (n0 c0 n1 c1 : Nat) (x y : List Int) (w : World) (h0 : RdI w a0 n0 c0 x) (h1 : RdI w a1 n1 c1 y) :
    Calls Tryz.prog 44 #[.slice a0 n0 c0, .slice a1 n1 c1, .func (.func 45) #[] #[]] w fun e w' => e = .returned (.bool (eqI x y)) ∧ Below w.heap.size w w' := by
  have L0 := Lib.hid h0.len
  have L1 := Lib.hid h1.len
  have s0 := h0.small
  by_cases hn : n0 = n1
  · have N := Lib.hid hn
    have hb : ((n0 : Int) != (n1 : Int)) = false := by simp [hn]
    have hln : n0 ≤ n1 := by omega
    clear hn
    go_enter Tryz.func44, Tryz.ntmps44
    go_wp2
    go_loopw [7] (fun i wr => ∃ k : Nat, k ≤ n0 ∧ i = .int .i64 k ∧ (∀ j : Nat, j < k → nth x j = nth y j) ∧ Below w.heap.size w wr) (fun i _ => n0 - (intOf i).toNat)
    case atStart => exact ⟨0, Nat.zero_le _, rfl, fun j hj => absurd hj (Nat.not_lt_zero _), Below.refl _ _⟩
    case round =>
      obtain ⟨k, hk, rfl, heq, hbr⟩ := hrel
      have HQ := Lib.hid heq
      clear heq
      by_cases hl : k < n0
      · obtain ⟨b0, o0, rfl, hlt0, hc0⟩ := h0.at_ k hl
        obtain ⟨b1, o1, rfl, hlt1, hc1⟩ := h1.at_ k (by omega)
        have i0 : (0 : Int) ≤ (k : Int) := by omega
        have i1 : (k : Int) < (n0 : Int) := by omega
        have i2 : (k : Int) < (n1 : Int) := by omega
        by_cases hv : nth x k = nth y k
        · have V := Lib.hid hv
          have e1 : (nth x k == nth y k) = true := by simp [hv]
          clear hv
          go_wp2_with fail
          go_region_held3 (fun w' => Below w.heap.size w w' ∧ (∀ b o, b < w.heap.size → w'.cell? ⟨b, o, none⟩ = w.cell? ⟨b, o, none⟩)) (first | exact hs_refl hbr.drew | assumption)
            (first | (go_at_call 45; refine (plain1_any _ _ _).mono ?_; rintro e w' ⟨rfl, rfl⟩))
          go_wp2
          go_roundw
          case rel => exact ⟨k + 1, by omega, by go_num, fun j hj => by
            by_cases hjk : j = k
            · subst hjk; exact V.out
            · exact HQ.out j (by omega), hbr.drew⟩
          case measure => simp [intOf]; omega
        · have E : Hid (eqI x y = false) := by
            unfold Hid eqI
            simp only [decide_eq_false_iff_not]
            intro he
            rw [he] at hv; exact hv rfl
          have e1 : (nth x k == nth y k) = false := by simpa using hv
          clear hv
          go_wp2_with fail
          go_region_held3 (fun w' => Below w.heap.size w w' ∧ (∀ b o, b < w.heap.size → w'.cell? ⟨b, o, none⟩ = w.cell? ⟨b, o, none⟩)) (first | exact hs_refl hbr.drew | assumption)
            (first | (go_at_call 45; refine (plain1_any _ _ _).mono ?_; rintro e w' ⟨rfl, rfl⟩))
          go_wp2
          go_ret
          exact ⟨by rw [E.out]; rfl, hbr.drew⟩
      · have E : Hid (eqI x y = true) := by
          unfold Hid eqI
          simp only [decide_eq_true_eq]
          refine ext_nth (by rw [L0.out, L1.out]; exact N.out) fun j hj => HQ.out j ?_
          rw [L0.out] at hj; omega
        go_wp2
        go_ret
        exact ⟨by rw [E.out]; rfl, hbr⟩
  · have hb : ((n0 : Int) != (n1 : Int)) = true := by simp; omega
    have E : Hid (eqI x y = false) := by
      unfold Hid eqI
      simp only [decide_eq_false_iff_not]
      intro he
      exact hn (by rw [← L0.out, ← L1.out, he])
    clear hn
    go_enter Tryz.func44, Tryz.ntmps44
    go_wp2
    go_ret
    exact ⟨by rw [E.out]; rfl, Below.refl _ _⟩

set_option maxHeartbeats 400000 in
theorem plainI_any (a0 a1 : Option Addr) (n0 c0 n1 c1 : Nat) (x y : List Int) (w : World) (h0 : RdI w a0 n0 c0 x) (h1 : RdI w a1 n1 c1 y) :
    Calls Tryz.prog 19 #[.slice a0 n0 c0, .slice a1 n1 c1] w fun e w' => e = .returned (.bool (eqI x y)) ∧ Below w.heap.size w w' := by
  go_enter Tryz.func19, Tryz.ntmps19
  go_wp2_with (go_at_call 44; refine (sameI_any a0 a1 n0 c0 n1 c1 x y _ h0 h1).mono ?_; rintro e w' ⟨rfl, hb⟩)
  go_ret
  exact ⟨rfl, hb⟩

end Go.Proofs.YtdjooacjjnjfmaaGreat
end

-- weighbridgehelp at slices of numbers, next: a copy with spare room in which there is something; what is written over; whether it is as it was.
section
namespace Go.Proofs.YtdjooacjjnjfmaaGreat
set_option linter.unusedVariables false
set_option linter.unusedSimpArgs false
set_option maxRecDepth 20000
open Go.RowKit Go.Proofs.YtdjooacjjnjfmaaGreatMem

theorem EIh : ElT Tryz.prog 26 3 (.int .i64 0) 1 := ⟨Tryz.underlying26, ⟨8, by kernel_rfl, by omega⟩, rfl, by omega⟩

/-- A copy, in a block of its own, three more behind it. -/
def OwnedI (w : World) (g n : Nat) (zs : List Int) (f : Int) : Prop := zs.length = n ∧ w.ownsRow 0 3 1 (.slice (some ⟨g, 0, none⟩) (n + 3) (n + 3)) (n + 3) (ints (zs ++ [f, f, f]))
def OwnPostI (w : World) (n : Nat) (zs : List Int) (f : Int) (en : Ending) (w' : World) : Prop := ∃ g, en = .returned (.slice (some ⟨g, 0, none⟩) n (n + 3)) ∧ w.heap.size ≤ g ∧ g < w'.heap.size ∧ OwnedI w' g n zs f ∧ Below w.heap.size w w'

theorem row_of {w : World} {g m cap n : Nat} {xs : List Value} {base : Nat} {e : TypeId} (h : w.ownsRow base e 1 (.slice (some ⟨g, 0, none⟩) m cap) m xs) (hn : n ≤ m) (base' : Nat) (hb : base' ≤ g) : w.ownsRow base' e 1 (.slice (some ⟨g, 0, none⟩) n cap) n (xs.take n) := by
  have hl := h.1
  rcases h.2 with ⟨hv, _⟩ | ⟨g', cap', cur, hv, _, hh, hnc, hm, hs, ht⟩
  · simp at hv
  · simp only [Value.slice.injEq, Option.some.injEq, Addr.mk.injEq, and_true, true_and] at hv
    obtain ⟨rfl, rfl⟩ := hv
    refine ⟨by simp [hl]; omega, .inr ⟨g, cap, cur, rfl, hb, hh, by omega, hm, hs, ?_⟩⟩
    rw [← ht, List.take_take]; congr 1; omega

theorem ints_set' (zs : List Int) (k : Nat) (x : Int) : (ints zs).set k (.int .i64 x) = ints (zs.set k x) := by simp [ints, List.map_set]
theorem grown_both {w w1 w2 : World} {r : Option Nat} (h : w.grownBy w1 r) (h' : w1.grownBy w2 r) : w.grownBy w2 r :=
  ⟨h'.os.trans h.os, h'.tape.trans h.tape, h'.output.trans h.output, Nat.le_trans h.size h'.size, fun k hk hne => (h'.block k (Nat.lt_of_lt_of_le hk h.size) hne).trans (h.block k hk hne)⟩
theorem own_src {w w1 : World} {ao : Option Addr} {xs : List Value} (h : ∀ j u, xs[j]? = some u → ∃ b off, ao = some ⟨b, off, none⟩ ∧ b < w.heap.size ∧ w.cell? ⟨b, off + j, none⟩ = some u) (hb : Below w.heap.size w w1) :
    ∀ ad, ao = some ad → ∀ j u, xs[j]? = some u → w1.cell? (ad.add j) = some u := fun ad he j u hu => by
  obtain ⟨b, off, e, hlt, hcc⟩ := h j u hu
  rw [he] at e; cases e
  have e1 : ((⟨b, off, none⟩ : Addr).add j) = ⟨b, off + j, none⟩ := by unfold Addr.add; split <;> simp_all
  rw [e1]; exact (hb.cell (p := ⟨b, off + j, none⟩) hlt).trans hcc

set_option maxHeartbeats 1000000 in
theorem ownI_any (ao : Option Addr) (n cap : Nat) (zs : List Int) (f : Int) (w : World) (h : RdI w ao n cap zs) (hn : n ≤ 549755813888) :
    Calls Tryz.prog 24 #[.slice ao n cap, .int .i64 f] w (OwnPostI w n zs f) := by
  have hnone := h.nil
  have hl : (ints zs).length = n * 1 := by rw [ints_length, h.len]; omega
  have hc : ∀ j u, (ints zs)[j]? = some u → ∃ b off, ao = some ⟨b, off, none⟩ ∧ b < w.heap.size ∧ w.cell? ⟨b, off + j, none⟩ = some u := by
    intro j u hu
    have hj : j < zs.length := by rw [← ints_length]; exact (List.getElem?_eq_some_iff.1 hu).1
    obtain ⟨b, off, e, hlt, hc⟩ := h.at_ j (by rw [← h.len]; exact hj)
    refine ⟨b, off, e, hlt, hc.trans ?_⟩
    rw [← hu, nth_eq hj]; simp [ints, hj]
  have h1 : ∀ u ∈ ints zs, u.oneCell' = true := by
    intro u hu
    simp only [ints, List.mem_map] at hu
    obtain ⟨z, _, rfl⟩ := hu
    rfl
  have HN := Lib.hid hnone
  have HC := Lib.hid hc
  have H1 := Lib.hid h1
  have HL := Lib.hid hl
  have HZ := Lib.hid h.len
  clear hc h1 hl hnone
  obtain ⟨bytes, hi, hb⟩ := EIh.info
  obtain ⟨i0, hi, hz0, hz1, hz2⟩ := info_parts hi
  have hb8 : i0.bytes * (n + 3) ≤ 281474976710656 := by rw [hz2]; exact Nat.le_trans (Nat.mul_le_mul hb (show n + 3 ≤ 1099511627776 by omega)) (by omega)
  have HB8 := Lib.hid hb8
  have HI := Lib.hid hi
  have HZ0 := Lib.hid hz0
  have HZ1 := Lib.hid hz1
  have hm : n + 3 ≤ maxLen := by unfold maxLen; omega
  have hC : ((n : Int) + 3) = ((n + 3 : Nat) : Int) := by omega
  have HCC := Lib.hid hC
  clear hi hz0 hz1 hz2 hb8 hC
  go_enter Tryz.func24, Tryz.ntmps24
  have hroom : 0 + n ≤ n + 3 := by omega
  have hbase0 : w.heap.size ≤ w.heap.size := Nat.le_refl _
  go_wp2_with (first
    | (refine wpList_make_own w rfl _ _ 26 rfl w.heap.size 3 i0 (.int .i64 0) 1 Tryz.underlying26 HI.out HZ0.out HZ1.out .i64 .i64 ((n : Int) + 3) (n + 3) rfl rfl HCC.out HB8.out hm hbase0 ?_; intro w1 hown1 hg1; have hb1 : Below w.heap.size w w1 := (Below.refl _ _).grown hg1 hbase0 (fun k hk => by cases hk); have hlt1 : w.heap.size < w1.heap.size := (hown1.lt _ rfl).2; have HC1 := Lib.hid (own_src HC.out hb1))
    | (refine wpList_append_fits_any w1 rfl _ _ 26 rfl w.heap.size 3 i0 1 Tryz.underlying26 HI.out HZ1.out w.heap.size 0 (n + 3) [] rfl hown1 ao n cap (ints zs) rfl HL.out HN.out HC1.out H1.out hroom ?_; intro w2 hown2 hg2; rw [Nat.zero_add] at hown2; have hb2 : Below w.heap.size w w2 := hb1.grown hg2 hb1.size (fun k hk => by cases hk; exact Nat.le_refl _); have hlt2 : w.heap.size < w2.heap.size := (hown2.lt _ rfl).2; simp only [List.nil_append] at hown2; simp only [Nat.zero_add]))
  have HH := Lib.hid hown2
  clear hown1 hg1 hb1 hlt1 HC1 hg2
  go_loopw [7] (fun i wr => ∃ k : Nat, k ≤ 3 ∧ i = .int .i64 (n + k : Nat) ∧ wr.ownsRow w.heap.size 3 1 (.slice (some ⟨w.heap.size, 0, none⟩) (n + k) (n + 3)) (n + k) (ints (zs ++ List.replicate k f)) ∧ Below w.heap.size w wr) (fun i _ => n + 3 - (intOf i).toNat)
  case atStart => exact ⟨0, by omega, rfl, by simpa using hown2, hb2⟩
  case round =>
    obtain ⟨k, hk, rfl, hownr, hbr⟩ := hrel
    clear hown2 HH
    by_cases hl : k < 3
    · obtain ⟨u, hu⟩ := owns_spare hownr (j := n + k) (by omega)
      have hfz := hownr.frozenAt (n + k)
      have hltr : w.heap.size < wr.heap.size := (hownr.lt _ rfl).2
      have hnk : (0 : Int) ≤ (n : Int) + k := by omega
      have hp := owns_push hownr (by omega) (.int .i64 f)
      have HP := Lib.hid hp
      clear hp
      go_wp2
      go_roundw
      case rel => exact ⟨k + 1, by omega, by go_num, by rw [List.replicate_succ', ← List.append_assoc, ints_append]; exact HP.out, hbr.setCell (Nat.le_refl _) _⟩
      case measure => simp [intOf]; omega
    · have hk3 : k = 3 := by omega
      subst hk3
      go_wp2
      go_ret
      exact ⟨w.heap.size, rfl, Nat.le_refl _, (hownr.lt _ rfl).2, ⟨HZ.out, owns_base (by simpa [List.replicate] using hownr) (Nat.zero_le _)⟩, hbr⟩

theorem OwnedI.below {w w' : World} {g n : Nat} {zs : List Int} {f : Int} (h : OwnedI w g n zs f) (hb : Below w.heap.size w w') : OwnedI w' g n zs f := ⟨h.1, owns_below (B := 0) h.2 hb⟩
theorem OwnedI.grown {w w' : World} {g n : Nat} {zs : List Int} {f : Int} {r : Option Nat} (h : OwnedI w g n zs f) (hg : w.grownBy w' r) (hne : r ≠ some g) : OwnedI w' g n zs f :=
  ⟨h.1, owns_grown h.2 hg fun k hk => by cases hk; exact hne⟩
theorem OwnedI.owns {w : World} {g n : Nat} {zs : List Int} {f : Int} (h : OwnedI w g n zs f) : w.ownsRow g 3 1 (.slice (some ⟨g, 0, none⟩) n (n + 3)) n (ints zs) := by
  have h1 := row_of h.2 (n := n) (by omega) g (Nat.le_refl _)
  have e : (ints (zs ++ [f, f, f])).take n = ints zs := by
    rw [ints_append]; exact List.take_left' (by rw [ints_length]; exact h.1)
  rw [e] at h1; exact h1
theorem OwnedI.rd {w : World} {g n : Nat} {zs : List Int} {f : Int} (h : OwnedI w g n zs f) (hf : ∀ z ∈ zs, I64 z) : RdI w (some ⟨g, 0, none⟩) n (n + 3) zs := owns_rdI h.owns hf

/-- What is written over is one row alone. -/
def SpoilPost (w : World) (v : Value) (en : Ending) (w' : World) : Prop := en = .returned (.tuple #[]) ∧ w.grownBy w' v.ownBlock
set_option maxHeartbeats 400000 in
theorem spoilI_any (v : Value) (n base : Nat) (zs : List Int) (w : World) (h : w.ownsRow base 3 1 v n (ints zs)) :
    Calls Tryz.prog 26 #[v] w (SpoilPost w v) := by
  obtain ⟨ao, cap, rfl⟩ := owns_slice h
  have hcap := owns_cap h
  have hn : n ≤ 9223372036854775807 := by have h1 := hcap.2.1; have h2 := hcap.2.2.1; unfold maxLen at h2; omega
  clear hcap
  go_enter Tryz.func26, Tryz.ntmps26
  go_wp2
  go_loopw [3] (fun i wr => ∃ k : Nat, k ≤ n ∧ i = .int .i64 k ∧ (∃ ys : List Int, wr.ownsRow base 3 1 (.slice ao n cap) n (ints ys)) ∧ w.grownBy wr (Value.slice ao n cap).ownBlock) (fun i _ => n - (intOf i).toNat)
  case atStart => exact ⟨0, Nat.zero_le _, rfl, ⟨zs, h⟩, ⟨rfl, rfl, rfl, Nat.le_refl _, fun _ _ _ => rfl⟩⟩
  case round =>
    obtain ⟨k, hk, rfl, ⟨ys, hownr⟩, hgr⟩ := hrel
    clear h
    by_cases hl : k < n
    · obtain ⟨g, cap', hv, hg, hglt⟩ := hownr.form (by omega)
      simp only [Value.slice.injEq] at hv
      obtain ⟨rfl, _, rfl⟩ := hv
      obtain ⟨u, hu⟩ := owns_spare hownr (j := k) (by have := (owns_cap hownr).2.1; omega)
      have hfz := hownr.frozenAt k
      have hp := hownr.stored k (.int .i64 0)
      have HP := Lib.hid hp
      have HG := Lib.hid hgr
      clear hp hgr
      go_wp2
      go_roundw
      case rel => exact ⟨k + 1, by omega, by go_num, ⟨ys.set k 0, by rw [← ints_set']; exact HP.out.1⟩, grown_both HG.out HP.out.2⟩
      case measure => simp [intOf]; omega
    · have hg2 := Lib.hid hgr
      clear hgr
      go_wp2
      go_end0
      exact ⟨rfl, hg2.out⟩

set_option maxHeartbeats 1000000 in
theorem keptI_any (g n : Nat) (ao : Option Addr) (cap : Nat) (zs : List Int) (f : Int) (w : World) (ho : OwnedI w g n zs f) (h : RdI w ao n cap zs) (hn : n ≤ 549755813888) :
    Calls Tryz.prog 28 #[.slice (some ⟨g, 0, none⟩) n (n + 3), .slice ao n cap, .int .i64 f] w fun e w' => e = .returned (.bool true) ∧ Below w.heap.size w w' := by
  have rd := ho.rd h.fits
  have hq := eqI_same zs
  have hcapI : ((n : Int) + 3) ≤ ((n + 3 : Nat) : Int) := by omega
  go_enter Tryz.func28, Tryz.ntmps28
  go_wp2_with (go_at_call 19; refine (plainI_any _ _ _ _ _ _ _ _ _ rd h).mono ?_; rintro e w1 ⟨rfl, hb⟩)
  have hown := (ho.below hb).2
  have hlen := (ho.below hb).1
  have HL := Lib.hid hlen
  clear rd h ho hlen
  go_loop [8] (fun i => ∃ k : Nat, k ≤ 3 ∧ i = .int .i64 (n + k : Nat)) (fun i => n + 3 - (intOf i).toNat)
  case atStart => exact ⟨0, by omega, rfl⟩
  case round =>
    obtain ⟨k, hk, rfl⟩ := hrel
    by_cases hl : k < 3
    · have hc : w1.cell? ⟨g, n + k, none⟩ = some (.int .i64 f) := by
        rw [hown.cellAt (n + k) (by omega)]
        simp only [ints, List.map_append, List.map_cons, List.map_nil]
        rw [List.getElem?_append_right (by simp [HL.out])]
        have e1 : n + k - (zs.map (Value.int .i64)).length = k := by simp [HL.out]
        rw [e1]
        have : k = 0 ∨ k = 1 ∨ k = 2 := by omega
        rcases this with rfl | rfl | rfl <;> rfl
      have hnk : (0 : Int) ≤ (n : Int) + k := by omega
      have e1 : (f != f) = false := by simp
      go_wp2
      go_round
      case rel => exact ⟨k + 1, by omega, by go_num⟩
      case measure => simp [intOf]; omega
    · have hk3 : k = 3 := by omega
      subst hk3
      go_wp2
      go_ret
      exact ⟨rfl, hb⟩
end Go.Proofs.YtdjooacjjnjfmaaGreat
end

-- Storing a record of several cells into a row. Over any program.
section
namespace Go.Proofs.YtdjooacjjnjfmaaGreatMem
set_option linter.unusedVariables false
set_option linter.unusedSimpArgs false
open Go Go.RowKit

def setList (cur : Array Value) : Nat → List Value → Array Value
  | _, [] => cur
  | off, u :: us => setList (cur.setIfInBounds off u) (off + 1) us
def putCells (w : World) (g : Nat) : Nat → List Value → World
  | _, [] => w
  | off, u :: us => putCells (w.setCell ⟨g, off, none⟩ u) g (off + 1) us
theorem setList_size : ∀ (us : List Value) (cur : Array Value) (off : Nat), (setList cur off us).size = cur.size
  | [], _, _ => rfl
  | u :: us, cur, off => by simp [setList, setList_size us]
theorem putCells_heap {e : TypeId} {fr : Nat × Nat} : ∀ (us : List Value) (w : World) (g off : Nat) (cur : Array Value), w.heap[g]? = some (.cells cur e fr) → (putCells w g off us).heap[g]? = some (.cells (setList cur off us) e fr)
  | [], w, g, off, cur, h => h
  | u :: us, w, g, off, cur, h => putCells_heap us _ g (off + 1) _ (by simp [World.setCell, Array.getElem?_modify, h])
theorem putCells_grown : ∀ (us : List Value) (w : World) (g off : Nat), w.grownBy (putCells w g off us) (some g)
  | [], w, g, off => ⟨rfl, rfl, rfl, Nat.le_refl _, fun _ _ _ => rfl⟩
  | u :: us, w, g, off => by
    have h := putCells_grown us (w.setCell ⟨g, off, none⟩ u) g (off + 1)
    have h0 : w.grownBy (w.setCell ⟨g, off, none⟩ u) (some g) := ⟨rfl, rfl, rfl, by simp [World.setCell], fun k _ hne => Below.heap_setCell w ⟨g, off, none⟩ u k (fun e => hne (by rw [e]))⟩
    exact ⟨h.os.trans h0.os, h.tape.trans h0.tape, h.output.trans h0.output, Nat.le_trans h0.size h.size, fun k hk hne => (h.block k (Nat.lt_of_lt_of_le hk h0.size) hne).trans (h0.block k hk hne)⟩
theorem setList_take : ∀ (us : List Value) (cur : Array Value) (off : Nat), off + us.length ≤ cur.size → (setList cur off us).toList.take (off + us.length) = cur.toList.take off ++ us
  | [], cur, off, _ => by simp [setList]
  | u :: us, cur, off, h => by
    simp only [List.length_cons] at h ⊢
    have h1 := setList_take us (cur.setIfInBounds off u) (off + 1) (by simp; omega)
    rw [show off + (us.length + 1) = off + 1 + us.length by omega]
    simp only [setList]
    rw [h1]
    have hlt : off < cur.size := by omega
    rw [Array.toList_setIfInBounds, List.take_add_one, List.take_set_of_le (Nat.le_refl off)]
    simp [hlt]
/-- A record behind the row's last one. -/
theorem owns_pushR {w : World} {base : Nat} {e : TypeId} {g n cap s : Nat} {xs us : List Value} (h : w.ownsRow base e s (.slice (some ⟨g, 0, none⟩) n cap) n xs) (hn : n < cap) (hu : us.length = s) :
    (putCells w g (n * s) us).ownsRow base e s (.slice (some ⟨g, 0, none⟩) (n + 1) cap) (n + 1) (xs ++ us) := by
  have hl := h.1
  rcases h.2 with ⟨hv, _⟩ | ⟨g', cap', cur, hv, hb, hh, hnc, hm, hs, ht⟩
  · simp at hv
  · simp only [Value.slice.injEq, Option.some.injEq, Addr.mk.injEq, and_true, true_and] at hv
    obtain ⟨rfl, rfl⟩ := hv
    have hle : n * s + s ≤ cap * s := by rw [← Nat.succ_mul]; exact Nat.mul_le_mul_right s hn
    refine ⟨by simp [hl, hu, Nat.succ_mul], .inr ⟨g, cap, setList cur (n * s) us, rfl, hb, putCells_heap us w g _ cur hh, by omega, hm, by rw [setList_size]; exact hs, ?_⟩⟩
    rw [Nat.succ_mul, ← hu, setList_take us cur (n * us.length) (by rw [hu, hs]; exact hle), hu, ht]
end Go.Proofs.YtdjooacjjnjfmaaGreatMem
end

-- Storing a record of several cells into the middle of a row. Over any program.
section
namespace Go.Proofs.YtdjooacjjnjfmaaGreatMem
set_option linter.unusedVariables false
set_option linter.unusedSimpArgs false
open Go Go.RowKit

theorem setCells_put : ∀ (us : List Value) (w : World) (g off : Nat), w.setCells g off us = putCells w g off us
  | [], _, _, _ => rfl
  | u :: us, w, g, off => setCells_put us _ g (off + 1)
theorem setList_toList : ∀ (us : List Value) (cur : Array Value) (off : Nat), off + us.length ≤ cur.size → (setList cur off us).toList = cur.toList.take off ++ us ++ cur.toList.drop (off + us.length)
  | [], cur, off, h => by simp [setList]
  | u :: us, cur, off, h => by
    simp only [List.length_cons] at h ⊢
    have h1 := setList_toList us (cur.setIfInBounds off u) (off + 1) (by simp; omega)
    simp only [setList]
    rw [h1]
    have hlt : off < cur.size := by omega
    rw [Array.toList_setIfInBounds, List.take_add_one, List.take_set_of_le (Nat.le_refl off), List.drop_set_of_lt (by omega)]
    rw [show off + 1 + us.length = off + (us.length + 1) by omega]
    simp [hlt]
theorem recs_set {α : Type} {f : α → List Value} {s : Nat} (hf : ∀ x, (f x).length = s) : ∀ (l : List α) (q : Nat) (x : α), q < l.length → (l.set q x).flatMap f = (l.flatMap f).take (q * s) ++ f x ++ (l.flatMap f).drop (q * s + s)
  | [], q, x, h => by simp at h
  | y :: l, 0, x, _ => by
    simp only [List.set_cons_zero, List.flatMap_cons, Nat.zero_mul, List.take_zero, List.nil_append, Nat.zero_add]
    rw [List.drop_left' (hf y)]
  | y :: l, q + 1, x, h => by
    have ih := recs_set hf l q x (by simpa using h)
    simp only [List.set_cons_succ, List.flatMap_cons]
    rw [ih, show (q + 1) * s = s + q * s by rw [Nat.succ_mul]; omega]
    have h1 : (f y ++ l.flatMap f).take (s + q * s) = f y ++ (l.flatMap f).take (q * s) := by
      rw [List.take_append, hf, List.take_of_length_le (by rw [hf]; omega), show s + q * s - s = q * s by omega]
    have h2 : (f y ++ l.flatMap f).drop (s + q * s + s) = (l.flatMap f).drop (q * s + s) := by
      rw [List.drop_append, hf, List.drop_eq_nil_of_le (by rw [hf]; omega), show s + q * s + s - s = q * s + s by omega]
      simp
    rw [h1, h2]; simp [List.append_assoc]
theorem owns_there {w : World} {base : Nat} {e : TypeId} {g n cap s q : Nat} {xs : List Value} (h : w.ownsRow base e s (.slice (some ⟨g, 0, none⟩) n cap) n xs) (hq : q < n) : w.there g (q * s) s := by
  intro j hj
  have hc := owns_cap h
  have hlt : q * s + j < cap * s := by
    have h1 : q * s + s ≤ n * s := by rw [← Nat.succ_mul]; exact Nat.mul_le_mul_right s hq
    have h2 : n * s ≤ cap * s := Nat.mul_le_mul_right s hc.2.1
    omega
  obtain ⟨u, hu⟩ := owns_spare h hlt
  exact ⟨by rw [hu]; rfl, h.frozenAt _⟩
theorem owns_setRec {α : Type} {f : α → List Value} {s : Nat} (hf : ∀ x, (f x).length = s) {w : World} {base : Nat} {e : TypeId} {g n cap q : Nat} {l : List α} (h : w.ownsRow base e s (.slice (some ⟨g, 0, none⟩) n cap) n (l.flatMap f)) (hq : q < n) (x : α) (hl : l.length = n) :
    (w.setCells g (q * s) (f x)).ownsRow base e s (.slice (some ⟨g, 0, none⟩) n cap) n ((l.set q x).flatMap f) := by
  rw [setCells_put]
  have hle : q * s + s ≤ n * s := by rw [← Nat.succ_mul]; exact Nat.mul_le_mul_right s hq
  rcases h.2 with ⟨hv, _⟩ | ⟨g', cap', cur, hv, hb, hh, hnc, hm, hs, ht⟩
  · simp at hv
  · simp only [Value.slice.injEq, Option.some.injEq, Addr.mk.injEq, and_true, true_and] at hv
    obtain ⟨rfl, rfl⟩ := hv
    have hle2 : n * s ≤ cap * s := Nat.mul_le_mul_right s hnc
    refine ⟨by rw [recs_length hf, List.length_set, hl], .inr ⟨g, cap, setList cur (q * s) (f x), rfl, hb, putCells_heap (f x) w g _ cur hh, hnc, hm, by rw [setList_size]; exact hs, ?_⟩⟩
    rw [setList_toList (f x) cur (q * s) (by rw [hf, hs]; omega), recs_set hf l q x (by omega), ← ht, hf]
    have e1 : (cur.toList.take (n * s)).take (q * s) = cur.toList.take (q * s) := by rw [List.take_take, Nat.min_eq_left (by omega)]
    have e2 : (cur.toList.take (n * s)).drop (q * s + s) = (cur.toList.drop (q * s + s)).take (n * s - (q * s + s)) := by rw [List.drop_take]
    have hlenT : (cur.toList.take (q * s)).length = q * s := by rw [List.length_take, Array.length_toList, hs]; omega
    have hlenA : (cur.toList.take (q * s) ++ f x).length = q * s + s := by rw [List.length_append, hlenT, hf]
    rw [e1, e2, List.take_append, List.take_of_length_le (by rw [hlenA]; exact hle), hlenA]
end Go.Proofs.YtdjooacjjnjfmaaGreatMem
end
