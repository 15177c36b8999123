/- Two lists of clocks held against each other; what a program that does nothing does not answer. -/
import Derived.Test.YtkhhjjjpbfnlmaaRaceN
namespace Go.Proofs.Ytkhhjjjpbfnlmaa
set_option linter.unusedVariables false
set_option linter.unusedSimpArgs false
open Go.RowKit Go.Proofs.YtkhhjjjpbfnlmaaMem Go.Proofs.YtkhhjjjpbfnlmaaFlat Go.Proofs.YtkhhjjjpbfnlmaaMapK

def eqC (x y : List (List Int)) : Bool := decide (x = y)
theorem eqC_same (x : List (List Int)) : eqC x x = true := by simp [eqC]
theorem ext_nthC {x y : List (List Int)} (h : x.length = y.length) (hn : ∀ j, j < x.length → nthC x j = nthC y j) : x = y := by
  apply List.ext_getElem h
  intro i h1 h2
  have := hn i h1
  rw [nthC_eq h1, nthC_eq h2] at this
  exact this

set_option maxHeartbeats 1000000 in
theorem sameC_any (a0 a1 : Option Addr) (n0 c0 n1 c1 : Nat) (x y : List (List Int)) (w : World) (h0 : RdC w a0 n0 c0 x) (h1 : RdC w a1 n1 c1 y) :
    Calls Try.prog 36 #[.slice a0 n0 c0, .slice a1 n1 c1, .func (.func 28) #[] #[]] w fun e w' => e = .returned (.bool (eqC x y)) ∧ Below w.heap.size w w' := by
  have L0 := Lib.hid h0.len
  have L1 := Lib.hid h1.len
  have s0 := h0.small
  by_cases hn : n0 = n1
  · have N := Lib.hid hn
    have hb : ((n0 : Int) != (n1 : Int)) = false := by simp [hn]
    have hln : n0 ≤ n1 := by omega
    clear hn
    go_enter Try.func36, Try.ntmps36
    go_wp2
    go_loopw [7] (fun i wr => ∃ k : Nat, k ≤ n0 ∧ i = .int .i64 k ∧ (∀ j : Nat, j < k → nthC x j = nthC y j) ∧ Below w.heap.size w wr) (fun i _ => n0 - (intOf i).toNat)
    case atStart => exact ⟨0, Nat.zero_le _, rfl, fun j hj => absurd hj (Nat.not_lt_zero _), Below.refl _ _⟩
    case round =>
      obtain ⟨k, hk, rfl, heq, hbr⟩ := hrel
      have HQ := Lib.hid heq
      clear heq
      by_cases hl : k < n0
      · have g0 := h0.below hbr
        have g1 := h1.below hbr
        obtain ⟨b0, o0, e0, d0, rfl, hlt0, hc0, hr0⟩ := g0.at_ k hl
        obtain ⟨b1, o1, e1, d1, rfl, hlt1, hc1, hr1⟩ := g1.at_ k (by omega)
        have i0 : (0 : Int) ≤ (k : Int) := by omega
        have i1 : (k : Int) < (n0 : Int) := by omega
        have i2 : (k : Int) < (n1 : Int) := by omega
        cases hv : eqI (nthC x k) (nthC y k)
        · have E : Hid (eqC x y = false) := by
            unfold Hid eqC
            simp only [decide_eq_false_iff_not]
            intro he
            rw [he] at hv
            rw [eqI_same] at hv; cases hv
          go_wp2_with fail
          go_region_held3 (fun w' => Below wr.heap.size wr w' ∧ (∀ b o, b < wr.heap.size → w'.cell? ⟨b, o, none⟩ = wr.cell? ⟨b, o, none⟩)) (first | exact hs_refl ((Below.refl _ _).drew) | assumption | exact hs_step (by assumption) (by assumption))
            (first | (go_at_call 28; (with_reducible refine (plainI_any e0 e1 _ d0 _ d1 _ _ _ (hr0.held (by assumption)) (hr1.held (by assumption))).mono ?_); rw [hv]; rintro e w' ⟨rfl, hb'⟩))
          go_wp2
          go_ret
          exact ⟨by rw [E.out]; rfl, hbr.trans ((‹Below wr.heap.size wr _ ∧ _›).1.mono hbr.size)⟩
        · have V : Hid (nthC x k = nthC y k) := by unfold Hid; simpa [eqI] using hv
          go_wp2_with fail
          go_region_held3 (fun w' => Below wr.heap.size wr w' ∧ (∀ b o, b < wr.heap.size → w'.cell? ⟨b, o, none⟩ = wr.cell? ⟨b, o, none⟩)) (first | exact hs_refl ((Below.refl _ _).drew) | assumption | exact hs_step (by assumption) (by assumption))
            (first | (go_at_call 28; (with_reducible refine (plainI_any e0 e1 _ d0 _ d1 _ _ _ (hr0.held (by assumption)) (hr1.held (by assumption))).mono ?_); rw [hv]; rintro e w' ⟨rfl, hb'⟩))
          go_wp2
          go_roundw
          case rel => exact ⟨k + 1, by omega, by go_num, fun j hj => by
            by_cases hjk : j = k
            · subst hjk; exact V.out
            · exact HQ.out j (by omega), hbr.trans ((‹Below wr.heap.size wr _ ∧ _›).1.mono hbr.size)⟩
          case measure => simp [intOf]; omega
      · have E : Hid (eqC x y = true) := by
          unfold Hid eqC
          simp only [decide_eq_true_eq]
          refine ext_nthC (by rw [L0.out, L1.out]; exact N.out) fun j hj => HQ.out j ?_
          rw [L0.out] at hj; omega
        go_wp2
        go_ret
        exact ⟨by rw [E.out]; rfl, hbr⟩
  · have hb : ((n0 : Int) != (n1 : Int)) = true := by simp; omega
    have E : Hid (eqC x y = false) := by
      unfold Hid eqC
      simp only [decide_eq_false_iff_not]
      intro he
      exact hn (by rw [← L0.out, ← L1.out, he])
    clear hn
    go_enter Try.func36, Try.ntmps36
    go_wp2
    go_ret
    exact ⟨by rw [E.out]; rfl, Below.refl _ _⟩

set_option maxHeartbeats 400000 in
theorem clocksEq_any (a0 a1 : Option Addr) (n0 c0 n1 c1 : Nat) (x y : List (List Int)) (w : World) (h0 : RdC w a0 n0 c0 x) (h1 : RdC w a1 n1 c1 y) :
    Calls Try.prog 17 #[.slice a0 n0 c0, .slice a1 n1 c1] w fun e w' => e = .returned (.bool (eqC x y)) ∧ Below w.heap.size w w' := by
  go_enter Try.func17, Try.ntmps17
  go_wp2_with fail
  refine (sameC_any a0 a1 n0 c0 n1 c1 x y _ h0 h1).mono ?_
  rintro e w' ⟨rfl, hb⟩
  go_wp2
  go_ret
  exact ⟨rfl, hb⟩

/-- A literal of events, in the block that was laid for it. -/
theorem lit_rdE (w : World) (cs : Array Value) (l : List EvS) (hcs : cs = (evs l).toArray) (hok : ∀ e ∈ l, e.Ok) (hm : l.length ≤ 1000) (B n : Nat) (hB : w.heap.size = B) (hn : l.length = n) :
    RdE (w.alloc (.cells cs 36)) (some ⟨B, 0, none⟩) n n l := by
  subst hB; subst hn; subst hcs
  have h := World.ownsRow_lit (e := 36) (size := 5) (base := 0) w (evs l).toArray l.length (Nat.zero_le _) (by unfold maxLen; omega) (by simp [evs_length])
  exact owns_rdE (by simpa using h) hok
theorem nil_rdE (w : World) : RdE w none 0 0 [] := owns_rdE (base := 0) (World.ownsRow_nil w 0 _ _) (fun e he => by cases he)

instance (e : EvS) : Decidable e.Ok := by unfold EvS.Ok LocS.Ok; infer_instance
def aw1 : List EvS := [⟨0, 6, ⟨16, 0, 0⟩⟩, ⟨1, 5, ⟨16, 0, 0⟩⟩]
def aw2 : List EvS := [⟨1, 1, ⟨16, 0, 0⟩⟩]
def aw3 : List EvS := [⟨-1, 1, ⟨0, 0, 0⟩⟩]
theorem aw1_first : resF (firstR aw1) = .tuple #[.int .i64 0, .int .i64 1, .bool true] := by
  have : firstR aw1 = some (0, 1) := by decide +kernel
  rw [this]; rfl
theorem aw2_all : allC aw2 = [[0, 1]] := by decide +kernel
theorem aw2_fits : ∀ c ∈ allC aw2, ∀ z ∈ c, I64 z := by decide +kernel

theorem box3_cells (w : World) (c0 c1 c2 : Value) (t : TypeId) (w' : World) (hb : Below (w.alloc (.cells #[c0, c1, c2] t)).heap.size (w.alloc (.cells #[c0, c1, c2] t)) w') :
    w'.cell? ⟨w.heap.size, 0, none⟩ = some c0 ∧ w'.cell? ⟨w.heap.size, 1, none⟩ = some c1 ∧ w'.cell? ⟨w.heap.size, 2, none⟩ = some c2 := by
  have h1 : w'.heap[w.heap.size]? = some (.cells #[c0, c1, c2] t) := (hb.block _ (by simp)).trans (heap_alloc_new w _)
  simp only [World.cell?, h1]
  exact ⟨rfl, rfl, rfl⟩

set_option maxHeartbeats 2000000 in
theorem awake_any (w : World) : Calls Try.prog 14 #[] w fun e w' => e = .returned (.bool true) ∧ Below w.heap.size w w' := by
  have r0 : rightB [] = true := rfl
  have r3 : rightB aw3 = false := rfl
  have qe : eqI [0, 1] [0, 1] = true := eqI_same _
  go_enter Try.func14, Try.ntmps14
  go_wp2_with fail
  refine (first_any _ 2 2 aw1 _ (lit_rdE _ _ aw1 rfl (by decide) (by decide) _ _ (by simp) rfl) (by omega)).mono ?_
  rw [aw1_first]
  rintro e w1 ⟨rfl, hb1⟩
  have B0 : Below (w.alloc (.cells #[.int .i64 16, .int .i64 0, .int .i64 0] 34)).heap.size (w.alloc (.cells #[.int .i64 16, .int .i64 0, .int .i64 0] 34)) w1 := below_step (below1 _ _) hb1
  have B1 : Below w.heap.size w w1 := below_step (below1 _ _) B0
  obtain ⟨x0, x1, x2⟩ := box3_cells w _ _ _ _ w1 B0
  clear hb1 B0
  go_wp2_with fail
  refine (clocks_any _ 1 1 aw2 _ (lit_rdE _ _ aw2 rfl (by decide) (by decide) _ _ rfl rfl) (by omega)).mono ?_
  rintro e w2 ⟨v2, rfl, hown2, hb2⟩
  have B2 : Below w.heap.size w w2 := below_step B1 (below_step (below1 _ _) hb2)
  rw [aw2_all] at hown2
  obtain ⟨a2, c2, rfl⟩ := hown2.slice
  have rd := hown2.rd (by rw [← aw2_all]; exact aw2_fits)
  obtain ⟨g, off, a, c, rfl, hlt, hcell, hri⟩ := rd.at_ 0 (by decide)
  clear hown2 hb2 x0 x1 x2 B1
  have e0 : nthC [[0, 1]] 0 = [0, 1] := rfl
  rw [e0] at hri hcell
  simp only [List.length_cons, List.length_nil, Nat.zero_add, Nat.reduceAdd, Nat.add_zero] at hri hcell ⊢
  go_wp2_with fail
  refine (plainI_any _ _ _ _ 2 2 [0, 1] [0, 1] _ (RdI.below (B := 0) hri (below1 _ _)) (lit_rdI _ 3 _ [0, 1] rfl (by decide) (by decide) _ _ rfl rfl)).mono ?_
  rw [qe]
  rintro e w3 ⟨rfl, hb3⟩
  have B3 := below_step B2 (below_step (below1 w2 _) hb3)
  clear hb3 B2 hri hcell
  go_wp2_with fail
  refine (right_any _ _ _ [] _ (nil_rdE _)).mono ?_
  rw [r0]
  rintro e w4 ⟨rfl, hb4⟩
  have B4 := below_step B3 hb4
  clear hb4 B3
  go_wp2_with fail
  refine (right_any _ 1 1 aw3 _ (lit_rdE _ _ aw3 rfl (by decide) (by decide) _ _ rfl rfl)).mono ?_
  rw [r3]
  rintro e w5 ⟨rfl, hb5⟩
  have B5 := below_step B4 (below_step (below1 w4 _) hb5)
  go_wp2
  go_ret
  exact ⟨rfl, B5⟩
end Go.Proofs.Ytkhhjjjpbfnlmaa
