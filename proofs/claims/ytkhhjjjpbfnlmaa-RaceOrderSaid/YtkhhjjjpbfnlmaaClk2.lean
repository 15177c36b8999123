/- Joining and comparing clocks; a clock that is one more; the library's functions that they use. -/
import Derived.Test.YtkhhjjjpbfnlmaaClk
import Derived.Lib.SliceRun
namespace Go.Proofs.Ytkhhjjjpbfnlmaa
set_option linter.unusedVariables false
set_option linter.unusedSimpArgs false
open Go.RowKit Go.Proofs.YtkhhjjjpbfnlmaaMem

def hasI (zs : List Int) (v : Int) : Bool := zs.contains v
def joinC (x y : List Int) : List Int := row (more x y) (maxN x.length y.length)
def leqC (x y : List Int) : Bool := !hasI (row (above x y) (maxN x.length y.length)) 1

set_option maxHeartbeats 400000 in
theorem join_any (a0 a1 : Option Addr) (n0 c0 n1 c1 : Nat) (x y : List Int) (w : World) (h0 : RdI w a0 n0 c0 x) (h1 : RdI w a1 n1 c1 y) (b0 : n0 ≤ 549755813888) (b1 : n1 ≤ 549755813888) :
    Calls Try.prog 38 #[.slice a0 n0 c0, .slice a1 n1 c1] w (RetRow w 3 1 (maxN n0 n1) (ints (joinC x y))) := by
  have E : Hid (joinC x y = row (more x y) (maxN n0 n1)) := by unfold Hid joinC; rw [h0.len, h1.len]
  have hmf : ∀ (fn : Fn) (first cap : Array Value) (w : World), (Instr.makeFunc fn first cap).run Try.prog w = .ok (.func fn first cap) w := fun _ _ _ _ => rfl
  go_enter Try.func38, Try.ntmps38
  go_wp2_with (go_at_call 53; refine (walk_more a0 a1 n0 c0 n1 c1 x y _ (RdI.below (B := 0) h0 ((Below.refl _ _).alloc (Nat.le_refl _) _)) (RdI.below (B := 0) h1 ((Below.refl _ _).alloc (Nat.le_refl _) _)) b0 b1).mono ?_; rintro e w' ⟨v, rfl, hown, hb⟩)
  go_ret
  exact ⟨v, rfl, by rw [E.out]; exact owns_base hown (by simp), ((Below.refl _ _).alloc (Nat.le_refl _) _).trans (hb.mono (by simp))⟩

/-- Where it stands: at 0 or above, if it is there. -/
def IdxPost (zs : List Int) (v : Int) (w : World) (e : Ending) (w' : World) : Prop := ∃ r : Int, e = .returned (.int .i64 r) ∧ w = w' ∧ decide (0 ≤ r) = hasI zs v

set_option maxHeartbeats 400000 in
theorem index_any (ao : Option Addr) (n cap : Nat) (zs : List Int) (v : Int) (w : World) (h : RdI w ao n cap zs) :
    Calls Try.prog 59 #[.slice ao n cap, .int .i64 v] w (IdxPost zs v w) := by
  have hn := h.small
  have HL := Lib.hid h.len
  go_enter Try.func59, Try.ntmps59
  go_wp2
  go_loop [8] (fun i => ∃ k : Nat, k ≤ n ∧ i = .int .i64 k ∧ ∀ j : Nat, j < k → nth zs j ≠ v) (fun i => n - (intOf i).toNat)
  case atStart => exact ⟨0, Nat.zero_le _, rfl, fun j hj => absurd hj (Nat.not_lt_zero _)⟩
  case round =>
    obtain ⟨k, hk, rfl, hne⟩ := hrel
    by_cases hl : k < n
    · obtain ⟨b, off, rfl, hb, hc⟩ := h.at_ k hl
      have HN := Lib.hid hne
      clear hne
      by_cases hv : nth zs k = v
      · have E : Hid (decide ((0 : Int) ≤ k) = hasI zs v) := by
          unfold Hid
          have hm : v ∈ zs := by rw [← hv, nth_eq (by rw [HL.out]; exact hl)]; exact List.getElem_mem _
          unfold hasI; rw [List.contains_iff_mem.2 hm]; simp
        have e1 : (v == nth zs k) = true := by simp [hv]
        clear hv
        go_wp2
        go_ret
        exact ⟨_, rfl, rfl, E.out⟩
      · have HV := Lib.hid hv
        have e1 : (v == nth zs k) = false := beq_eq_false_iff_ne.2 (fun h => hv h.symm)
        clear hv
        go_wp2
        go_round
        case rel => exact ⟨k + 1, by omega, by go_num, fun j hj => by
          by_cases hjk : j = k
          · subst hjk; exact HV.out
          · exact HN.out j (by omega)⟩
        case measure => simp [intOf]; omega
    · have E : Hid (decide ((0 : Int) ≤ -1) = hasI zs v) := by
        unfold Hid hasI
        have hm : ¬ v ∈ zs := by
          intro hm
          obtain ⟨j, hj, e⟩ := List.mem_iff_getElem.1 hm
          refine hne j (by rw [HL.out] at hj; omega) ?_
          rw [nth_eq hj]; exact e
        simpa using hm
      clear hne
      go_wp2
      go_ret
      exact ⟨_, rfl, rfl, E.out⟩

set_option maxHeartbeats 400000 in
theorem contains_any (ao : Option Addr) (n cap : Nat) (zs : List Int) (v : Int) (w : World) (h : RdI w ao n cap zs) :
    Calls Try.prog 52 #[.slice ao n cap, .int .i64 v] w fun e w' => e = .returned (.bool (hasI zs v)) ∧ w = w' := by
  go_enter Try.func52, Try.ntmps52
  go_wp2_with (go_at_call 59; refine (index_any _ _ _ zs _ _ h).mono ?_; rintro e w' ⟨r, rfl, rfl, hr⟩; have HR := Lib.hid hr; clear hr)
  go_ret
  exact ⟨by rw [← HR.out]; rfl, rfl⟩

set_option maxHeartbeats 400000 in
theorem leq_any (a0 a1 : Option Addr) (n0 c0 n1 c1 : Nat) (x y : List Int) (w : World) (h0 : RdI w a0 n0 c0 x) (h1 : RdI w a1 n1 c1 y) (b0 : n0 ≤ 549755813888) (b1 : n1 ≤ 549755813888) :
    Calls Try.prog 31 #[.slice a0 n0 c0, .slice a1 n1 c1] w fun e w' => e = .returned (.bool (leqC x y)) ∧ Below w.heap.size w w' := by
  have E : Hid (leqC x y = !hasI (row (above x y) (maxN n0 n1)) 1) := by unfold Hid leqC; rw [h0.len, h1.len]
  have hmf : ∀ (fn : Fn) (first cap : Array Value) (w : World), (Instr.makeFunc fn first cap).run Try.prog w = .ok (.func fn first cap) w := fun _ _ _ _ => rfl
  have hf : ∀ z ∈ row (above x y) (maxN n0 n1), I64 z := by
    intro z hz
    simp only [row, List.mem_map] at hz
    obtain ⟨j, _, rfl⟩ := hz
    unfold above I64; split <;> omega
  have HF := Lib.hid hf
  clear hf
  go_enter Try.func31, Try.ntmps31
  go_wp2_with (go_at_call 53; refine (walk_above a0 a1 n0 c0 n1 c1 x y _ (RdI.below (B := 0) h0 ((Below.refl _ _).alloc (Nat.le_refl _) _)) (RdI.below (B := 0) h1 ((Below.refl _ _).alloc (Nat.le_refl _) _)) b0 b1).mono ?_; rintro e w' ⟨v, rfl, hown, hb⟩)
  obtain ⟨ao, cap, rfl⟩ := owns_slice hown
  have hr := owns_rdI hown HF.out
  go_wp2_with (go_at_call 52; refine (contains_any _ _ _ _ _ _ hr).mono ?_; rintro e w' ⟨rfl, rfl⟩)
  go_ret
  exact ⟨by rw [E.out]; rfl, ((Below.refl _ _).alloc (Nat.le_refl _) _).trans (hb.mono (by simp))⟩

def cmpC (x y : List Int) : Int := if leqC x y then (if leqC y x then 0 else -1) else if leqC y x then 1 else 2


set_option maxHeartbeats 400000 in
theorem clone_any (ao : Option Addr) (n cap : Nat) (zs : List Int) (w : World) (h : RdI w ao n cap zs) (hn : n ≤ 549755813888) :
    Calls Try.prog 41 #[.slice ao n cap] w (RetRow w 3 1 n (ints zs)) := by
  have hse := fun w a n c => Lib.run_eql_slice_nil (P := Try.prog) w 23 3 a n c 0 0 Try.underlying23
  cases ao with
  | none =>
    obtain ⟨rfl, rfl⟩ := h.nil rfl
    have e : zs = [] := List.eq_nil_of_length_eq_zero h.len
    subst e
    go_enter Try.func41, Try.ntmps41
    go_wp2
    go_ret
    exact ⟨_, rfl, World.ownsRow_nil _ _ _ _, Below.refl _ _⟩
  | some ad =>
    have hl : (ints zs).length = n * 1 := by rw [ints_length, h.len]; omega
    have hc : ∀ j u, (ints zs)[j]? = some u → ∃ b off, some ad = some ⟨b, off, none⟩ ∧ (w.alloc (.cells #[] 3)).cell? ⟨b, off + j, none⟩ = some u := by
      intro j u hu
      have hj : j < zs.length := by rw [← ints_length]; exact (List.getElem?_eq_some_iff.1 hu).1
      obtain ⟨b, off, e, hlt, hc⟩ := (RdI.below (B := 0) h ((Below.refl _ _).alloc (Nat.le_refl _) (.cells #[] 3))).at_ j (by rw [← h.len]; exact hj)
      refine ⟨b, off, e, hc.trans ?_⟩
      rw [← hu, nth_eq hj]; simp [ints, hj]
    have h1 : ∀ u ∈ ints zs, u.oneCell' = true := by
      intro u hu
      simp only [ints, List.mem_map] at hu
      obtain ⟨z, _, rfl⟩ := hu
      rfl
    have hn2 : 0 + n ≤ 1099511627776 := by omega
    have HC := Lib.hid hc
    have H1 := Lib.hid h1
    have HL := Lib.hid hl
    clear hc h1 hl
    go_enter Try.func41, Try.ntmps41
    go_wp2_with ((at_builtin; refine ap_src (w.alloc (.cells #[] 3)) EI rfl _ _ rfl w.heap.size _ 0 _ rfl (owns_empty w w.heap.size 3 1 (Nat.le_refl _)) (by simp) (some ad) n cap (ints zs) rfl (fun h => by cases h) HL.out HC.out H1.out hn2 ?_; intro v' w3 hown3 hg3 hb3 hfr3))
    go_ret
    exact ⟨_, rfl, by simpa using hown3, ((Below.refl _ _).alloc (Nat.le_refl _) _).trans hb3⟩
end Go.Proofs.Ytkhhjjjpbfnlmaa
