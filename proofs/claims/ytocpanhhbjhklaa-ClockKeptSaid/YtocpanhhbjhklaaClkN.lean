/- What the laws on clocks make of their inputs; that the program does something at all. -/
import Derived.Test.YtocpanhhbjhklaaClk4
import Derived.Test.YtocpanhhbjhklaaHelpI
namespace Go.Proofs.Ytocpanhhbjhklaa
set_option linter.unusedVariables false
set_option linter.unusedSimpArgs false
open Go.RowKit Go.Proofs.YtocpanhhbjhklaaMem

def nearV (v : Int) : Int := if modZ v 9 = 8 then v else modZ v 4
def nearL (zs : List Int) (k : Nat) : List Int := (List.range k).map fun j => nearV (nth zs j)
def nearC (zs : List Int) : List Int := nearL zs (min zs.length 70)
theorem nearL_snoc (zs : List Int) (k : Nat) : nearL zs (k + 1) = nearL zs k ++ [nearV (nth zs k)] := by simp [nearL, List.range_succ]
theorem nearC_length (zs : List Int) : (nearC zs).length = min zs.length 70 := by simp [nearC, nearL]
theorem nearV_fits {v : Int} (h : I64 v) : I64 (nearV v) := by
  unfold nearV
  have := modZ_bd v (n := 4) (by omega)
  split
  · exact h
  · unfold I64; omega

set_option maxHeartbeats 400000 in
theorem near_any (ao : Option Addr) (n cap : Nat) (zs : List Int) (w : World) (h : RdI w ao n cap zs) :
    Calls Try.prog 9 #[.slice ao n cap] w (RetRow w 3 1 (min n 70) (ints (nearC zs))) := by
  have E : Hid (nearC zs = nearL zs (min n 70)) := by unfold Hid nearC; rw [h.len]
  have hs := h.small
  have M : Hid (min n 70 = min n 70) := rfl
  go_enter Try.func9, Try.ntmps9
  go_wp2
  go_loopw [3, 4] (fun v i wr => ∃ k : Nat, k ≤ n ∧ k ≤ 70 ∧ i = .int .i64 k ∧ wr.ownsRow w.heap.size 3 1 v k (ints (nearL zs k)) ∧ Below w.heap.size w wr) (fun _ i _ => 70 - (intOf i).toNat)
  case atStart => exact ⟨0, Nat.zero_le _, Nat.zero_le _, rfl, World.ownsRow_nil _ _ _ _, Below.refl _ _⟩
  case round =>
    obtain ⟨k, hk, hk7, rfl, hown, hbr⟩ := hrel
    have hbase : w.heap.size ≤ wr.heap.size := hbr.size
    by_cases hl : k < n
    · by_cases h7 : k < 70
      · obtain ⟨b0, o0, rfl, hlt0, hc0⟩ := h.at_ k hl
        have hc : wr.cell? ⟨b0, o0 + k, none⟩ = some (.int .i64 (nth zs k)) := (hbr.cell (p := ⟨b0, o0 + k, none⟩) hlt0).trans hc0
        have hn2 : k + 1 ≤ 1099511627776 := by omega
        by_cases h8 : modZ (nth zs k) 9 = 8
        · have V : Hid (nearV (nth zs k) = nth zs k) := by unfold Hid nearV; rw [if_pos h8]
          have e8 : (modZ (nth zs k) 9 != 8) = false := by simp [h8]
          clear h8
          go_wp2_with (first
            | (go_at_call 10; refine (mod_any _ _ (by omega) (by omega) _).mono ?_; rintro e w' ⟨rfl, rfl⟩)
            | (at_builtin; refine ap_new wr _ EI rfl _ _ rfl w.heap.size _ k _ rfl hown hbase 1 rfl rfl (one1 rfl) hn2 ?_; intro v' w3 hown3 hg3 hb3 hfr3))
          go_roundw
          case rel => exact ⟨k + 1, by omega, by omega, by go_num, by rw [nearL_snoc, ints_append, V.out]; exact hown3, hbr.trans hb3⟩
          case measure => simp [intOf]; omega
        · have V : Hid (nearV (nth zs k) = modZ (nth zs k) 4) := by unfold Hid nearV; rw [if_neg h8]
          have e8 : (modZ (nth zs k) 9 != 8) = true := by simpa using h8
          clear h8
          go_wp2_with (first
            | (go_at_call 10; refine (mod_any _ _ (by omega) (by omega) _).mono ?_; rintro e w' ⟨rfl, rfl⟩)
            | (at_builtin; refine ap_new wr _ EI rfl _ _ rfl w.heap.size _ k _ rfl hown hbase 1 rfl rfl (one1 rfl) hn2 ?_; intro v' w3 hown3 hg3 hb3 hfr3))
          go_roundw
          case rel => exact ⟨k + 1, by omega, by omega, by go_num, by rw [nearL_snoc, ints_append, V.out]; exact hown3, hbr.trans hb3⟩
          case measure => simp [intOf]; omega
      · have hkn : k = min n 70 := by omega
        have KN := Lib.hid hkn
        clear hkn
        go_wp2
        go_ret
        exact ⟨_, rfl, by rw [E.out, ← KN.out]; exact hown, hbr⟩
    · have hkn : k = min n 70 := by omega
      have KN := Lib.hid hkn
      clear hkn
      go_wp2
      go_ret
      exact ⟨_, rfl, by rw [E.out, ← KN.out]; exact hown, hbr⟩

/-- A literal of numbers behind which another block was laid. -/
theorem lit_rdI1 (w : World) (e e' : TypeId) (cs : Array Value) (o : Obj) (zs : List Int) (hcs : cs = (ints zs).toArray) (hf : ∀ z ∈ zs, I64 z) (hm : zs.length ≤ 9223372036854775807) (n : Nat) (hn : zs.length = n) :
    RdI ((w.alloc (.cells cs e)).alloc o) (some ⟨w.heap.size, 0, none⟩) n n zs :=
  RdI.below (B := 0) (lit_rdI w e cs zs hcs hf hm _ _ rfl hn) ((Below.refl _ _).alloc (Nat.le_refl _) _)
theorem below1 (w : World) (o : Obj) : Below w.heap.size w (w.alloc o) := (Below.refl _ _).alloc (Nat.le_refl _) _
theorem below2 (w : World) (o o' : Obj) : Below w.heap.size w ((w.alloc o).alloc o') := ((Below.refl _ _).alloc (Nat.le_refl _) o).alloc (by simp) o'

set_option maxHeartbeats 1000000 in
theorem awake_any (w : World) : Calls Try.prog 11 #[] w fun e w' => e = .returned (.bool true) ∧ Below w.heap.size w w' := by
  have q1 : cmpC [1, 0] [0, 1] = 2 := by decide
  have q2 : eqI (joinC [1] [0, 2]) [1, 2] = true := by decide
  have q3 : eqI (tickC [] 1) [0, 1] = true := by decide +kernel
  have q4 : atC [4, 7] 1 = 7 := by decide
  have q5 : leqC [] [1] = true := by decide
  have f1 : ∀ z ∈ joinC [1] [0, 2], I64 z := by decide
  have f2 : ∀ z ∈ tickC [] 1, I64 z := by decide +kernel
  have F1 := Lib.hid f1
  have F2 := Lib.hid f2
  clear f1 f2
  go_enter Try.func11, Try.ntmps11
  go_wp2_with fail
  refine (cmp_any _ _ 2 2 2 2 [1, 0] [0, 1] _ (lit_rdI1 w 3 3 _ _ [1, 0] rfl (by decide) (by decide) _ rfl) (lit_rdI _ 3 _ [0, 1] rfl (by decide) (by decide) _ _ (by simp) rfl) (by omega) (by omega)).mono ?_
  rintro e w1 ⟨rfl, hb1⟩
  have B1 := below_step (below2 w _ _) hb1
  clear hb1
  go_wp2_with fail
  refine (join_any _ _ 1 1 2 2 [1] [0, 2] _ (lit_rdI1 w1 3 3 _ _ [1] rfl (by decide) (by decide) _ rfl) (lit_rdI _ 3 _ [0, 2] rfl (by decide) (by decide) _ _ (by simp) rfl) (by omega) (by omega)).mono ?_
  rintro e w2 ⟨v2, rfl, hown2, hb2⟩
  have B2 := below_step B1 (below_step (below2 w1 _ _) hb2)
  clear hb2 B1
  obtain ⟨a2, c2, rfl⟩ := owns_slice hown2
  have r2 := owns_rdI hown2 F1.out
  clear hown2
  go_wp2_with fail
  refine (plainI_any _ _ _ _ 2 2 (joinC [1] [0, 2]) [1, 2] _ (RdI.below (B := 0) r2 (below1 _ _)) (lit_rdI _ 3 _ [1, 2] rfl (by decide) (by decide) _ _ rfl rfl)).mono ?_
  rintro e w3 ⟨rfl, hb3⟩
  have B3 := below_step B2 (below_step (below1 w2 _) hb3)
  clear hb3 B2 r2
  go_wp2_with fail
  refine (tick_any _ _ _ [] 1 _ (nil_rdI _) (by omega)).mono ?_
  rintro e w4 ⟨v4, rfl, hown4, hb4⟩
  have B4 := below_step B3 hb4
  clear hb4 B3
  obtain ⟨a4, c4, rfl⟩ := owns_slice hown4
  have r4 := owns_rdI hown4 F2.out
  clear hown4
  go_wp2_with fail
  refine (plainI_any _ _ _ _ 2 2 (tickC [] 1) [0, 1] _ (RdI.below (B := 0) r4 (below1 _ _)) (lit_rdI _ 3 _ [0, 1] rfl (by decide) (by decide) _ _ rfl rfl)).mono ?_
  rintro e w5 ⟨rfl, hb5⟩
  have B5 := below_step B4 (below_step (below1 w4 _) hb5)
  clear hb5 B4 r4
  go_wp2_with fail
  refine (at_any _ 2 2 [4, 7] 1 _ (lit_rdI _ 3 _ [4, 7] rfl (by decide) (by decide) _ _ rfl rfl)).mono ?_
  rintro e w6 ⟨rfl, rfl⟩
  go_wp2_with fail
  refine (leq_any _ _ _ _ 1 1 [] [1] _ (nil_rdI _) (lit_rdI _ 3 _ [1] rfl (by decide) (by decide) _ _ (by simp) rfl) (by omega) (by omega)).mono ?_
  rintro e w7 ⟨rfl, hb7⟩
  have B7 := below_step B5 (below_step (below2 w5 _ _) hb7)
  go_wp2
  go_ret
  exact ⟨rfl, B7⟩
end Go.Proofs.Ytocpanhhbjhklaa
