/- The reference's flows: which ones there are. -/
import Derived.Test.YtnanalaienlbpaaGreatRfs6
import Derived.Test.YtnanalaienlbpaaGreatSim
import Derived.Test.YtnanalaienlbpaaGreatSfq12
namespace Go.Proofs.YtnanalaienlbpaaGreat
set_option linter.unusedVariables false
set_option linter.unusedSimpArgs false
set_option maxRecDepth 20000
open Go.RowKit Go.Proofs.YtnanalaienlbpaaGreatMem Go.Proofs.YtnanalaienlbpaaGreatMapK

theorem EZ : ElT Tryz.prog 43 3 (.int .i64 0) 1 := ⟨Tryz.underlying43, ⟨8, by kernel_rfl, by omega⟩, rfl, by omega⟩
def idR (l : List FlR) : List Value := (l.map (·.id)).map (Value.int .i64)
theorem idR_take (l : List FlR) {k : Nat} {e : FlR} (h : l[k]? = some e) : idR (l.take (k + 1)) = idR (l.take k) ++ [.int .i64 e.id] := by
  unfold idR
  rw [List.take_add_one, h]
  simp
theorem oneZ (z : Int) : ∀ u ∈ (#[Value.int .i64 z] : Array Value).toList, u.oneCell' = true := by
  intro u hu
  simp only [List.mem_cons, List.not_mem_nil, or_false] at hu
  subst hu; rfl

set_option maxHeartbeats 1000000 in
theorem flowsR_any (b : Nat) (t : SfS) (F : Nat → Prop) (w : World) (h : RfsAt w b t F) (hn6 : t.fs.length ≤ 1000000) :
    Calls Tryz.prog 37 #[.pointer (some ⟨b, 0, none⟩)] w fun e w' => ∃ v, e = .returned v ∧ w'.ownsRow w.heap.size 3 1 v t.fs.length (t.ids.map (Value.int .i64)) ∧ Below w.heap.size w w' := by
  obtain ⟨l, hl, R⟩ := h
  obtain ⟨ao, cap, c0, c1, c2, hc, hl63, hnil, hat⟩ := R.cells
  have hbl := R.lt b R.hb
  have HA := Lib.hid hat
  have hle : t.fs.length = l.length := by rw [← hl]; simp
  have hids : t.ids.map (Value.int .i64) = idR l := by unfold SfS.ids idR; rw [← hl]; simp [FlR.pl, Function.comp_def]
  rw [hids, hle]
  obtain ⟨n, hn⟩ : ∃ n, l.length = n := ⟨_, rfl⟩
  rw [hn] at hc hl63 hnil c0 ⊢
  have hn5 : n ≤ 1000000 := by omega
  have HN := Lib.hid hn
  clear hat R c1 c2 hn hle hids hl
  go_enter Tryz.func37, Tryz.ntmps37
  go_wp2_with fail
  go_loopw [3, 4] (fun v3 v4 wr => ∃ k : Nat, k ≤ n ∧ v4 = .int .i64 k ∧ wr.ownsRow w.heap.size 3 1 v3 k (idR (l.take k)) ∧ Below w.heap.size w wr) (fun _ v4 _ => n - (intOf v4).toNat)
  case atStart => exact ⟨0, Nat.zero_le _, rfl, owns_nil _ _ _ _, Below.refl _ _⟩
  case round =>
    obtain ⟨k, hk, rfl, hown, hbr⟩ := hrel
    have hsz := hbr.size
    have c0 := (hbr.cell (p := ⟨b, 0, none⟩) hbl).trans c0
    by_cases hkn : k < n
    · obtain ⟨e, he⟩ : ∃ e, l[k]? = some e := ⟨l[k]'(by rw [HN.out]; exact hkn), List.getElem?_eq_getElem _⟩
      obtain ⟨g, rfl, hg, cg, ci, heb⟩ := HA.out k e he
      have cg := (hbr.cell (p := ⟨g, k, none⟩) hg).trans cg
      have ci := (hbr.cell (p := ⟨e.b, 0, none⟩) heb).trans ci
      have i1 : (k : Int) < (n : Int) := by omega
      have hn2 : k + 1 ≤ 1099511627776 := by omega
      have HE := Lib.hid (idR_take l he)
      clear he
      go_wp2_with ((at_builtin; refine ap_new wr #[.int .i64 e.id] EZ rfl _ _ rfl w.heap.size _ k _ rfl hown hsz 1 rfl rfl (oneZ _) hn2 ?_; intro v' w3 hown3 hg3 hb3 hfr3))
      go_roundw
      case rel => exact ⟨k + 1, by omega, by go_num, by rw [HE.out]; exact hown3, hbr.trans hb3⟩
      case measure => simp [intOf]; omega
    · obtain rfl : k = n := by omega
      have hT : l.take k = l := List.take_of_length_le (by rw [HN.out]; exact Nat.le_refl _)
      rw [hT] at hown
      clear hT
      go_wp2
      go_ret
      exact ⟨_, rfl, hown, hbr⟩

set_option maxHeartbeats 1000000 in
theorem ahead1_any (x y : Int × Int) (w : World) :
    Calls Tryz.prog 79 #[.agg #[.int .u64 x.1, .int .i64 x.2], .agg #[.int .u64 y.1, .int .i64 y.2]] w fun e w' => e = .returned (.bool (aheadE x y)) ∧ Below w.heap.size w w' := by
  obtain ⟨a, c⟩ := x
  obtain ⟨a', c'⟩ := y
  have hA : aheadE (a, c) (a', c') = (decide (a < a') || (a == a' && decide (c < c'))) := by
    unfold aheadE aheadB
    have e : (a == a') = decide (a = a') := rfl
    rw [e]; simp
  rw [hA]
  rcases Int.lt_trichotomy a a' with h | h | h
  · have d1 : decide (a < a') = true := decide_eq_true h
    go_enter Tryz.func79, Tryz.ntmps79
    go_wp2
    go_ret
    exact ⟨by simp [h], ((Below.refl _ _).alloc (Nat.le_refl _) _).alloc (by simp) _⟩
  · subst h
    have d1 : decide (a < a) = false := decide_eq_false (by omega)
    go_enter Tryz.func79, Tryz.ntmps79
    go_wp2
    go_ret
    exact ⟨by simp, ((Below.refl _ _).alloc (Nat.le_refl _) _).alloc (by simp) _⟩
  · have d1 : decide (a < a') = false := decide_eq_false (by omega)
    have d2 : (a == a') = false := by simp; omega
    go_enter Tryz.func79, Tryz.ntmps79
    go_wp2
    go_ret
    exact ⟨by simp [d2]; omega, ((Below.refl _ _).alloc (Nat.le_refl _) _).alloc (by simp) _⟩
end Go.Proofs.YtnanalaienlbpaaGreat
