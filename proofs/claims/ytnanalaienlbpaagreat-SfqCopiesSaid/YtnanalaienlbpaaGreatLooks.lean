/- law10's looks: both tell the same. -/
import Derived.Test.YtnanalaienlbpaaGreatTwo
import Derived.Test.YtnanalaienlbpaaGreatFls
import Derived.Test.YtnanalaienlbpaaGreatRfs8
import Derived.Test.YtnanalaienlbpaaGreatHelpN
namespace Go.Proofs.YtnanalaienlbpaaGreat
set_option linter.unusedVariables false
set_option linter.unusedSimpArgs false
set_option maxRecDepth 20000
open Go.RowKit Go.Proofs.YtnanalaienlbpaaGreatMem Go.Proofs.YtnanalaienlbpaaGreatMapK

section
variable {w : World} {b c : Nat} {s t : SfS} {F : Nat → Prop}
theorem one_ints (l : List Int) : ∀ u ∈ l.map (Value.int .i64), u.oneCell' = true := by
  intro u hu
  obtain ⟨z, -, rfl⟩ := List.mem_map.1 hu
  rfl
/-- A new row of items, or of numbers. -/
def GotE (L : List (Int × Int)) (n : Nat) (w : World) (e : Ending) (w' : World) : Prop := ∃ ao cap, e = .returned (.slice ao n cap) ∧ RdS w' ao n cap 2 (entC L) ∧ Below w.heap.size w w'
def GotZ (L : List Int) (n : Nat) (w : World) (e : Ending) (w' : World) : Prop := ∃ ao cap, e = .returned (.slice ao n cap) ∧ RdS w' ao n cap 1 (L.map (Value.int .i64)) ∧ Below w.heap.size w w'
theorem gotE {L : List (Int × Int)} {n : Nat} (hn : L.length = n) {f : FuncId} {args : Array Value} (h : Calls Tryz.prog f args w fun e w' => ∃ v, e = .returned v ∧ w'.ownsRow w.heap.size 39 2 v L.length (entC L) ∧ Below w.heap.size w w') : Calls Tryz.prog f args w (GotE L n w) := by
  subst hn
  refine h.mono ?_
  rintro e w' ⟨v, rfl, h1, h2⟩
  obtain ⟨ao, cap, rfl⟩ := owns_slice h1
  exact ⟨ao, cap, rfl, owns_rdS h1 (entC_one _), h2⟩
theorem gotZ {L : List Int} {n : Nat} {f : FuncId} {args : Array Value} (h : Calls Tryz.prog f args w fun e w' => ∃ v, e = .returned v ∧ w'.ownsRow w.heap.size 3 1 v n (L.map (Value.int .i64)) ∧ Below w.heap.size w w') : Calls Tryz.prog f args w (GotZ L n w) := by
  refine h.mono ?_
  rintro e w' ⟨v, rfl, h1, h2⟩
  obtain ⟨ao, cap, rfl⟩ := owns_slice h1
  exact ⟨ao, cap, rfl, owns_rdS h1 (one_ints _), h2⟩
theorem starts_eq (sim : Sim s t) : s.starts = t.starts := sortE_congr sim.ent
end

set_option maxHeartbeats 2000000 in
theorem looks_any {w : World} {b c : Nat} {s t : SfS} {F : Nat → Prop} (h : TwoAt w b c s t F) (sim : Sim s t) (ok : s.Ok) (hn : s.fs.length ≤ 1000000) :
    Calls Tryz.prog 14 #[.pointer (some ⟨b, 0, none⟩), .pointer (some ⟨c, 0, none⟩)] w fun e w' => e = .returned (.bool true) ∧ Below w.heap.size w w' := by
  have hnt : t.fs.length ≤ 1000000 := by rw [← sim.len]; exact hn
  obtain ⟨L, hL⟩ : ∃ L, t.starts = L := ⟨_, rfl⟩
  obtain ⟨Z, hZ⟩ : ∃ Z, t.ids = Z := ⟨_, rfl⟩
  obtain ⟨n, hn1⟩ : ∃ n, L.length = n := ⟨_, rfl⟩
  obtain ⟨m, hm1⟩ : ∃ m, t.fs.length = m := ⟨_, rfl⟩
  have hZm : Z.length = m := by rw [← hZ, ← hm1]; unfold SfS.ids; simp
  have CV : Hid (∀ w', Below w.heap.size w w' → Calls Tryz.prog 20 #[.pointer (some ⟨b, 0, none⟩)] w' fun e w2 => e = .returned (.int .u64 t.v) ∧ w' = w2) := Lib.hid fun w' hb => by rw [← sim.v]; exact twoV (h.below hb)
  have CM : Hid (∀ w', Below w.heap.size w w' → Calls Tryz.prog 19 #[.pointer (some ⟨b, 0, none⟩)] w' fun e w2 => e = .returned (.int .u64 t.most) ∧ w' = w2) := Lib.hid fun w' hb => by rw [← sim.most]; exact twoMost (h.below hb)
  have CS : Hid (∀ w', Below w.heap.size w w' → Calls Tryz.prog 9 #[.pointer (some ⟨b, 0, none⟩)] w' (GotE L n w')) := Lib.hid fun w' hb => gotE hn1 (by rw [← hL, ← starts_eq sim]; exact twoStarts (h.below hb) hn)
  have CSR : Hid (∀ w', Below w.heap.size w w' → Calls Tryz.prog 35 #[.pointer (some ⟨c, 0, none⟩)] w' (GotE L n w')) := Lib.hid fun w' hb => gotE hn1 (by
    obtain ⟨Fs, Gs, -, h2, -⟩ := h.below hb
    rw [← hL]; exact startsR_any c t Gs w' h2 hnt)
  have CF : Hid (∀ w', Below w.heap.size w w' → Calls Tryz.prog 11 #[.pointer (some ⟨b, 0, none⟩)] w' (GotZ Z m w')) := Lib.hid fun w' hb => gotZ (by
    obtain ⟨Fs, Gs, h1, -⟩ := h.below hb
    have := flowsS_any b s Fs w' h1 ok.ids hn
    rw [sim.idsE, sim.len, hm1, hZ] at this
    exact this)
  have CFR : Hid (∀ w', Below w.heap.size w w' → Calls Tryz.prog 37 #[.pointer (some ⟨c, 0, none⟩)] w' (GotZ Z m w')) := Lib.hid fun w' hb => gotZ (by
    obtain ⟨Fs, Gs, -, h2, -⟩ := h.below hb
    have := flowsR_any c t Gs w' h2 hnt
    rw [hm1, hZ] at this
    exact this)
  have CC : Hid (∀ w', Below w.heap.size w w' → w'.cell? ⟨c, 1, none⟩ = some (.int .u64 t.v) ∧ w'.cell? ⟨c, 2, none⟩ = some (.int .u64 t.most)) := Lib.hid fun w' hb => by
    obtain ⟨Fs, Gs, -, ⟨l, hl, R⟩, -⟩ := h.below hb
    obtain ⟨ao, cap, c0, c1, c2, -⟩ := R.cells
    exact ⟨c1, c2⟩
  have HN1 := Lib.hid hn1
  have HM1 := Lib.hid hZm
  have Td : Below w.heap.size w w.drew := (Below.refl _ _).drew
  generalize t.v = tv at *
  generalize t.most = tm at *
  have q1 : (tv == tv) = true := by simp
  have q2 : (tm == tm) = true := by simp
  clear hn1 hZm hm1 hZ hL hnt h sim ok hn
  have S0 := CC.out _ Td
  go_enter Tryz.func14, Tryz.ntmps14
  go_wp2_with fail
  go_region_held3 (fun w' => w'.cell? ⟨c, 1, none⟩ = some (.int .u64 tv) ∧ w'.cell? ⟨c, 2, none⟩ = some (.int .u64 tm)) (exact CC.out _ Td)
    (first
      | (go_at_call 20; refine (CV.out _ Td).mono ?_; rintro e w1 ⟨rfl, rfl⟩)
      | (go_at_call 19; refine (CM.out _ Td).mono ?_; rintro e w1 ⟨rfl, rfl⟩)
      | (go_at_call 9; refine (CS.out _ Td).mono ?_; rintro e w1 ⟨a1, k1, rfl, rd1, hb1⟩; replace Td := Td.trans (hb1.mono Td.size))
      | (go_at_call 35; refine (CSR.out _ Td).mono ?_; rintro e w2 ⟨a2, k2, rfl, rd2, hb2⟩; replace rd1 := rd1.below hb2; replace Td := Td.trans (hb2.mono Td.size))
      | (go_at_call 34; refine (plainE_any _ _ _ _ _ L _ rd1 rd2 HN1.out).mono ?_; rintro e w3 ⟨rfl, hb3⟩; replace Td := Td.trans (hb3.mono Td.size))
      | (go_at_call 11; refine (CF.out _ Td).mono ?_; rintro e w4 ⟨a4, k4, rfl, rd4, hb4⟩; replace Td := Td.trans (hb4.mono Td.size))
      | (go_at_call 37; refine (CFR.out _ Td).mono ?_; rintro e w5 ⟨a5, k5, rfl, rd5, hb5⟩; replace rd4 := rd4.below hb5; replace Td := Td.trans (hb5.mono Td.size))
      | (go_at_call 36; refine (plainZ_any _ _ _ _ _ Z _ rd4 rd5 HM1.out).mono ?_; rintro e w6 ⟨rfl, hb6⟩; replace Td := Td.trans (hb6.mono Td.size)))
  go_wp2
  go_ret
  exact ⟨by simp [Act.eval], Td⟩
end Go.Proofs.YtnanalaienlbpaaGreat
