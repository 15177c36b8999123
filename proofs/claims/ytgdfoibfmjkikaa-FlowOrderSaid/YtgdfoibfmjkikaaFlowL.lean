/- The helpers of the laws on flows, next: both made, both looked at, awake. -/
import Derived.Test.YtgdfoibfmjkikaaFlowS
namespace Go.Proofs.Ytgdfoibfmjkikaa
set_option linter.unusedVariables false
set_option linter.unusedSimpArgs false
open Go.RowKit Go.Proofs.YtgdfoibfmjkikaaMem

def madeMost (m : Int) : Int := if modZ m 4 > 0 then modZ m 10 else m
def madeR (r : Int) : Int := if r % 7 < 5 then r % 50 else r
theorem madeR_w64 {r : Int} (h : W64 r) : W64 (madeR r) := by unfold W64 at *; unfold madeR; split <;> omega
def MadePost (x : FlS) (w : World) (e : Ending) (w' : World) : Prop := ∃ bf bx, e = .returned (.tuple #[.pointer (some ⟨bf, 0, none⟩), .pointer (some ⟨bx, 0, none⟩)]) ∧ TwoAt w' bf bx x (fun k => w.heap.size ≤ k ∧ k < w'.heap.size) ∧ Below w.heap.size w w'

theorem made_end {w w1 w2 : World} {bf bx : Nat} {x : FlS} (h1 : FlowAt w1 bf x (fun k => w.heap.size ≤ k ∧ k < w1.heap.size)) (hb1 : Below w.heap.size w w1) (h2 : RefAt w2 bx 0 x (fun k => w1.heap.size ≤ k ∧ k < w2.heap.size)) (hb2 : Below w1.heap.size w1 w2) :
    TwoAt w2 bf bx x (fun k => w.heap.size ≤ k ∧ k < w2.heap.size) ∧ Below w.heap.size w w2 := by
  have s1 := hb1.size
  have s2 := hb2.size
  exact ⟨⟨_, _, h1.below hb2, h2, fun k hk hk2 => by omega, fun k hk => ⟨hk.1, by omega⟩, fun k hk => ⟨by omega, hk.2⟩, fun k hk => hk.2⟩, hb1.trans (hb2.mono s1)⟩

set_option maxHeartbeats 2000000 in
theorem made_any (r m : Int) (hr : W64 r) (w : World) :
    Calls Try.prog 14 #[.int .u64 r, .int .i64 m] w (MadePost (FlS.new (madeR r) (madeMost m)) w) := by
  obtain ⟨r1, r2⟩ := hr
  have b4 := modZ_bd m (n := 4) (by omega)
  have hm : (0 < modZ m 4 ∧ madeMost m = modZ m 10) ∨ (modZ m 4 ≤ 0 ∧ madeMost m = m) := by
    unfold madeMost
    by_cases h : 0 < modZ m 4
    · left; exact ⟨h, if_pos h⟩
    · right; exact ⟨by omega, if_neg h⟩
  have hR : (r % 7 < 5 ∧ madeR r = r % 50) ∨ (5 ≤ r % 7 ∧ madeR r = r) := by
    unfold madeR
    by_cases h : r % 7 < 5
    · left; exact ⟨h, if_pos h⟩
    · right; exact ⟨by omega, if_neg h⟩
  rcases hm with ⟨hm, em⟩ | ⟨hm, em⟩
  all_goals
    rcases hR with ⟨hR, eR⟩ | ⟨hR, eR⟩
    all_goals
      rw [em, eR]
      clear em eR b4
      go_enter Try.func14, Try.ntmps14
      go_wp2_with (first
        | (go_at_call 15; refine (mod_any _ _ (by omega) (by omega) _).mono ?_; rintro e w' ⟨rfl, rfl⟩)
        | (go_at_call 9; refine (new_any _ _ _).mono ?_; rintro e w1 ⟨bf, rfl, h1, hb1⟩)
        | (go_at_call 31; refine (refNew_any _ _ _ _).mono ?_; rintro e w2 ⟨bx, rfl, h2, hb2⟩))
      go_ret2
      exact ⟨_, _, rfl, made_end h1 hb1 h2 hb2⟩

theorem TwoAt.lt {w : World} {bf bx : Nat} {x : FlS} {F : Nat → Prop} (h : TwoAt w bf bx x F) : Lt F w := by obtain ⟨_, _, _, _, _, _, _, h⟩ := h; exact h

set_option maxHeartbeats 4000000 in
theorem looks_any (bf bx : Nat) (x : FlS) (F : Nat → Prop) (w : World) (h : TwoAt w bf bx x F) (ok : x.Ok) :
    Calls Try.prog 17 #[.pointer (some ⟨bf, 0, none⟩), .pointer (some ⟨bx, 0, none⟩)] w fun e w' => e = .returned (.bool true) ∧ Below w.heap.size w w' := by
  obtain ⟨Ff, Fx, h1, h2, hd, h4, h5, hF⟩ := h
  clear hd
  have HH := Lib.hid fun w' (hb : Below w.heap.size w w') => h1.below hb
  cases hl : x.l with
  | nil =>
    have e1 : x.head = Pk.zero := by unfold FlS.head; rw [hl]
    have e2 : x.start0 = 0 := by unfold FlS.start0; rw [if_pos hl]
    have e3 : x.has = false := by unfold FlS.has; rw [hl]; rfl
    have hlen : x.l.length = 0 := by rw [hl]; rfl
    obtain ⟨ao, cap, hb, ho, -⟩ := h2
    rw [hl] at hb
    have hlt := hb.lt
    have c3 := hb.cell 3
    have c4 := hb.cell 4
    have c5 := hb.cell 5
    simp only [List.getElem?_cons_succ, List.getElem?_cons_zero, List.length_nil] at c3 c4 c5
    have E1 := Lib.hid e1
    have E2 := Lib.hid e2
    have E3 := Lib.hid e3
    have E4 := Lib.hid hlen
    have HC := Lib.hid fun w' (hbl : Below w.heap.size w w') => hb.below hbl
    clear hl hb ho h1 e1 e2 e3 hlen h4 h5
    go_enter Try.func17, Try.ntmps17
    go_wp2_with (first
      | (go_at_call 27; refine (head_any bf x Ff _ (HH.out _ (Below.refl _ _))).mono ?_; rw [E1.out, E3.out]; rintro e w1 ⟨rfl, hb1⟩; simp only [Pk.val, Pk.zero])
      | (go_at_call 21; refine (start_any bf x Ff _ (HH.out _ (hb1.alloc hb1.size _))).mono ?_; rw [E2.out, E3.out]; rintro e w' ⟨rfl, rfl⟩))
    have hbW : Below w.heap.size w (w1.alloc (.cells #[.int .i64 0, .int .i64 0, .int .i64 0] 24)) := hb1.alloc hb1.size _
    have BW := HC.out _ hbW
    have FW := HH.out _ hbW.drew
    have q5 := Blk.new w1 [.int .i64 0, .int .i64 0, .int .i64 0] 24
    have c3 := BW.cell 3
    have c4 := BW.cell 4
    have c5 := BW.cell 5
    have q0 := q5.cell 0
    have q1 := q5.cell 1
    have q2 := q5.cell 2
    have hltW := BW.lt
    have hlt5 := q5.lt
    simp only [List.getElem?_cons_succ, List.getElem?_cons_zero] at c3 c4 c5 q0 q1 q2
    clear BW q5
    generalize (w1.alloc (.cells #[.int .i64 0, .int .i64 0, .int .i64 0] 24)) = W at *
    go_region_held3 (fun w' => w'.cell? ⟨bx, 3, none⟩ = some (.slice ao 0 cap) ∧ w'.cell? ⟨bx, 5, none⟩ = some (.int .u64 x.finish)) (exact ⟨c3, c5⟩)
      (first
        | (go_at_call 12; refine (len_any bf x Ff _ FW).mono ?_; rw [E4.out]; rintro e w' ⟨rfl, rfl⟩)
        | (go_at_call 22; refine (finish_any bf x Ff _ FW).mono ?_; rintro e w' ⟨rfl, rfl⟩))
    go_wp2
    go_ret
    exact ⟨rfl, hbW.drew⟩
  | cons p rest =>
    have e1 : x.head = p := by unfold FlS.head; rw [hl]
    have e2 : x.start0 = x.start := by unfold FlS.start0; rw [if_neg (by rw [hl]; simp)]
    have e3 : x.has = true := by unfold FlS.has; rw [hl]; rfl
    have hlen : x.l.length = rest.length + 1 := by rw [hl]; rfl
    obtain ⟨g, cap, hb, ho, hFb, hFg, hne, hFx, hcap, f0, f1, f2⟩ := h2.first hl
    have hlt := hb.lt
    have hlg : g < w.heap.size := hFx g hFg
    have E1 := Lib.hid e1
    have E2 := Lib.hid e2
    have E3 := Lib.hid e3
    have E4 := Lib.hid hlen
    have HC := Lib.hid fun w' (hbl : Below w.heap.size w w') => hb.below hbl
    have HG := Lib.hid fun w' (hbl : Below w.heap.size w w') => (show w'.cell? ⟨g, 0, none⟩ = some (.int .i64 p.flow) ∧ w'.cell? ⟨g, 1, none⟩ = some (.int .i64 p.len) ∧ w'.cell? ⟨g, 2, none⟩ = some (.int .i64 p.mark) from ⟨(hbl.cell (p := ⟨g, 0, none⟩) hlg).trans f0, (hbl.cell (p := ⟨g, 1, none⟩) hlg).trans f1, (hbl.cell (p := ⟨g, 2, none⟩) hlg).trans f2⟩)
    have i1 : (0 : Int) < ((rest.length + 1 : Nat) : Int) := by omega
    clear hl hb ho h1 e1 e2 e3 hlen h4 h5 f0 f1 f2
    go_enter Try.func17, Try.ntmps17
    go_wp2_with (first
      | (go_at_call 27; refine (head_any bf x Ff _ (HH.out _ (Below.refl _ _))).mono ?_; rw [E1.out, E3.out]; rintro e w1 ⟨rfl, hb1⟩; simp only [Pk.val])
      | (go_at_call 21; refine (start_any bf x Ff _ (HH.out _ (hb1.alloc hb1.size _))).mono ?_; rw [E2.out, E3.out]; rintro e w' ⟨rfl, rfl⟩))
    have hbW : Below w.heap.size w (w1.alloc (.cells #[.int .i64 p.flow, .int .i64 p.len, .int .i64 p.mark] 24)) := hb1.alloc hb1.size _
    have BW := HC.out _ hbW
    have FW := HH.out _ hbW.drew
    have q5 := Blk.new w1 [.int .i64 p.flow, .int .i64 p.len, .int .i64 p.mark] 24
    have c3 := BW.cell 3
    have c4 := BW.cell 4
    have c5 := BW.cell 5
    have q0 := q5.cell 0
    have q1 := q5.cell 1
    have q2 := q5.cell 2
    obtain ⟨g0, g1, g2⟩ := HG.out _ hbW
    have hltW := BW.lt
    have hlt5 := q5.lt
    simp only [List.getElem?_cons_succ, List.getElem?_cons_zero] at c3 c4 c5 q0 q1 q2
    clear BW q5
    generalize (w1.alloc (.cells #[.int .i64 p.flow, .int .i64 p.len, .int .i64 p.mark] 24)) = W at *
    go_region_held3 (fun w' => w'.cell? ⟨bx, 3, none⟩ = some (.slice (some ⟨g, 0, none⟩) (rest.length + 1) cap) ∧ w'.cell? ⟨bx, 5, none⟩ = some (.int .u64 x.finish)) (exact ⟨c3, c5⟩)
      (first
        | (go_at_call 12; refine (len_any bf x Ff _ FW).mono ?_; rw [E4.out]; rintro e w' ⟨rfl, rfl⟩)
        | (go_at_call 22; refine (finish_any bf x Ff _ FW).mono ?_; rintro e w' ⟨rfl, rfl⟩))
    go_wp2_with fail
    go_region_held3 (fun w' => w'.cell? ⟨bx, 3, none⟩ = some (.slice (some ⟨g, 0, none⟩) (rest.length + 1) cap) ∧ w'.cell? ⟨bx, 4, none⟩ = some (.int .u64 x.start) ∧ w'.cell? ⟨w1.heap.size, 0, none⟩ = some (.int .i64 p.flow) ∧ w'.cell? ⟨w1.heap.size, 1, none⟩ = some (.int .i64 p.len) ∧ w'.cell? ⟨w1.heap.size, 2, none⟩ = some (.int .i64 p.mark) ∧ w'.cell? ⟨g, 0, none⟩ = some (.int .i64 p.flow) ∧ w'.cell? ⟨g, 1, none⟩ = some (.int .i64 p.len) ∧ w'.cell? ⟨g, 2, none⟩ = some (.int .i64 p.mark)) (exact ⟨c3, c4, q0, q1, q2, g0, g1, g2⟩) (fail)
    go_wp2
    go_ret
    exact ⟨rfl, hbW.drew.drew⟩
end Go.Proofs.Ytgdfoibfmjkikaa
