/- HistMost: of calls that may be no more are under way at once than there are workers; and just one, if of any two one is ahead. -/
import Derived.Test.YtonldjkmbapjeaaHist12
import Derived.Test.YtonldjkmbapjeaaLaid3
import Derived.Deep.RegionWith
namespace Go.Proofs.Ytonldjkmbapjeaa
set_option linter.unusedVariables false
set_option linter.unusedSimpArgs false
open Go.RowKit Go.Proofs.YtonldjkmbapjeaaMem Go.Proofs.YtonldjkmbapjeaaFlat

/-- The first k calls: of any two the one is ahead of the other. -/
def lineB (l : List DoneS) (i : Nat) : Nat → Bool
  | 0 => true
  | k + 1 => lineB l i k && (aheadB (nthD l i) (nthD l k) || aheadB (nthD l k) (nthD l i))
def lineA (l : List DoneS) : Nat → Bool
  | 0 => true
  | i + 1 => lineA l i && lineB l i i
theorem lineB_iff (l : List DoneS) (i : Nat) : ∀ k, lineB l i k = true ↔ ∀ j, j < k → aheadB (nthD l i) (nthD l j) = true ∨ aheadB (nthD l j) (nthD l i) = true := by
  intro k
  induction k with
  | zero => simp [lineB]
  | succ k ih =>
    simp only [lineB, Bool.and_eq_true, Bool.or_eq_true, ih]
    refine ⟨fun ⟨h1, h2⟩ j hj => ?_, fun h => ⟨fun j hj => h j (by omega), h k (by omega)⟩⟩
    by_cases e : j = k
    · subst e; exact h2
    · exact h1 j (by omega)
theorem lineA_iff (l : List DoneS) : ∀ n, lineA l n = true ↔ ∀ i, i < n → ∀ k, k < i → aheadB (nthD l i) (nthD l k) = true ∨ aheadB (nthD l k) (nthD l i) = true := by
  intro n
  induction n with
  | zero => simp [lineA]
  | succ n ih =>
    simp only [lineA, Bool.and_eq_true, ih, lineB_iff]
    refine ⟨fun ⟨h1, h2⟩ j hj => ?_, fun h => ⟨fun j hj => h j (by omega), h n (by omega)⟩⟩
    by_cases e : j = n
    · subst e; exact h2
    · exact h1 j (by omega)
theorem cnt4_le (f : Nat → Bool) : cnt4 f ≤ 4 := by
  have key : ∀ b, b2n b ≤ 1 := by intro b; unfold b2n; split <;> omega
  have := key (f 0); have := key (f 1); have := key (f 2); have := key (f 3)
  unfold cnt4; omega

set_option maxRecDepth 20000 in
set_option maxHeartbeats 4000000 in
theorem HistMost_1 (ao : Option Addr) (n0 cap : Nat) (l : List DoneS) (w : World) (h : RdD w ao n0 cap l) (hok : ∀ d ∈ laidD l, d.Ok ∧ RdK w d.ao d.len d.cap d.l) :
    Calls Try.prog 8 #[.slice ao n0 cap] w fun e w' => e = .returned (.bool true) ∧ Below w.heap.size w w' := by
  have hl40 := laidD_length l
  have hmay := laid_may l
  have hwho := laid_who l
  go_enter Try.func8, Try.ntmps8
  go_wp2_with fail
  refine (laid_any ao n0 cap l _ h).mono ?_
  rintro e w1 ⟨v, rfl, hown, hb1⟩
  obtain ⟨pa, pc, rfl⟩ := owns_slice hown
  have r1 := owns_rdD hown rfl (fun d hd => ⟨(hok d hd).1, (hok d hd).2.below hb1⟩)
  generalize laidD l = L at *
  have hw4 : ∀ k, k < L.length → (nthD L k).who.toNat < 4 ∧ (nthD L k).who = ((nthD L k).who.toNat : Int) := by
    intro k hk
    obtain ⟨q, h1, h2⟩ := hwho (nthD L k) (by rw [nthD_eq hk]; exact List.getElem_mem _)
    omega
  have M1 := Lib.hid (most_who hmay fun k hk => (hw4 k hk).1)
  have M2 := Lib.hid (most_zero hmay)
  have M3 := Lib.hid (fun h0 => most_line hmay h0)
  have HW4 := Lib.hid hw4
  obtain ⟨n, hn⟩ : ∃ n, L.length = n := ⟨_, rfl⟩
  rw [hn] at r1 hl40 ⊢
  have L0 := Lib.hid hn
  clear hw4 hn hown h hok hwho hmay
  go_upto_region 3 with fail
  have hB0 : Blk (w1.alloc (.cells #[.bool false, .bool false, .bool false, .bool false] 46)) w1.heap.size (arrB fun _ => false) 46 := Blk.new w1 (arrB fun _ => false) 46
  have R1 := Lib.hid r1
  have B2 := below1 w1 (.cells #[.bool false, .bool false, .bool false, .bool false] 46)
  generalize w1.alloc (.cells #[.bool false, .bool false, .bool false, .bool false] 46) = W at *
  obtain ⟨O, hO⟩ : ∃ O, O = w1.heap.size := ⟨_, rfl⟩
  rw [← hO] at hB0 ⊢
  have HO := Lib.hid hO
  have HB0 := Lib.hid hB0
  have HB1 := Lib.hid hb1
  clear r1 hb1 hB0 hO
  go_wp2_with fail
  go_loopw [5, 6, 7, 8] (fun v5 v6 v7 _ wr => ∃ i : Nat, i ≤ n ∧ v7 = .int .i64 i ∧ v5 = .int .i64 (cnt4 (whoF L i) : Nat) ∧ v6 = .bool (lineA L i) ∧ Blk wr O (arrB (whoF L i)) 46 ∧ Below w1.heap.size w1 wr) (fun _ _ v7 _ _ => n - (intOf v7).toNat)
  case atStart => exact ⟨0, Nat.zero_le _, rfl, rfl, rfl, HB0.out, B2⟩
  case round =>
    obtain ⟨i, hi, rfl, rfl, rfl, hB, hbr⟩ := hrel
    by_cases hl : i < n
    · obtain ⟨b, o, rfl, hlt, hc⟩ := R1.out.cells hl
      obtain ⟨c0, _, _, _, _, _, _, _, _, _, _, _⟩ := RdD.at12 (ao := none) (n := 0) (cap := 0) hc hbr
      have HC := Lib.hid hc
      obtain ⟨hq4, hqe⟩ := HW4.out i (by rw [L0.out]; exact hl)
      have F : Hid (whoF L (i + 1) = if (whoF L i (nthD L i).who.toNat) = true then whoF L i else updB (whoF L i) (nthD L i).who.toNat true) := rfl
      have FA : Hid (lineA L (i + 1) = (lineA L i && lineB L i i)) := rfl
      rw [hqe] at c0
      generalize (nthD L i).who.toNat = q at *
      have hc4 := cnt4_le (whoF L i)
      have HBL := Lib.hid hB
      have o0 : wr.cell? ⟨O, q, none⟩ = some (.bool (whoF L i q)) := (hB.cell q).trans (arrB_at _ hq4)
      have oL := hB.lt
      have fO := hB.frozen q
      have q4 : (q : Int) < 4 := by omega
      clear hqe hc hB
      go_upto_if 25 with fail
      go_cut [5] from 12 to 61 (fun s5 wx => s5 = .int .i64 (cnt4 (whoF L (i + 1)) : Nat) ∧ Blk wx O (arrB (whoF L (i + 1))) 46 ∧ Below w1.heap.size w1 wx)
      case first =>
        cases hf : whoF L i q
        · have E : Hid (whoF L (i + 1) = updB (whoF L i) q true) := by unfold Hid; rw [F.out, if_neg (by rw [hf]; simp)]
          have EC := Lib.hid (cnt4_upd hq4 hf)
          rw [hf] at o0
          clear hf
          generalize hcc : cnt4 (whoF L i) = C at *
          clear hcc
          have BS := Lib.hid (hbr.setCell (p := ⟨O, q, none⟩) (by rw [HO.out]; exact Nat.le_refl _) (.bool true))
          go_wp2
          go_meet
          exact ⟨by rw [E.out, EC.out]; go_num, by rw [E.out, ← arrB_set _ hq4]; exact HBL.out.set q _, BS.out⟩
        · have E : Hid (whoF L (i + 1) = whoF L i) := by unfold Hid; rw [F.out, if_pos hf]
          rw [hf] at o0
          clear hf
          go_wp2
          go_meet
          exact ⟨by rw [E.out], by rw [E.out]; exact HBL.out, hbr⟩
      case rest =>
        obtain ⟨rfl, hB, hb3⟩ := hcut
        have HBL2 := Lib.hid hB
        have HB3 := Lib.hid hb3
        clear hB hbr o0 oL fO c0
        obtain ⟨C, hC⟩ : ∃ C, cnt4 (whoF L (i + 1)) = C := ⟨_, rfl⟩
        obtain ⟨FW, hFW⟩ : ∃ FW, whoF L (i + 1) = FW := ⟨_, rfl⟩
        rw [hFW] at HBL2
        rw [hC]
        have HCC := Lib.hid hC
        have HFW := Lib.hid hFW
        clear hC hFW
        go_wp2_with fail
        go_loopw [6, 8] (fun v6 v8 wr => ∃ k : Nat, k ≤ i ∧ v8 = .int .i64 k ∧ v6 = .bool (lineA L i && lineB L i k) ∧ Blk wr O (arrB FW) 46 ∧ Below w1.heap.size w1 wr) (fun _ v8 _ => i - (intOf v8).toNat)
        case atStart => exact ⟨0, Nat.zero_le _, rfl, by simp [lineB], HBL2.out, HB3.out⟩
        case round =>
          obtain ⟨k, hk, rfl, rfl, hB, hbr⟩ := hrel
          by_cases hl2 : k < i
          · have FB : Hid (lineB L i (k + 1) = (lineB L i k && (aheadB (nthD L i) (nthD L k) || aheadB (nthD L k) (nthD L i)))) := rfl
            obtain ⟨b', o', e', _, hck⟩ := R1.out.cells (show k < n by omega)
            simp only [Option.some.injEq, Addr.mk.injEq, and_true] at e'
            obtain ⟨rfl, rfl⟩ := e'
            obtain ⟨a0, a1, a2, a3, a4, a5, a6, a7, a8, a9, a10, a11⟩ := RdD.at12 (ao := none) (n := 0) (cap := 0) HC.out hbr
            obtain ⟨b0, b1, b2, b3, b4, b5, b6, b7, b8, b9, b10, b11⟩ := RdD.at12 (ao := none) (n := 0) (cap := 0) hck hbr
            have bl : b < wr.heap.size := Nat.lt_of_lt_of_le hlt hbr.size
            have iN : (i : Int) < (n : Int) := by omega
            have kN : (k : Int) < (n : Int) := by omega
            have HB := Lib.hid hB
            have Q1 := Lib.hid (histAhead_any (nthD L i) (nthD L k))
            have Q2 := Lib.hid (histAhead_any (nthD L k) (nthD L i))
            clear hck hB
            cases hx : (lineA L i && lineB L i k)
            · have E : Hid ((lineA L i && lineB L i (k + 1)) = false) := by
                unfold Hid; rw [FB.out, ← Bool.and_assoc, hx]; rfl
              have HX := Lib.hid hx
              go_wp2_with fail
              go_region
              go_wp2
              go_roundw
              case rel => exact ⟨k + 1, by omega, by go_num, by rw [E.out], HB.out, hbr.drew⟩
              case measure => simp [intOf]; omega
            · cases h1 : aheadB (nthD L i) (nthD L k)
              · have E : Hid ((lineA L i && lineB L i (k + 1)) = aheadB (nthD L k) (nthD L i)) := by
                  unfold Hid; rw [FB.out, ← Bool.and_assoc, hx, h1]; rfl
                go_wp2_with fail
                go_region_held3 (fun w' => Below wr.heap.size wr w' ∧ (∀ b o, b < wr.heap.size → w'.cell? ⟨b, o, none⟩ = wr.cell? ⟨b, o, none⟩)) (first | exact hs_refl ((Below.refl _ _).drew) | assumption | exact hs_step (by assumption) (by assumption))
                  (first
                    | (go_at_call 18; (with_reducible refine (Q1.out _).mono ?_); rw [h1]; rintro e w' ⟨rfl, hb'⟩)
                    | (go_at_call 18; (with_reducible refine (Q2.out _).mono ?_); rintro e w' ⟨rfl, hb'⟩))
                have hS := ‹Below wr.heap.size wr _ ∧ _›.1
                go_wp2
                go_roundw
                case rel => exact ⟨k + 1, by omega, by go_num, by rw [E.out], HB.out.below hS, hbr.trans (hS.mono hbr.size)⟩
                case measure => simp [intOf]; omega
              · have E : Hid ((lineA L i && lineB L i (k + 1)) = true) := by
                  unfold Hid; rw [FB.out, ← Bool.and_assoc, hx, h1]; rfl
                go_wp2_with fail
                refine wp_region_held_drew (S := (fun w' => Below wr.heap.size wr w' ∧ (∀ b o, b < wr.heap.size → w'.cell? ⟨b, o, none⟩ = wr.cell? ⟨b, o, none⟩))) (by kernel_rfl) ?_ (fun hHeld => ?_)
                · exact hs_refl (Below.refl _ _).drew
                refine wpAnyH_take (i := 0) (v := ?_) rfl (by kernel_rfl) (by kernel_rfl) (by kernel_rfl) (fun _ _ _ h => h) (Or.inl ⟨by rfl, ?_⟩) (by assumption) ?_
                rotate_left
                · intro w hSw
                  (try dsimp only at hSw)
                  first | (go_simp; done) | (go_simp; with_reducible rfl)
                try simp only [List.getElem_toArray, List.getElem_cons_succ, List.getElem_cons_zero, Act.put, List.setIfInBounds_toArray, List.set_cons_zero, List.set_cons_succ]
                refine wpAnyH_take (i := 1) (v := ?_) rfl (by kernel_rfl) (by kernel_rfl) (by kernel_rfl) (fun _ _ _ h => h) (Or.inl ⟨by rfl, ?_⟩) (by assumption) ?_
                rotate_left
                · intro w hSw
                  (try dsimp only at hSw)
                  first | (go_simp; done) | (go_simp; with_reducible rfl)
                try simp only [List.getElem_toArray, List.getElem_cons_succ, List.getElem_cons_zero, Act.put, List.setIfInBounds_toArray, List.set_cons_zero, List.set_cons_succ]
                refine wpAnyH_take (i := 2) (v := ?_) rfl (by kernel_rfl) (by kernel_rfl) (by kernel_rfl) (fun _ _ _ h => h) (Or.inl ⟨by rfl, ?_⟩) (by assumption) ?_
                rotate_left
                · intro w hSw
                  (try dsimp only at hSw)
                  first | (go_simp; done) | (go_simp; with_reducible rfl)
                try simp only [List.getElem_toArray, List.getElem_cons_succ, List.getElem_cons_zero, Act.put, List.setIfInBounds_toArray, List.set_cons_zero, List.set_cons_succ]
                refine wpAnyH_take (i := 3) (v := ?_) rfl (by kernel_rfl) (by kernel_rfl) (by kernel_rfl) (fun _ _ _ h => h) (Or.inl ⟨by rfl, ?_⟩) (by assumption) ?_
                rotate_left
                · intro w hSw
                  (try dsimp only at hSw)
                  first | (go_simp; done) | (go_simp; with_reducible rfl)
                try simp only [List.getElem_toArray, List.getElem_cons_succ, List.getElem_cons_zero, Act.put, List.setIfInBounds_toArray, List.set_cons_zero, List.set_cons_succ]
                refine wpAnyH_take (i := 4) (v := ?_) rfl (by kernel_rfl) (by kernel_rfl) (by kernel_rfl) (fun _ _ _ h => h) (Or.inl ⟨by rfl, ?_⟩) (by assumption) ?_
                rotate_left
                · intro w hSw
                  (try dsimp only at hSw)
                  first | (go_simp; done) | (go_simp; with_reducible rfl)
                try simp only [List.getElem_toArray, List.getElem_cons_succ, List.getElem_cons_zero, Act.put, List.setIfInBounds_toArray, List.set_cons_zero, List.set_cons_succ]
                refine wpAnyH_take (i := 5) (v := ?_) rfl (by kernel_rfl) (by kernel_rfl) (by kernel_rfl) (fun _ _ _ h => h) (Or.inl ⟨by rfl, ?_⟩) (by assumption) ?_
                rotate_left
                · intro w hSw
                  (try dsimp only at hSw)
                  first | (go_simp; done) | (go_simp; with_reducible rfl)
                try simp only [List.getElem_toArray, List.getElem_cons_succ, List.getElem_cons_zero, Act.put, List.setIfInBounds_toArray, List.set_cons_zero, List.set_cons_succ]
                refine wpAnyH_take (i := 6) (v := ?_) rfl (by kernel_rfl) (by kernel_rfl) (by kernel_rfl) (fun _ _ _ h => h) (Or.inl ⟨by rfl, ?_⟩) (by assumption) ?_
                rotate_left
                · intro w hSw
                  (try dsimp only at hSw)
                  first | (go_simp; done) | (go_simp; with_reducible rfl)
                try simp only [List.getElem_toArray, List.getElem_cons_succ, List.getElem_cons_zero, Act.put, List.setIfInBounds_toArray, List.set_cons_zero, List.set_cons_succ]
                refine wpAnyH_take (i := 7) (v := ?_) rfl (by kernel_rfl) (by kernel_rfl) (by kernel_rfl) (fun _ _ _ h => h) (Or.inl ⟨by rfl, ?_⟩) (by assumption) ?_
                rotate_left
                · intro w hSw
                  (try dsimp only at hSw)
                  first | (go_simp; done) | (go_simp; with_reducible rfl)
                try simp only [List.getElem_toArray, List.getElem_cons_succ, List.getElem_cons_zero, Act.put, List.setIfInBounds_toArray, List.set_cons_zero, List.set_cons_succ]
                refine wpAnyH_take (i := 8) (v := ?_) rfl (by kernel_rfl) (by kernel_rfl) (by kernel_rfl) (fun _ _ _ h => h) (Or.inl ⟨by rfl, ?_⟩) (by assumption) ?_
                rotate_left
                · intro w hSw
                  (try dsimp only at hSw)
                  first | (go_simp; done) | (go_simp; with_reducible rfl)
                try simp only [List.getElem_toArray, List.getElem_cons_succ, List.getElem_cons_zero, Act.put, List.setIfInBounds_toArray, List.set_cons_zero, List.set_cons_succ]
                refine wpAnyH_take (i := 9) (v := ?_) rfl (by kernel_rfl) (by kernel_rfl) (by kernel_rfl) (fun _ _ _ h => h) (Or.inl ⟨by rfl, ?_⟩) (by assumption) ?_
                rotate_left
                · intro w hSw
                  (try dsimp only at hSw)
                  first | (go_simp; done) | (go_simp; with_reducible rfl)
                try simp only [List.getElem_toArray, List.getElem_cons_succ, List.getElem_cons_zero, Act.put, List.setIfInBounds_toArray, List.set_cons_zero, List.set_cons_succ]
                refine wpAnyH_ready (rs := [10]) (by kernel_rfl) (by simp) ?_
                refine AllReadyH.cons rfl (fun K hK => ?_) AllReadyH.nil
                go_simp
                (go_at_call 18; refine (Q1.out _).mono ?_; rw [h1]; rintro e w' ⟨rfl, hb'⟩; go_wp2_with fail)
                refine hK.out _ _ ?_ (fun hHeld => ?_)
                · exact hs_step hHeld hb'
                clear hK K
                try simp only [List.getElem_toArray, List.getElem_cons_succ, List.getElem_cons_zero, Act.put, List.setIfInBounds_toArray, List.set_cons_zero, List.set_cons_succ]
                refine wpAnyH_take (i := 11) (v := ?_) rfl (by kernel_rfl) (by kernel_rfl) (by kernel_rfl) (fun _ _ _ h => h) (Or.inl ⟨by rfl, ?_⟩) (by assumption) ?_
                rotate_left
                · intro w hSw
                  (try dsimp only at hSw)
                  first | (go_simp; done) | (go_simp; with_reducible rfl)
                try simp only [List.getElem_toArray, List.getElem_cons_succ, List.getElem_cons_zero, Act.put, List.setIfInBounds_toArray, List.set_cons_zero, List.set_cons_succ]
                refine wpAnyH_take (i := 12) (v := undef) rfl (by kernel_rfl) (by kernel_rfl) (by kernel_rfl) (fun _ _ _ h => h) (Or.inr ⟨by rfl, rfl⟩) (by assumption) ?_
                try simp only [List.getElem_toArray, List.getElem_cons_succ, List.getElem_cons_zero, Act.put, List.setIfInBounds_toArray, List.set_cons_zero, List.set_cons_succ]
                refine wpAnyH_take (i := 13) (v := undef) rfl (by kernel_rfl) (by kernel_rfl) (by kernel_rfl) (fun _ _ _ h => h) (Or.inr ⟨by rfl, rfl⟩) (by assumption) ?_
                try simp only [List.getElem_toArray, List.getElem_cons_succ, List.getElem_cons_zero, Act.put, List.setIfInBounds_toArray, List.set_cons_zero, List.set_cons_succ]
                refine wpAnyH_take (i := 14) (v := undef) rfl (by kernel_rfl) (by kernel_rfl) (by kernel_rfl) (fun _ _ _ h => h) (Or.inr ⟨by rfl, rfl⟩) (by assumption) ?_
                try simp only [List.getElem_toArray, List.getElem_cons_succ, List.getElem_cons_zero, Act.put, List.setIfInBounds_toArray, List.set_cons_zero, List.set_cons_succ]
                refine wpAnyH_take (i := 15) (v := undef) rfl (by kernel_rfl) (by kernel_rfl) (by kernel_rfl) (fun _ _ _ h => h) (Or.inr ⟨by rfl, rfl⟩) (by assumption) ?_
                try simp only [List.getElem_toArray, List.getElem_cons_succ, List.getElem_cons_zero, Act.put, List.setIfInBounds_toArray, List.set_cons_zero, List.set_cons_succ]
                refine wpAnyH_take (i := 16) (v := undef) rfl (by kernel_rfl) (by kernel_rfl) (by kernel_rfl) (fun _ _ _ h => h) (Or.inr ⟨by rfl, rfl⟩) (by assumption) ?_
                try simp only [List.getElem_toArray, List.getElem_cons_succ, List.getElem_cons_zero, Act.put, List.setIfInBounds_toArray, List.set_cons_zero, List.set_cons_succ]
                refine wpAnyH_take (i := 17) (v := undef) rfl (by kernel_rfl) (by kernel_rfl) (by kernel_rfl) (fun _ _ _ h => h) (Or.inr ⟨by rfl, rfl⟩) (by assumption) ?_
                try simp only [List.getElem_toArray, List.getElem_cons_succ, List.getElem_cons_zero, Act.put, List.setIfInBounds_toArray, List.set_cons_zero, List.set_cons_succ]
                refine wpAnyH_take (i := 18) (v := undef) rfl (by kernel_rfl) (by kernel_rfl) (by kernel_rfl) (fun _ _ _ h => h) (Or.inr ⟨by rfl, rfl⟩) (by assumption) ?_
                try simp only [List.getElem_toArray, List.getElem_cons_succ, List.getElem_cons_zero, Act.put, List.setIfInBounds_toArray, List.set_cons_zero, List.set_cons_succ]
                refine wpAnyH_take (i := 19) (v := undef) rfl (by kernel_rfl) (by kernel_rfl) (by kernel_rfl) (fun _ _ _ h => h) (Or.inr ⟨by rfl, rfl⟩) (by assumption) ?_
                try simp only [List.getElem_toArray, List.getElem_cons_succ, List.getElem_cons_zero, Act.put, List.setIfInBounds_toArray, List.set_cons_zero, List.set_cons_succ]
                refine wpAnyH_take (i := 20) (v := undef) rfl (by kernel_rfl) (by kernel_rfl) (by kernel_rfl) (fun _ _ _ h => h) (Or.inr ⟨by rfl, rfl⟩) (by assumption) ?_
                try simp only [List.getElem_toArray, List.getElem_cons_succ, List.getElem_cons_zero, Act.put, List.setIfInBounds_toArray, List.set_cons_zero, List.set_cons_succ]
                refine wpAnyH_take (i := 21) (v := ?_) rfl (by kernel_rfl) (by kernel_rfl) (by kernel_rfl) (fun _ _ _ h => h) (Or.inl ⟨by rfl, ?_⟩) (by assumption) ?_
                rotate_left
                · intro w hSw
                  (try dsimp only at hSw)
                  first | (go_simp; done) | (go_simp; with_reducible rfl)
                try simp only [List.getElem_toArray, List.getElem_cons_succ, List.getElem_cons_zero, Act.put, List.setIfInBounds_toArray, List.set_cons_zero, List.set_cons_succ]
                refine wpAnyH_take (i := 22) (v := ?_) rfl (by kernel_rfl) (by kernel_rfl) (by kernel_rfl) (fun _ _ _ h => h) (Or.inl ⟨by rfl, ?_⟩) (by assumption) ?_
                rotate_left
                · intro w hSw
                  (try dsimp only at hSw)
                  first | (go_simp; done) | (go_simp; with_reducible rfl)
                try simp only [List.getElem_toArray, List.getElem_cons_succ, List.getElem_cons_zero, Act.put, List.setIfInBounds_toArray, List.set_cons_zero, List.set_cons_succ]
                refine wpAnyH_take (i := 23) (v := ?_) rfl (by kernel_rfl) (by kernel_rfl) (by kernel_rfl) (fun _ _ _ h => h) (Or.inl ⟨by rfl, ?_⟩) (by assumption) ?_
                rotate_left
                · intro w hSw
                  (try dsimp only at hSw)
                  first | (go_simp; done) | (go_simp; with_reducible rfl)
                try simp only [List.getElem_toArray, List.getElem_cons_succ, List.getElem_cons_zero, Act.put, List.setIfInBounds_toArray, List.set_cons_zero, List.set_cons_succ]
                refine wpAnyH_done (by kernel_rfl) ?_ _
                have hS := hHeld.1
                go_wp2
                go_roundw
                case rel => exact ⟨k + 1, by omega, by go_num, by rw [E.out], HB.out.below hS, hbr.trans (hS.mono hbr.size)⟩
                case measure => simp [intOf]; omega
          · obtain rfl : k = i := by omega
            go_wp2
            go_roundw
            case rel => exact ⟨k + 1, by omega, by go_num, by rw [HCC.out], by rw [FA.out], by rw [HFW.out]; exact hB, hbr⟩
            case measure => simp [intOf]; omega
    · obtain rfl : i = n := by omega
      have hr := R1.out.below hbr
      have hla := lineA_iff L i
      have HLA := Lib.hid hla
      have hm1 := M1.out
      rw [L0.out] at hm1
      have hc4 := cnt4_le (whoF L i)
      have hm2 := M2.out
      have hm3 := M3.out
      rw [L0.out] at hm2 hm3
      have hl3 : 0 < i → (mostD L = 1 ↔ lineA L i = true) := fun h0 => (hm3 h0).trans (by rw [HLA.out]; unfold LineH; rw [L0.out])
      generalize cnt4 (whoF L i) = C at *
      generalize lineA L i = LN at *
      have Q5 := Lib.hid (histMost_any pa i pc L _ hr (by omega))
      generalize mostD L = M at *
      clear hm3 hla hB
      have H2 := Lib.hid hm2
      have H3 := Lib.hid hl3
      clear hm2 hl3
      go_wp2_with fail
      refine Q5.out.mono ?_
      rintro e w3 ⟨rfl, hb3⟩
      go_wp2_with fail
      refine (awake_any _).mono ?_
      rintro e w4 ⟨rfl, hb4⟩
      have hbb : Below w.heap.size w w4 := below_step HB1.out (below_step hbr (below_step hb3 hb4))
      have i1 : (M : Int) ≤ (C : Int) := by omega
      rcases Nat.eq_zero_or_pos i with h0 | h0
      · subst h0
        have hM : M = 0 := H2.out.2 rfl
        subst hM
        go_wp2
        go_ret
        exact ⟨rfl, hbb⟩
      · have hM : M ≠ 0 := fun e => by have := H2.out.1 e; omega
        have e1 : ((i : Int) == 0) = false := by simp; omega
        have e2 : ((M : Int) == 0) = false := by simp; omega
        cases LN
        · have e3 : ((M : Int) == 1) = false := by
            have := (H3.out h0)
            simp at this ⊢
            omega
          go_wp2
          go_ret
          exact ⟨rfl, hbb⟩
        · have e3 : ((M : Int) == 1) = true := by
            have := (H3.out h0).2 rfl
            simp; omega
          go_wp2
          go_ret
          exact ⟨rfl, hbb⟩

theorem HistMost_any (w : World) (ao : Option Addr) (len cap : Nat) (L : List (List Value)) (h : IsNest w doneK ao len cap L) :
    Calls Try.prog 8 #[.slice ao len cap] w fun e w' => e = .returned (.bool true) ∧ Below w.heap.size w w' := by
  obtain ⟨l, hl⟩ := isNest_rdD h
  exact HistMost_1 ao len cap l w hl (laid_good hl.good)
end Go.Proofs.Ytonldjkmbapjeaa
