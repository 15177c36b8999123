/- weighbridgehelp at events: two lists held against each other; a copy with spare room; whether it was kept. -/
import Derived.Test.YtkhhjjjpbfnlmaaRaceN
import Derived.Test.YtkhhjjjpbfnlmaaMemR
import Derived.Test.YtkhhjjjpbfnlmaaHelpI2
namespace Go.Proofs.Ytkhhjjjpbfnlmaa
set_option linter.unusedVariables false
set_option linter.unusedSimpArgs false
open Go.RowKit Go.Proofs.YtkhhjjjpbfnlmaaMem Go.Proofs.YtkhhjjjpbfnlmaaFlat Go.Proofs.YtkhhjjjpbfnlmaaMapK

set_option maxHeartbeats 400000 in
theorem plainE1_any (p : EvS) (w : World) :
    Calls Try.prog 58 #[.agg #[.int .i64 p.who, .int .i64 p.kind, .int .i64 p.loc.kind, .int .i64 p.loc.a, .int .i64 p.loc.b], .agg #[.int .i64 p.who, .int .i64 p.kind, .int .i64 p.loc.kind, .int .i64 p.loc.a, .int .i64 p.loc.b]] w fun e w' => e = .returned (.bool true) ∧ Below w.heap.size w w' := by
  go_enter Try.func58, Try.ntmps58
  go_wp2
  go_ret
  exact ⟨rfl, below2 _ _ _⟩

set_option maxHeartbeats 1000000 in
theorem sameE_any (a0 a1 : Option Addr) (n c0 c1 : Nat) (l : List EvS) (w : World) (h0 : RdE w a0 n c0 l) (h1 : RdE w a1 n c1 l) :
    Calls Try.prog 57 #[.slice a0 n c0, .slice a1 n c1, .func (.func 58) #[] #[]] w fun e w' => e = .returned (.bool true) ∧ Below w.heap.size w w' := by
  have s0 := h0.rd.small
  have hb : ((n : Int) != (n : Int)) = false := by simp
  go_enter Try.func57, Try.ntmps57
  go_wp2
  go_loopw [7] (fun i wr => ∃ k : Nat, k ≤ n ∧ i = .int .i64 k ∧ Below w.heap.size w wr) (fun i _ => n - (intOf i).toNat)
  case atStart => exact ⟨0, Nat.zero_le _, rfl, Below.refl _ _⟩
  case round =>
    obtain ⟨k, hk, rfl, hbr⟩ := hrel
    by_cases hl : k < n
    · obtain ⟨b0, o0, rfl, hlt0, hc0⟩ := h0.cells hl
      obtain ⟨b1, o1, rfl, hlt1, hc1⟩ := h1.cells hl
      obtain ⟨x0, x1, x2, x3, x4⟩ := hc0 wr hbr
      obtain ⟨y0, y1, y2, y3, y4⟩ := hc1 wr hbr
      clear hc0 hc1
      have l0 : b0 < wr.heap.size := Nat.lt_of_lt_of_le hlt0 hbr.size
      have l1 : b1 < wr.heap.size := Nat.lt_of_lt_of_le hlt1 hbr.size
      have i1 : (k : Int) < (n : Int) := by omega
      go_wp2_with fail
      go_region_held3 (fun w' => Below wr.heap.size wr w' ∧ (∀ b o, b < wr.heap.size → w'.cell? ⟨b, o, none⟩ = wr.cell? ⟨b, o, none⟩)) (first | exact hs_refl ((Below.refl _ _).drew) | assumption | exact hs_step (by assumption) (by assumption))
        (first | (go_at_call 58; (with_reducible refine (plainE1_any (nthE l k) _).mono ?_); rintro e w' ⟨rfl, hb'⟩))
      go_wp2
      go_roundw
      case rel => exact ⟨k + 1, by omega, by go_num, hbr.trans ((‹Below wr.heap.size wr _ ∧ _›).1.mono hbr.size)⟩
      case measure => simp [intOf]; omega
    · have i1 : (n : Int) ≤ (k : Int) := by omega
      go_wp2
      go_ret
      exact ⟨rfl, hbr⟩

set_option maxHeartbeats 400000 in
theorem plainE_any (a0 a1 : Option Addr) (n c0 c1 : Nat) (l : List EvS) (w : World) (h0 : RdE w a0 n c0 l) (h1 : RdE w a1 n c1 l) :
    Calls Try.prog 51 #[.slice a0 n c0, .slice a1 n c1] w fun e w' => e = .returned (.bool true) ∧ Below w.heap.size w w' := by
  go_enter Try.func51, Try.ntmps51
  go_wp2_with fail
  refine (sameE_any a0 a1 n c0 c1 l _ h0 h1).mono ?_
  rintro e w1 ⟨rfl, hb⟩
  go_wp2
  go_ret
  exact ⟨rfl, hb⟩

/-- A copy, in a block of its own, three more behind it. -/
def OwnedE (w : World) (g n : Nat) (l : List EvS) (f : EvS) : Prop := l.length = n ∧ w.ownsRow 0 36 5 (.slice (some ⟨g, 0, none⟩) (n + 3) (n + 3)) (n + 3) (evs (l ++ [f, f, f]))
def OwnPostE (w : World) (n : Nat) (l : List EvS) (f : EvS) (en : Ending) (w' : World) : Prop := ∃ g, en = .returned (.slice (some ⟨g, 0, none⟩) n (n + 3)) ∧ w.heap.size ≤ g ∧ g < w'.heap.size ∧ OwnedE w' g n l f ∧ Below w.heap.size w w'

set_option maxHeartbeats 1000000 in
theorem ownE_any (ao : Option Addr) (n cap : Nat) (l : List EvS) (f : EvS) (w : World) (h : RdE w ao n cap l) (hn : n ≤ 1000) :
    Calls Try.prog 26 #[.slice ao n cap, .agg #[.int .i64 f.who, .int .i64 f.kind, .int .i64 f.loc.kind, .int .i64 f.loc.a, .int .i64 f.loc.b]] w (OwnPostE w n l f) := by
  have HN := Lib.hid h.rd.nil
  have HL : Hid ((evs l).length = n * 5) := h.rd.len
  have HC := Lib.hid h.rd.at_
  have H1 := Lib.hid (evs_one l)
  have HZ := Lib.hid h.len
  obtain ⟨bytes, hi, hb⟩ := EE.info
  obtain ⟨i0, hi, hz0, hz1, hz2⟩ := info_parts hi
  have hb8 : i0.bytes * (n + 3) ≤ 281474976710656 := by rw [hz2]; exact Nat.le_trans (Nat.mul_le_mul hb (show n + 3 ≤ 1003 by omega)) (by omega)
  have HB8 := Lib.hid hb8
  have HI := Lib.hid hi
  have HZ0 := Lib.hid hz0
  have HZ1 := Lib.hid hz1
  have hm : n + 3 ≤ maxLen := by unfold maxLen; omega
  have hC : ((n : Int) + 3) = ((n + 3 : Nat) : Int) := by omega
  have HCC := Lib.hid hC
  clear hi hz0 hz1 hz2 hb8 hC h
  go_enter Try.func26, Try.ntmps26
  have hroom : 0 + n ≤ n + 3 := by omega
  go_upto_region 1 with fail
  obtain ⟨W0, hW0⟩ : ∃ W0, W0 = w.alloc (.cells #[.int .i64 f.who, .int .i64 f.kind, .int .i64 f.loc.kind, .int .i64 f.loc.a, .int .i64 f.loc.b] 36) := ⟨_, rfl⟩
  have hbW : Below w.heap.size w W0 := by rw [hW0]; exact below1 _ _
  have hbx : ∀ w' : World, Below W0.heap.size W0 w' → w'.heap[w.heap.size]? = some (.cells #[.int .i64 f.who, .int .i64 f.kind, .int .i64 f.loc.kind, .int .i64 f.loc.a, .int .i64 f.loc.b] 36 (0, 0)) := fun w' hb => (hb.block _ (by rw [hW0]; simp)).trans (by rw [hW0]; exact heap_alloc_new _ _)
  have HBX := Lib.hid hbx
  have hCW : ∀ j u, (evs l)[j]? = some u → ∃ b off, ao = some ⟨b, off, none⟩ ∧ b < W0.heap.size ∧ W0.cell? ⟨b, off + j, none⟩ = some u := by
    intro j u hu
    obtain ⟨b, off, e, hlt, hc⟩ := HC.out j u hu
    exact ⟨b, off, e, Nat.lt_of_lt_of_le hlt hbW.size, (hbW.cell (p := ⟨b, off + j, none⟩) hlt).trans hc⟩
  have HCW := Lib.hid hCW
  rw [← hW0]
  clear hW0 hbx hCW HC
  generalize hBx : w.heap.size = B at *
  have hbase0 : W0.heap.size ≤ W0.heap.size := Nat.le_refl _
  go_wp2_with (first
    | (refine wpList_make_own W0 rfl _ _ 22 rfl W0.heap.size 36 i0 (.agg #[.int .i64 0, .int .i64 0, .int .i64 0, .int .i64 0, .int .i64 0]) 5 Try.underlying22 HI.out HZ0.out HZ1.out .i64 .i64 ((n : Int) + 3) (n + 3) rfl rfl HCC.out HB8.out hm hbase0 ?_; intro w1 hown1 hg1; have hb1 : Below W0.heap.size W0 w1 := (Below.refl _ _).grown hg1 hbase0 (fun k hk => by cases hk); have hlt1 : W0.heap.size < w1.heap.size := (hown1.lt _ rfl).2; have HC1 := Lib.hid (own_src HCW.out hb1))
    | (refine wpList_append_fits_any w1 rfl _ _ 22 rfl W0.heap.size 36 i0 5 Try.underlying22 HI.out HZ1.out W0.heap.size 0 (n + 3) [] rfl hown1 ao n cap (evs l) rfl HL.out HN.out HC1.out H1.out hroom ?_; intro w2 hown2 hg2; rw [Nat.zero_add] at hown2; have hb2 : Below W0.heap.size W0 w2 := hb1.grown hg2 hb1.size (fun k hk => by cases hk; exact Nat.le_refl _); have hlt2 : W0.heap.size < w2.heap.size := (hown2.lt _ rfl).2; simp only [List.nil_append] at hown2; simp only [Nat.zero_add]))
  have HH := Lib.hid hown2
  clear hown1 hg1 hb1 hlt1 HC1 hg2
  generalize hG : W0.heap.size = G at *
  go_loopw [7] (fun i wr => ∃ k : Nat, k ≤ 3 ∧ i = .int .i64 (n + k : Nat) ∧ wr.ownsRow G 36 5 (.slice (some ⟨G, 0, none⟩) (n + k) (n + 3)) (n + k) (evs (l ++ List.replicate k f)) ∧ Below G W0 wr) (fun i _ => n + 3 - (intOf i).toNat)
  case atStart => exact ⟨0, by omega, rfl, by simpa using hown2, hb2⟩
  case round =>
    obtain ⟨k, hk, rfl, hownr, hbr⟩ := hrel
    clear hown2 HH
    by_cases hl : k < 3
    · have hlt5 : (n + k) * 5 + 4 < (n + 3) * 5 := by omega
      obtain ⟨u0, hu0⟩ := owns_spare hownr (j := (n + k) * 5) (by omega)
      obtain ⟨u1, hu1⟩ := owns_spare hownr (j := (n + k) * 5 + 1) (by omega)
      obtain ⟨u2, hu2⟩ := owns_spare hownr (j := (n + k) * 5 + 2) (by omega)
      obtain ⟨u3, hu3⟩ := owns_spare hownr (j := (n + k) * 5 + 3) (by omega)
      obtain ⟨u4, hu4⟩ := owns_spare hownr (j := (n + k) * 5 + 4) (by omega)
      have z0 := hownr.frozenAt ((n + k) * 5)
      have z1 := hownr.frozenAt ((n + k) * 5 + 1)
      have z2 := hownr.frozenAt ((n + k) * 5 + 2)
      have z3 := hownr.frozenAt ((n + k) * 5 + 3)
      have z4 := hownr.frozenAt ((n + k) * 5 + 4)
      obtain ⟨x0, x1, x2, x3, x4, _, _⟩ := box_cells (HBX.out wr hbr)
      have hltr : G < wr.heap.size := (hownr.lt _ rfl).2
      have hnk : (0 : Int) ≤ (n : Int) + k := by omega
      have hp := owns_pushR hownr (by omega) (us := f.cells) rfl
      have HP := Lib.hid hp
      clear hp
      go_wp2
      go_roundw
      case rel =>
        refine ⟨k + 1, by omega, by go_num, ?_, ((((hbr.setCell (p := ⟨G, (n + k) * 5, none⟩) (Nat.le_refl _) _).setCell (p := ⟨G, (n + k) * 5 + 1, none⟩) (Nat.le_refl _) _).setCell (p := ⟨G, (n + k) * 5 + 2, none⟩) (Nat.le_refl _) _).setCell (p := ⟨G, (n + k) * 5 + 3, none⟩) (Nat.le_refl _) _).setCell (p := ⟨G, (n + k) * 5 + 4, none⟩) (Nat.le_refl _) _⟩
        rw [List.replicate_succ', ← List.append_assoc, evs_snoc]
        exact HP.out
      case measure => simp [intOf]; omega
    · have hk3 : k = 3 := by omega
      subst hk3
      go_wp2
      go_ret
      exact ⟨G, rfl, by rw [← hG]; rw [← hBx] at hbW; exact hbW.size, (hownr.lt _ rfl).2, ⟨HZ.out, owns_base (by simpa [List.replicate] using hownr) (Nat.zero_le _)⟩, by rw [← hBx] at hbW; rw [← hG] at hbr; exact below_step hbW hbr⟩

theorem OwnedE.below {w w' : World} {g n : Nat} {l : List EvS} {f : EvS} (h : OwnedE w g n l f) (hb : Below w.heap.size w w') : OwnedE w' g n l f := ⟨h.1, owns_below (B := 0) h.2 hb⟩
theorem OwnedE.grown {w w' : World} {g n : Nat} {l : List EvS} {f : EvS} {r : Option Nat} (h : OwnedE w g n l f) (hg : w.grownBy w' r) (hne : r ≠ some g) : OwnedE w' g n l f :=
  ⟨h.1, owns_grown h.2 hg fun k hk => by cases hk; exact hne⟩
theorem row_ofS {w : World} {g m cap n s : Nat} {xs : List Value} {base : Nat} {e : TypeId} (h : w.ownsRow base e s (.slice (some ⟨g, 0, none⟩) m cap) m xs) (hn : n ≤ m) (base' : Nat) (hb : base' ≤ g) : w.ownsRow base' e s (.slice (some ⟨g, 0, none⟩) n cap) n (xs.take (n * s)) := by
  have hl := h.1
  have hle : n * s ≤ m * s := Nat.mul_le_mul_right s hn
  rcases h.2 with ⟨hv, _⟩ | ⟨g', cap', cur, hv, _, hh, hnc, hm, hs, ht⟩
  · simp at hv
  · simp only [Value.slice.injEq, Option.some.injEq, Addr.mk.injEq, and_true, true_and] at hv
    obtain ⟨rfl, rfl⟩ := hv
    refine ⟨by rw [List.length_take, hl]; omega, .inr ⟨g, cap, cur, rfl, hb, hh, by omega, hm, hs, ?_⟩⟩
    rw [← ht, List.take_take, Nat.min_eq_left hle]
theorem OwnedE.rd {w : World} {g n : Nat} {l : List EvS} {f : EvS} (h : OwnedE w g n l f) (hf : ∀ e ∈ l, e.Ok) : RdE w (some ⟨g, 0, none⟩) n (n + 3) l := by
  have h1 := row_ofS h.2 (n := n) (by omega) g (Nat.le_refl _)
  have e : (evs (l ++ [f, f, f])).take (n * 5) = evs l := by
    rw [evs_append]; exact List.take_left' (by rw [evs_length, h.1])
  rw [e] at h1
  exact owns_rdE h1 hf

set_option maxHeartbeats 1000000 in
theorem keptE_any (g n : Nat) (ao : Option Addr) (cap : Nat) (l : List EvS) (f : EvS) (w : World) (ho : OwnedE w g n l f) (h : RdE w ao n cap l) (hn : n ≤ 1000) :
    Calls Try.prog 29 #[.slice (some ⟨g, 0, none⟩) n (n + 3), .slice ao n cap, .agg #[.int .i64 f.who, .int .i64 f.kind, .int .i64 f.loc.kind, .int .i64 f.loc.a, .int .i64 f.loc.b]] w fun e w' => e = .returned (.bool true) ∧ Below w.heap.size w w' := by
  have rd := ho.rd h.ok
  have hcapI : ((n : Int) + 3) ≤ ((n + 3 : Nat) : Int) := by omega
  go_enter Try.func29, Try.ntmps29
  go_upto_region 1 with fail
  obtain ⟨W0, hW0⟩ : ∃ W0, W0 = w.alloc (.cells #[.int .i64 f.who, .int .i64 f.kind, .int .i64 f.loc.kind, .int .i64 f.loc.a, .int .i64 f.loc.b] 36) := ⟨_, rfl⟩
  have hbW : Below w.heap.size w W0 := by rw [hW0]; exact below1 _ _
  have hbx : ∀ w' : World, Below W0.heap.size W0 w' → w'.heap[w.heap.size]? = some (.cells #[.int .i64 f.who, .int .i64 f.kind, .int .i64 f.loc.kind, .int .i64 f.loc.a, .int .i64 f.loc.b] 36 (0, 0)) := fun w' hb => (hb.block _ (by rw [hW0]; simp)).trans (by rw [hW0]; exact heap_alloc_new _ _)
  have HBX := Lib.hid hbx
  rw [← hW0]
  clear hW0 hbx
  have rd0 := rd.below hbW
  have h0 := h.below hbW
  have ho0 := ho.below hbW
  clear rd h ho
  go_wp2_with fail
  refine (plainE_any _ _ _ _ _ l _ rd0 h0).mono ?_
  rintro e w1 ⟨rfl, hb⟩
  have hown := (ho0.below hb).2
  have hlen := (ho0.below hb).1
  have HL := Lib.hid hlen
  have B1 : Below w.heap.size w w1 := below_step hbW hb
  have hbx1 := HBX.out w1 hb
  clear rd0 h0 ho0 hlen hb hbW HBX
  generalize hBB : w.heap.size = B at *
  go_wp2_with fail
  go_loopw [8] (fun i wr => ∃ k : Nat, k ≤ 3 ∧ i = .int .i64 (n + k : Nat) ∧ Below w1.heap.size w1 wr) (fun i _ => n + 3 - (intOf i).toNat)
  case atStart => exact ⟨0, by omega, rfl, Below.refl _ _⟩
  case round =>
    obtain ⟨k, hk, rfl, hbr2⟩ := hrel
    by_cases hl : k < 3
    · have hownr := owns_below (B := 0) hown hbr2
      have hxr : wr.heap[B]? = _ := (hbr2.block B (Array.getElem?_eq_some_iff.1 hbx1).1).trans hbx1
      obtain ⟨x0, x1, x2, x3, x4, _, _⟩ := box_cells hxr
      have hcell : ∀ i, i < 5 → wr.cell? ⟨g, (n + k) * 5 + i, none⟩ = f.cells[i]? := by
        intro i hi
        have hat : (evs (l ++ [f, f, f]))[(n + k) * 5 + i]? = f.cells[i]? := by
          have hk' : (l ++ [f, f, f])[n + k]? = some f := by
            rw [List.getElem?_append_right (by rw [HL.out]; omega), HL.out]
            have : n + k - n = k := by omega
            rw [this]
            rcases (show k = 0 ∨ k = 1 ∨ k = 2 by omega) with rfl | rfl | rfl <;> rfl
          have hsome : ∃ u, f.cells[i]? = some u := ⟨f.cells[i]'(by rw [ev_cells]; exact hi), by simp [ev_cells, hi]⟩
          obtain ⟨u, hu⟩ := hsome
          rw [hu]
          exact recs_at ev_cells _ _ _ hk' i u hu
        rw [← hat]
        have hlt : (n + k) * 5 + i < (evs (l ++ [f, f, f])).length := by rw [evs_length]; simp [HL.out]; omega
        obtain ⟨g', e', _, _, hc⟩ := owns_at hownr (List.getElem?_eq_getElem hlt)
        cases e'
        rw [Nat.zero_add] at hc
        rw [hc, List.getElem?_eq_getElem hlt]
      have y0 := hcell 0 (by omega)
      have y1 := hcell 1 (by omega)
      have y2 := hcell 2 (by omega)
      have y3 := hcell 3 (by omega)
      have y4 := hcell 4 (by omega)
      simp only [EvS.cells, List.getElem?_cons_succ, List.getElem?_cons_zero, Nat.add_zero] at y0 y1 y2 y3 y4
      clear hcell
      have hnk : (0 : Int) ≤ (n : Int) + k := by omega
      go_wp2_with fail
      go_region
      go_wp2
      go_roundw
      case rel => exact ⟨k + 1, by omega, by go_num, hbr2.drew⟩
      case measure => simp [intOf]; omega
    · have hk3 : k = 3 := by omega
      subst hk3
      go_wp2
      go_ret
      exact ⟨rfl, by rw [hBB]; exact B1.trans (hbr2.mono (by have := B1.size; omega))⟩
end Go.Proofs.Ytkhhjjjpbfnlmaa
