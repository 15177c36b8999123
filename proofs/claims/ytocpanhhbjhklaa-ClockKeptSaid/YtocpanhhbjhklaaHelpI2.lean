/- weighbridgehelp at slices of numbers, next: a copy with spare room in which there is something; what is written over; whether it is as it was. -/
import Derived.Test.YtocpanhhbjhklaaHelpI
import Derived.OwnWalk
namespace Go.Proofs.Ytocpanhhbjhklaa
set_option linter.unusedVariables false
set_option linter.unusedSimpArgs false
open Go.RowKit Go.Proofs.YtocpanhhbjhklaaMem

theorem EIh : ElT Try.prog 22 3 (.int .i64 0) 1 := ⟨Try.underlying22, ⟨8, by kernel_rfl, by omega⟩, rfl, by omega⟩

/-- A copy, in a block of its own, three more behind it. -/
def OwnedI (w : World) (g n : Nat) (zs : List Int) (f : Int) : Prop := zs.length = n ∧ w.ownsRow 0 3 1 (.slice (some ⟨g, 0, none⟩) (n + 3) (n + 3)) (n + 3) (ints (zs ++ [f, f, f]))
def OwnPostI (w : World) (n : Nat) (zs : List Int) (f : Int) (en : Ending) (w' : World) : Prop := ∃ g, en = .returned (.slice (some ⟨g, 0, none⟩) n (n + 3)) ∧ w.heap.size ≤ g ∧ g < w'.heap.size ∧ OwnedI w' g n zs f ∧ Below w.heap.size w w'

theorem row_of {w : World} {g m cap n : Nat} {xs : List Value} {base : Nat} {e : TypeId} (h : w.ownsRow base e 1 (.slice (some ⟨g, 0, none⟩) m cap) m xs) (hn : n ≤ m) (base' : Nat) (hb : base' ≤ g) : w.ownsRow base' e 1 (.slice (some ⟨g, 0, none⟩) n cap) n (xs.take n) := by
  have hl := h.1
  rcases h.2 with ⟨hv, _⟩ | ⟨g', cap', cur, hv, _, hh, hnc, hm, hs, ht⟩
  · simp at hv
  · simp only [Value.slice.injEq, Option.some.injEq, Addr.mk.injEq, and_true, true_and] at hv
    obtain ⟨rfl, rfl⟩ := hv
    refine ⟨by simp [hl]; omega, .inr ⟨g, cap, cur, rfl, hb, hh, by omega, hm, hs, ?_⟩⟩
    rw [← ht, List.take_take]; congr 1; omega

theorem ints_set' (zs : List Int) (k : Nat) (x : Int) : (ints zs).set k (.int .i64 x) = ints (zs.set k x) := by simp [ints, List.map_set]
theorem grown_both {w w1 w2 : World} {r : Option Nat} (h : w.grownBy w1 r) (h' : w1.grownBy w2 r) : w.grownBy w2 r :=
  ⟨h'.os.trans h.os, h'.tape.trans h.tape, h'.output.trans h.output, Nat.le_trans h.size h'.size, fun k hk hne => (h'.block k (Nat.lt_of_lt_of_le hk h.size) hne).trans (h.block k hk hne)⟩
theorem own_src {w w1 : World} {ao : Option Addr} {xs : List Value} (h : ∀ j u, xs[j]? = some u → ∃ b off, ao = some ⟨b, off, none⟩ ∧ b < w.heap.size ∧ w.cell? ⟨b, off + j, none⟩ = some u) (hb : Below w.heap.size w w1) :
    ∀ ad, ao = some ad → ∀ j u, xs[j]? = some u → w1.cell? (ad.add j) = some u := fun ad he j u hu => by
  obtain ⟨b, off, e, hlt, hcc⟩ := h j u hu
  rw [he] at e; cases e
  have e1 : ((⟨b, off, none⟩ : Addr).add j) = ⟨b, off + j, none⟩ := by unfold Addr.add; split <;> simp_all
  rw [e1]; exact (hb.cell (p := ⟨b, off + j, none⟩) hlt).trans hcc

set_option maxHeartbeats 1000000 in
theorem ownI_any (ao : Option Addr) (n cap : Nat) (zs : List Int) (f : Int) (w : World) (h : RdI w ao n cap zs) (hn : n ≤ 549755813888) :
    Calls Try.prog 23 #[.slice ao n cap, .int .i64 f] w (OwnPostI w n zs f) := by
  have hnone := h.nil
  have hl : (ints zs).length = n * 1 := by rw [ints_length, h.len]; omega
  have hc : ∀ j u, (ints zs)[j]? = some u → ∃ b off, ao = some ⟨b, off, none⟩ ∧ b < w.heap.size ∧ w.cell? ⟨b, off + j, none⟩ = some u := by
    intro j u hu
    have hj : j < zs.length := by rw [← ints_length]; exact (List.getElem?_eq_some_iff.1 hu).1
    obtain ⟨b, off, e, hlt, hc⟩ := h.at_ j (by rw [← h.len]; exact hj)
    refine ⟨b, off, e, hlt, hc.trans ?_⟩
    rw [← hu, nth_eq hj]; simp [ints, hj]
  have h1 : ∀ u ∈ ints zs, u.oneCell' = true := by
    intro u hu
    simp only [ints, List.mem_map] at hu
    obtain ⟨z, _, rfl⟩ := hu
    rfl
  have HN := Lib.hid hnone
  have HC := Lib.hid hc
  have H1 := Lib.hid h1
  have HL := Lib.hid hl
  have HZ := Lib.hid h.len
  clear hc h1 hl hnone
  obtain ⟨bytes, hi, hb⟩ := EIh.info
  obtain ⟨i0, hi, hz0, hz1, hz2⟩ := info_parts hi
  have hb8 : i0.bytes * (n + 3) ≤ 281474976710656 := by rw [hz2]; exact Nat.le_trans (Nat.mul_le_mul hb (show n + 3 ≤ 1099511627776 by omega)) (by omega)
  have HB8 := Lib.hid hb8
  have HI := Lib.hid hi
  have HZ0 := Lib.hid hz0
  have HZ1 := Lib.hid hz1
  have hm : n + 3 ≤ maxLen := by unfold maxLen; omega
  have hC : ((n : Int) + 3) = ((n + 3 : Nat) : Int) := by omega
  have HCC := Lib.hid hC
  clear hi hz0 hz1 hz2 hb8 hC
  go_enter Try.func23, Try.ntmps23
  have hroom : 0 + n ≤ n + 3 := by omega
  have hbase0 : w.heap.size ≤ w.heap.size := Nat.le_refl _
  go_wp2_with (first
    | (refine wpList_make_own w rfl _ _ 22 rfl w.heap.size 3 i0 (.int .i64 0) 1 Try.underlying22 HI.out HZ0.out HZ1.out .i64 .i64 ((n : Int) + 3) (n + 3) rfl rfl HCC.out HB8.out hm hbase0 ?_; intro w1 hown1 hg1; have hb1 : Below w.heap.size w w1 := (Below.refl _ _).grown hg1 hbase0 (fun k hk => by cases hk); have hlt1 : w.heap.size < w1.heap.size := (hown1.lt _ rfl).2; have HC1 := Lib.hid (own_src HC.out hb1))
    | (refine wpList_append_fits_any w1 rfl _ _ 22 rfl w.heap.size 3 i0 1 Try.underlying22 HI.out HZ1.out w.heap.size 0 (n + 3) [] rfl hown1 ao n cap (ints zs) rfl HL.out HN.out HC1.out H1.out hroom ?_; intro w2 hown2 hg2; rw [Nat.zero_add] at hown2; have hb2 : Below w.heap.size w w2 := hb1.grown hg2 hb1.size (fun k hk => by cases hk; exact Nat.le_refl _); have hlt2 : w.heap.size < w2.heap.size := (hown2.lt _ rfl).2; simp only [List.nil_append] at hown2; simp only [Nat.zero_add]))
  have HH := Lib.hid hown2
  clear hown1 hg1 hb1 hlt1 HC1 hg2
  go_loopw [7] (fun i wr => ∃ k : Nat, k ≤ 3 ∧ i = .int .i64 (n + k : Nat) ∧ wr.ownsRow w.heap.size 3 1 (.slice (some ⟨w.heap.size, 0, none⟩) (n + k) (n + 3)) (n + k) (ints (zs ++ List.replicate k f)) ∧ Below w.heap.size w wr) (fun i _ => n + 3 - (intOf i).toNat)
  case atStart => exact ⟨0, by omega, rfl, by simpa using hown2, hb2⟩
  case round =>
    obtain ⟨k, hk, rfl, hownr, hbr⟩ := hrel
    clear hown2 HH
    by_cases hl : k < 3
    · obtain ⟨u, hu⟩ := owns_spare hownr (j := n + k) (by omega)
      have hfz := hownr.frozenAt (n + k)
      have hltr : w.heap.size < wr.heap.size := (hownr.lt _ rfl).2
      have hnk : (0 : Int) ≤ (n : Int) + k := by omega
      have hp := owns_push hownr (by omega) (.int .i64 f)
      have HP := Lib.hid hp
      clear hp
      go_wp2
      go_roundw
      case rel => exact ⟨k + 1, by omega, by go_num, by rw [List.replicate_succ', ← List.append_assoc, ints_append]; exact HP.out, hbr.setCell (Nat.le_refl _) _⟩
      case measure => simp [intOf]; omega
    · have hk3 : k = 3 := by omega
      subst hk3
      go_wp2
      go_ret
      exact ⟨w.heap.size, rfl, Nat.le_refl _, (hownr.lt _ rfl).2, ⟨HZ.out, owns_base (by simpa [List.replicate] using hownr) (Nat.zero_le _)⟩, hbr⟩

theorem OwnedI.below {w w' : World} {g n : Nat} {zs : List Int} {f : Int} (h : OwnedI w g n zs f) (hb : Below w.heap.size w w') : OwnedI w' g n zs f := ⟨h.1, owns_below (B := 0) h.2 hb⟩
theorem OwnedI.grown {w w' : World} {g n : Nat} {zs : List Int} {f : Int} {r : Option Nat} (h : OwnedI w g n zs f) (hg : w.grownBy w' r) (hne : r ≠ some g) : OwnedI w' g n zs f :=
  ⟨h.1, owns_grown h.2 hg fun k hk => by cases hk; exact hne⟩
theorem OwnedI.owns {w : World} {g n : Nat} {zs : List Int} {f : Int} (h : OwnedI w g n zs f) : w.ownsRow g 3 1 (.slice (some ⟨g, 0, none⟩) n (n + 3)) n (ints zs) := by
  have h1 := row_of h.2 (n := n) (by omega) g (Nat.le_refl _)
  have e : (ints (zs ++ [f, f, f])).take n = ints zs := by
    rw [ints_append]; exact List.take_left' (by rw [ints_length]; exact h.1)
  rw [e] at h1; exact h1
theorem OwnedI.rd {w : World} {g n : Nat} {zs : List Int} {f : Int} (h : OwnedI w g n zs f) (hf : ∀ z ∈ zs, I64 z) : RdI w (some ⟨g, 0, none⟩) n (n + 3) zs := owns_rdI h.owns hf

/-- What is written over is one row alone. -/
def SpoilPost (w : World) (v : Value) (en : Ending) (w' : World) : Prop := en = .returned (.tuple #[]) ∧ w.grownBy w' v.ownBlock
set_option maxHeartbeats 400000 in
theorem spoilI_any (v : Value) (n base : Nat) (zs : List Int) (w : World) (h : w.ownsRow base 3 1 v n (ints zs)) :
    Calls Try.prog 24 #[v] w (SpoilPost w v) := by
  obtain ⟨ao, cap, rfl⟩ := owns_slice h
  have hcap := owns_cap h
  have hn : n ≤ 9223372036854775807 := by have h1 := hcap.2.1; have h2 := hcap.2.2.1; unfold maxLen at h2; omega
  clear hcap
  go_enter Try.func24, Try.ntmps24
  go_wp2
  go_loopw [3] (fun i wr => ∃ k : Nat, k ≤ n ∧ i = .int .i64 k ∧ (∃ ys : List Int, wr.ownsRow base 3 1 (.slice ao n cap) n (ints ys)) ∧ w.grownBy wr (Value.slice ao n cap).ownBlock) (fun i _ => n - (intOf i).toNat)
  case atStart => exact ⟨0, Nat.zero_le _, rfl, ⟨zs, h⟩, ⟨rfl, rfl, rfl, Nat.le_refl _, fun _ _ _ => rfl⟩⟩
  case round =>
    obtain ⟨k, hk, rfl, ⟨ys, hownr⟩, hgr⟩ := hrel
    clear h
    by_cases hl : k < n
    · obtain ⟨g, cap', hv, hg, hglt⟩ := hownr.form (by omega)
      simp only [Value.slice.injEq] at hv
      obtain ⟨rfl, _, rfl⟩ := hv
      obtain ⟨u, hu⟩ := owns_spare hownr (j := k) (by have := (owns_cap hownr).2.1; omega)
      have hfz := hownr.frozenAt k
      have hp := hownr.stored k (.int .i64 0)
      have HP := Lib.hid hp
      have HG := Lib.hid hgr
      clear hp hgr
      go_wp2
      go_roundw
      case rel => exact ⟨k + 1, by omega, by go_num, ⟨ys.set k 0, by rw [← ints_set']; exact HP.out.1⟩, grown_both HG.out HP.out.2⟩
      case measure => simp [intOf]; omega
    · have hg2 := Lib.hid hgr
      clear hgr
      go_wp2
      go_end0
      exact ⟨rfl, hg2.out⟩

set_option maxHeartbeats 1000000 in
theorem keptI_any (g n : Nat) (ao : Option Addr) (cap : Nat) (zs : List Int) (f : Int) (w : World) (ho : OwnedI w g n zs f) (h : RdI w ao n cap zs) (hn : n ≤ 549755813888) :
    Calls Try.prog 25 #[.slice (some ⟨g, 0, none⟩) n (n + 3), .slice ao n cap, .int .i64 f] w fun e w' => e = .returned (.bool true) ∧ Below w.heap.size w w' := by
  have rd := ho.rd h.fits
  have hq := eqI_same zs
  have hcapI : ((n : Int) + 3) ≤ ((n + 3 : Nat) : Int) := by omega
  go_enter Try.func25, Try.ntmps25
  go_wp2_with (go_at_call 14; refine (plainI_any _ _ _ _ _ _ _ _ _ rd h).mono ?_; rintro e w1 ⟨rfl, hb⟩)
  have hown := (ho.below hb).2
  have hlen := (ho.below hb).1
  have HL := Lib.hid hlen
  clear rd h ho hlen
  go_loop [8] (fun i => ∃ k : Nat, k ≤ 3 ∧ i = .int .i64 (n + k : Nat)) (fun i => n + 3 - (intOf i).toNat)
  case atStart => exact ⟨0, by omega, rfl⟩
  case round =>
    obtain ⟨k, hk, rfl⟩ := hrel
    by_cases hl : k < 3
    · have hc : w1.cell? ⟨g, n + k, none⟩ = some (.int .i64 f) := by
        rw [hown.cellAt (n + k) (by omega)]
        simp only [ints, List.map_append, List.map_cons, List.map_nil]
        rw [List.getElem?_append_right (by simp [HL.out])]
        have e1 : n + k - (zs.map (Value.int .i64)).length = k := by simp [HL.out]
        rw [e1]
        have : k = 0 ∨ k = 1 ∨ k = 2 := by omega
        rcases this with rfl | rfl | rfl <;> rfl
      have hnk : (0 : Int) ≤ (n : Int) + k := by omega
      have e1 : (f != f) = false := by simp
      go_wp2
      go_round
      case rel => exact ⟨k + 1, by omega, by go_num⟩
      case measure => simp [intOf]; omega
    · have hk3 : k = 3 := by omega
      subst hk3
      go_wp2
      go_ret
      exact ⟨rfl, hb⟩
end Go.Proofs.Ytocpanhhbjhklaa
