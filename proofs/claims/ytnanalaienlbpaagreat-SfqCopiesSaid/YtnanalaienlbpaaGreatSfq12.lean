/- A set of flows: the starts, in order. -/
import Derived.Test.YtnanalaienlbpaaGreatSrt
namespace Go.Proofs.YtnanalaienlbpaaGreat
set_option linter.unusedVariables false
set_option linter.unusedSimpArgs false
set_option maxRecDepth 20000
open Go.RowKit Go.Proofs.YtnanalaienlbpaaGreatMem Go.Proofs.YtnanalaienlbpaaGreatMapK

theorem EI : ElT Tryz.prog 40 39 (.agg #[.int .u64 0, .int .i64 0]) 2 := ⟨Tryz.underlying40, ⟨16, by kernel_rfl, by omega⟩, rfl, by omega⟩
def SfS.starts (s : SfS) : List (Int × Int) := sortE (entL s.fs)
theorem take_nthE (l : List (Int × Int)) {k : Nat} (h : k < l.length) : l.take (k + 1) = l.take k ++ [nthE l k] := by
  unfold nthE
  rw [List.take_add_one, List.getD_eq_getElem?_getD, List.getElem?_eq_getElem h]
  rfl
theorem entL_le (fs : List (Int × FlS)) : (entL fs).length ≤ fs.length := by
  unfold entL
  rw [List.length_map]
  exact List.length_filter_le _ _

set_option maxHeartbeats 1000000 in
theorem startsS_any (b : Nat) (s : SfS) (F : Nat → Prop) (w : World) (h : SfsAt w b s F) (hn : s.fs.length ≤ 1000000) :
    Calls Tryz.prog 9 #[.pointer (some ⟨b, 0, none⟩)] w fun e w' => ∃ v, e = .returned v ∧ w'.ownsRow w.heap.size 39 2 v s.starts.length (entC s.starts) ∧ Below w.heap.size w w' := by
  go_enter Tryz.func9, Tryz.ntmps9
  go_wp2_with fail
  refine (entries_any b s F w h hn).mono ?_
  rintro e w1 ⟨v, es, rfl, hp, hown, hb1⟩
  have hes : es.length ≤ 1000000 := by rw [hp.length_eq]; exact Nat.le_trans (entL_le _) hn
  have hs : sortE es = s.starts := sortE_congr hp
  have hlt1 := hown.lt
  go_wp2_with fail
  refine (sortE_any _ v es w1 hown hes).mono ?_
  rintro e w2 ⟨rfl, hown2, hg2⟩
  rw [hs] at hown2
  have hL : s.starts.length = es.length := by rw [← hs, sortE_length]
  obtain ⟨a, c, rfl⟩ := owns_slice hown2
  have hb2 : Below w.heap.size w w2 := hb1.grown hg2 hb1.size fun k hk => (hlt1 k hk).1
  generalize hLs : s.starts = L at *
  have HLS := Lib.hid hLs
  clear hLs
  have hrd := owns_rdS hown2 (entC_one L)
  have hsz := hb2.size
  have HL := Lib.hid hL
  have HB := Lib.hid hb2
  generalize hnn : es.length = n at *
  clear hown hown2 hp hs hg2 hb1 hb2 h hlt1 hL hnn
  go_wp2_with fail
  go_loopw [4, 6, 13] (fun v4 _ v13 wr => ∃ k : Nat, k ≤ n ∧ v13 = .int .i64 k ∧ wr.ownsRow w2.heap.size 39 2 v4 k (entC (L.take k)) ∧ Below w2.heap.size w2 wr) (fun _ _ v13 _ => n - (intOf v13).toNat)
  case atStart => exact ⟨0, Nat.zero_le _, rfl, owns_nil _ _ _ _, Below.refl _ _⟩
  case round =>
    obtain ⟨k, hk, rfl, hown, hbr⟩ := hrel
    have hszr := hbr.size
    by_cases hl : k < n
    · have i1 : (k : Int) < (n : Int) := by omega
      obtain ⟨b0, o0, rfl, hlt0, hc0⟩ := rds_ent hrd HL.out hl
      obtain ⟨n0, n1⟩ := hc0 _ hbr
      have HE := Lib.hid (take_nthE L (by rw [HL.out]; exact hl))
      have hown' := hown.alloc (.cells #[.int .u64 (nthE L k).1, .int .i64 (nthE L k).2] 63)
      have hbx := hbr.alloc hszr (.cells #[.int .u64 (nthE L k).1, .int .i64 (nthE L k).2] 63)
      have Bx := Blk.new wr [.int .u64 (nthE L k).1, .int .i64 (nthE L k).2] 63
      have x0 := Bx.cell 0
      have x1 := Bx.cell 1
      simp only [List.getElem?_cons_succ, List.getElem?_cons_zero] at x0 x1
      have hszx := hbx.size
      have hn2 : k + 1 ≤ 1099511627776 := by omega
      clear hc0 hown
      go_upto_region 7 with fail
      generalize hWX : wr.alloc (.cells #[.int .u64 (nthE L k).1, .int .i64 (nthE L k).2] 63) = wx at *
      clear hWX
      go_wp2_with ((at_builtin; refine ap_new wx #[.int .u64 (nthE L k).1, .int .i64 (nthE L k).2] EI rfl _ _ rfl w2.heap.size _ k _ rfl hown' hszx 1 rfl rfl (one2 _ _) hn2 ?_; intro v' w3 hown3 hg3 hb3 hfr3))
      go_roundw
      case rel =>
        refine ⟨k + 1, by omega, by go_num, ?_, hbx.trans hb3⟩
        rw [HE.out, entC_append]
        simpa [entC] using hown3
      case measure => simp [intOf]; omega
    · obtain rfl : k = n := by omega
      have hT : L.take k = L := List.take_of_length_le (by rw [HL.out]; exact Nat.le_refl _)
      rw [hT] at hown
      go_wp2
      go_ret
      exact ⟨_, rfl, by rw [HLS.out, HL.out]; exact owns_base hown hsz, HB.out.trans (hbr.mono hsz)⟩
end Go.Proofs.YtnanalaienlbpaaGreat
