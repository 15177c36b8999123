/- The law's own: some calls, in memory of their own. -/
import Derived.Test.YtonldjkmbapjeaaHist7
namespace Go.Proofs.Ytonldjkmbapjeaa
set_option linter.unusedVariables false
set_option linter.unusedSimpArgs false
open Go.RowKit Go.Proofs.YtonldjkmbapjeaaMem Go.Proofs.YtonldjkmbapjeaaFlat

theorem ED : ElT Try.prog 22 31 (.agg #[.int .i64 0, .int .i64 0, .int .i64 0, .int .i64 0, .int .i64 0, .int .i64 0, .int .i64 0, .slice none 0 0, .int .i64 0, .int .u64 0, .int .i64 0, .int .i64 0]) 12 := ⟨Try.underlying22, ⟨112, by kernel_rfl, by omega⟩, rfl, by omega⟩
theorem mapD_take_snoc (f : DoneS → DoneS) (l : List DoneS) {k : Nat} (h : k < l.length) : (l.take (k + 1)).map f = (l.take k).map f ++ [f (nthD l k)] := by
  rw [List.take_add_one, List.map_append, nthD_some h]; rfl
def someD (l : List DoneS) : List DoneS := (l.take 40).map nearD
theorem someD_length (l : List DoneS) : (someD l).length = min 40 l.length := by simp [someD]
/-- A call that hands back calls in memory of its own. -/
def RetD (w : World) (l : List DoneS) (en : Ending) (w' : World) : Prop := ∃ v, en = .returned v ∧ w'.ownsRow w.heap.size 31 12 v l.length (doneC l) ∧ Below w.heap.size w w'
/-- Calls that may be, whose packets read. -/
def GoodD (w : World) (l : List DoneS) : Prop := ∀ d ∈ l, d.Ok ∧ RdK w d.ao d.len d.cap d.l
theorem GoodD.below {w w' : World} {l : List DoneS} (h : GoodD w l) (hb : Below w.heap.size w w') : GoodD w' l := fun d hd => ⟨(h d hd).1, (h d hd).2.below hb⟩
theorem RdD.good {w : World} {ao : Option Addr} {n cap : Nat} {l : List DoneS} (h : RdD w ao n cap l) : GoodD w l := h.ok
theorem GoodD.some {w : World} {l : List DoneS} (h : GoodD w l) : GoodD w (someD l) := by
  intro d hd
  simp only [someD, List.mem_map] at hd
  obtain ⟨x, hx, rfl⟩ := hd
  obtain ⟨h1, h2⟩ := h x (List.mem_of_mem_take hx)
  obtain ⟨e1, e2, e3, e4⟩ := nearD_packets x
  exact ⟨nearD_ok h1, by rw [e1, e2, e3, e4]; exact h2⟩
theorem owns_rdD {w : World} {base : Nat} {ao : Option Addr} {n cap : Nat} {l : List DoneS} (h : w.ownsRow base 31 12 (.slice ao n cap) n (doneC l)) (hl : l.length = n) (hg : GoodD w l) : RdD w ao n cap l :=
  ⟨owns_rdS h (doneC_one l), hl, hg⟩

set_option maxHeartbeats 1000000 in
theorem some_any (ao : Option Addr) (n cap : Nat) (l : List DoneS) (w : World) (h : RdD w ao n cap l) :
    Calls Try.prog 10 #[.slice ao n cap] w (RetD w (someD l)) := by
  have s0 := h.rd.small
  have L0 := Lib.hid h.len
  go_enter Try.func10, Try.ntmps10
  go_wp2
  go_loopw [3, 4] (fun v i wr => ∃ k : Nat, k ≤ n ∧ k ≤ 40 ∧ i = .int .i64 k ∧ wr.ownsRow w.heap.size 31 12 v k (doneC ((l.take k).map nearD)) ∧ Below w.heap.size w wr) (fun _ i _ => n - (intOf i).toNat)
  case atStart => exact ⟨0, Nat.zero_le _, Nat.zero_le _, rfl, by simpa [doneC] using World.ownsRow_nil w _ _ _, Below.refl _ _⟩
  case round =>
    obtain ⟨k, hk, hkm, rfl, hown, hbr⟩ := hrel
    by_cases hl : k < n
    · by_cases hl2 : k < 40
      · obtain ⟨b, o, rfl, hlt, hc⟩ := h.cells hl
        obtain ⟨c0, c1, c2, c3, c4, c5, c6, c7, c8, c9, c10, c11⟩ := RdD.at12 (ao := none) (n := 0) (cap := 0) hc hbr
        have kn : (k : Int) < n := by omega
        have km : (k : Int) < 40 := by omega
        have S := Lib.hid (mapD_take_snoc nearD l (show k < l.length by rw [L0.out]; exact hl))
        go_wp2_with fail
        refine (near_any (nthD l k) _).mono ?_
        rintro e w2 ⟨rfl, hb2⟩
        have hown2 := owns_below (B := 0) hown hb2
        have hbase : w.heap.size ≤ w2.heap.size := Nat.le_trans hbr.size hb2.size
        have hn2 : k + 1 ≤ 1099511627776 := by omega
        go_wp2_with ((at_builtin; refine ap_new w2 _ ED rfl _ _ rfl w.heap.size _ k _ rfl hown2 hbase 1 rfl rfl (by simp [Value.oneCell']) hn2 ?_; intro v' w3 hown3 hg3 hb3 hfr3))
        go_roundw
        case rel => exact ⟨k + 1, by omega, by omega, by go_num, by rw [S.out, doneC_snoc]; exact hown3, (hbr.trans (hb2.mono hbr.size)).trans hb3⟩
        case measure => simp [intOf]; omega
      · obtain rfl : k = 40 := by omega
        have kn : (40 : Int) < n := by omega
        have E : Hid ((someD l).length = 40) := by unfold Hid; rw [someD_length, L0.out]; omega
        go_wp2
        go_ret
        exact ⟨_, rfl, by rw [E.out]; exact hown, hbr⟩
    · obtain rfl : k = n := by omega
      have E : Hid (someD l = (l.take k).map nearD) := by unfold Hid someD; rw [List.take_of_length_le (by rw [L0.out]; omega), List.take_of_length_le (by rw [L0.out]; omega)]
      have E2 : Hid ((someD l).length = k) := by unfold Hid; rw [someD_length, L0.out]; omega
      go_wp2
      go_ret
      exact ⟨_, rfl, by rw [E2.out, E.out]; exact hown, hbr⟩
end Go.Proofs.Ytonldjkmbapjeaa
