/- Parts of calls: the program. -/
import Derived.Test.YtonldjkmbapjeaaHist9
namespace Go.Proofs.Ytonldjkmbapjeaa
set_option linter.unusedVariables false
set_option linter.unusedSimpArgs false
open Go.RowKit Go.Proofs.YtonldjkmbapjeaaMem Go.Proofs.YtonldjkmbapjeaaFlat

theorem own_heap {w : World} {base : Nat} {e : TypeId} {size : Nat} {v : Value} {n : Nat} {xs : List Value} (h : w.ownsRow base e size v n xs) {k : Nat} (hk : v.ownBlock = some k) : ∃ cur, w.heap[k]? = some (.cells cur e (0, 0)) := by
  rcases h.2 with ⟨rfl, _⟩ | ⟨g, cap, cur, rfl, _, hh, _⟩
  · cases hk
  · cases hk; exact ⟨cur, hh⟩
theorem tag_ne {w : World} {b1 b2 : Nat} {e1 e2 : TypeId} {s1 s2 n1 n2 : Nat} {v1 v2 : Value} {xs ys : List Value} (h1 : w.ownsRow b1 e1 s1 v1 n1 xs) (h2 : w.ownsRow b2 e2 s2 v2 n2 ys) (hne : e1 ≠ e2) : ∀ k, v2.ownBlock = some k → v1.ownBlock ≠ some k := by
  intro k h3 h4
  obtain ⟨c1, e⟩ := own_heap h1 h4
  obtain ⟨c2, e'⟩ := own_heap h2 h3
  rw [e] at e'
  simp only [Option.some.injEq, Obj.cells.injEq] at e'
  exact hne e'.2.1

/-- Calls in memory of their own, and their packets too. -/
def OwnDs (w : World) (base : Nat) (v : Value) (l : List DoneS) : Prop := w.ownsRow base 31 12 v l.length (doneC l) ∧ ∀ d ∈ l, OwnK w base d
theorem OwnDs.below {w w' : World} {base : Nat} {v : Value} {l : List DoneS} (h : OwnDs w base v l) (hb : Below w.heap.size w w') : OwnDs w' base v l := ⟨owns_below (B := 0) h.1 hb, fun d hd => (h.2 d hd).below hb⟩
theorem OwnDs.nil (w : World) (base : Nat) : OwnDs w base (.slice none 0 0) [] := ⟨World.ownsRow_nil _ _ _ _, fun d hd => by cases hd⟩
theorem OwnDs.push {w w' : World} {base n : Nat} {v v' : Value} {l : List DoneS} {y : DoneS} (h : OwnDs w base v l) (hy : OwnK w base y) (hn : l.length = n)
    (ho : w'.ownsRow base 31 12 v' (n + 1) (doneC l ++ y.cells)) (hg : w.grownBy w' v.ownBlock) : OwnDs w' base v' (l ++ [y]) := by
  subst hn
  have hne : 31 ≠ 49 := by decide
  have key : ∀ d, OwnK w base d → OwnK w' base d := fun d hd => ⟨owns_grown hd.1 hg (tag_ne h.1 hd.1 hne), hd.2⟩
  refine ⟨by rw [doneC_snoc]; simpa using ho, fun d hd => ?_⟩
  rcases List.mem_append.1 hd with hd | hd
  · exact key d (h.2 d hd)
  · rw [List.mem_singleton] at hd; subst hd; exact key _ hy
theorem OwnDs.rd {w : World} {base : Nat} {ao : Option Addr} {n cap : Nat} {l : List DoneS} (h : OwnDs w base (.slice ao n cap) l) : RdD w ao n cap l := by
  have hl : l.length = n := (owns_cap h.1).1
  subst hl
  exact ⟨owns_rdS h.1 (doneC_one l), rfl, fun d hd => (h.2 d hd).rd⟩
theorem OwnDs.slice {w : World} {base : Nat} {v : Value} {l : List DoneS} (h : OwnDs w base v l) : ∃ ao cap, v = .slice ao l.length cap := owns_slice h.1
/-- A call that hands back calls in memory of their own. -/
def RetDs (w : World) (X : List DoneS) (e : Ending) (w' : World) : Prop := ∃ v l, e = .returned v ∧ l.map DoneS.bare = X ∧ OwnDs w' w.heap.size v l ∧ Below w.heap.size w w'

/-! ### What the parts are -/
def isBat (d : DoneS) : Bool := decide (d.op = 5) && (endedB d && (decide (d.e = 0) || decide (d.e = 10)))
def packD (d : DoneS) (l : List PkS) : List DoneS := l.map fun p => oneD d 0 0 0 none 0 0 [p]
def emptyD (d : DoneS) : List DoneS := if d.e = 10 then [oneD d 10 0 0 none 0 0 []] else []
def partD (d : DoneS) : List DoneS := if isBat d = true then packD d d.l ++ emptyD d else [d.bare]
def partsD (l : List DoneS) : List DoneS := l.flatMap partD
theorem packD_snoc (d : DoneS) (l : List PkS) (p : PkS) : packD d (l ++ [p]) = packD d l ++ [oneD d 0 0 0 none 0 0 [p]] := by simp [packD]
theorem partsD_snoc {l : List DoneS} {k : Nat} (h : k < l.length) : partsD (l.take (k + 1)) = partsD (l.take k) ++ partD (nthD l k) := by
  unfold partsD
  rw [List.take_add_one, List.flatMap_append, nthD_some h]; simp
theorem partD_length (d : DoneS) : (partD d).length ≤ d.l.length + 1 := by
  unfold partD
  split
  · simp only [List.length_append, packD, List.length_map]
    unfold emptyD; split <;> simp
  · simp
theorem partsD_length {m : Nat} : ∀ (l : List DoneS), (∀ d ∈ l, d.l.length ≤ m) → (partsD l).length ≤ l.length * (m + 1)
  | [], _ => by simp [partsD]
  | d :: l, h => by
    have h1 := partsD_length l fun x hx => h x (List.mem_cons_of_mem _ hx)
    have h2 := partD_length d
    have h3 := h d (List.mem_cons_self ..)
    have e : partsD (d :: l) = partD d ++ partsD l := by simp [partsD]
    rw [e, List.length_append, List.length_cons, Nat.succ_mul]
    omega

def PkS.zero : PkS := ⟨0, 0, 0⟩
def nthK (l : List PkS) (k : Nat) : PkS := l.getD k PkS.zero
theorem nthK_eq {l : List PkS} {k : Nat} (h : k < l.length) : nthK l k = l[k] := by simp [nthK, h]
theorem nthK_some {l : List PkS} {k : Nat} (h : k < l.length) : l[k]? = some (nthK l k) := by rw [nthK_eq h]; simp [h]
theorem takeK_snoc {l : List PkS} {k : Nat} (h : k < l.length) : l.take (k + 1) = l.take k ++ [nthK l k] := by
  rw [List.take_add_one, nthK_some h]; rfl
theorem RdK.cells {w : World} {ao : Option Addr} {n cap : Nat} {l : List PkS} (h : RdK w ao n cap l) {k : Nat} (hk : k < n) :
    ∃ b off, ao = some ⟨b, off, none⟩ ∧ b < w.heap.size ∧ ∀ w', Below w.heap.size w w' → w'.cell? ⟨b, off + k * 3, none⟩ = some (.int .i64 (nthK l k).flow) ∧ w'.cell? ⟨b, off + k * 3 + 1, none⟩ = some (.int .i64 (nthK l k).len) ∧ w'.cell? ⟨b, off + k * 3 + 2, none⟩ = some (.int .i64 (nthK l k).mark) := by
  obtain ⟨b, off, e, hlt, hc⟩ := rds_rec pkS_cells (by omega) h.rd (nthK_some (by rw [h.len]; exact hk))
  exact ⟨b, off, e, hlt, fun w' hb => ⟨hc w' hb 0 _ rfl, hc w' hb 1 _ rfl, hc w' hb 2 _ rfl⟩⟩
theorem RdK.ok_nth {w : World} {ao : Option Addr} {n cap : Nat} {l : List PkS} (h : RdK w ao n cap l) {k : Nat} (hk : k < n) : (nthK l k).Ok := by
  rw [nthK_eq (by rw [h.len]; exact hk)]; exact h.ok _ (List.getElem_mem _)
theorem oneD_bare (d : DoneS) (e n v : Int) (ao : Option Addr) (len cap : Nat) (l : List PkS) : (oneD d e n v ao len cap l).bare = oneD d e n v none 0 0 l := rfl
/-- A packet laid in a block of its own. -/
theorem one_ownK (w : World) (d : DoneS) (p : PkS) (hd : d.Ok) (hp : p.Ok) : OwnK (w.alloc (.cells #[.int .i64 p.flow, .int .i64 p.len, .int .i64 p.mark] 49)) w.heap.size (oneD d 0 0 0 (some ⟨w.heap.size, 0, none⟩) 1 1 [p]) := by
  have h := World.ownsRow_lit (e := 49) (size := 3) (base := w.heap.size) w #[.int .i64 p.flow, .int .i64 p.len, .int .i64 p.mark] 1 (Nat.le_refl _) (by unfold maxLen; omega) (by simp)
  exact ⟨by simpa [pkC, PkS.cells, oneD] using h, oneD_ok hd (by unfold I64; omega), fun q hq => by simp [oneD] at hq; subst hq; exact hp⟩
theorem empty_ownK (w : World) (base : Nat) (d : DoneS) (hd : d.Ok) : OwnK w base (oneD d 10 0 0 none 0 0 []) :=
  ⟨by simpa [pkC, oneD] using World.ownsRow_nil w base 49 3, oneD_ok hd (by unfold I64; omega), fun q hq => by simp [oneD] at hq⟩

set_option maxRecDepth 20000 in
set_option maxHeartbeats 2000000 in
theorem histParts_any (ao : Option Addr) (n cap : Nat) (l : List DoneS) (w : World) (h : RdD w ao n cap l) (hn : n ≤ 1000) (hm : ∀ d ∈ l, d.len ≤ 1048576) :
    Calls Try.prog 24 #[.slice ao n cap] w (RetDs w (partsD l)) := by
  have L0 := Lib.hid h.len
  have s0 := h.rd.small
  have hlp : ∀ i, i ≤ n → (partsD (l.take i)).length ≤ 1048577000 := by
    intro i hi
    have := partsD_length (m := 1048576) (l.take i) fun d hd => by have h1 := hm d (List.mem_of_mem_take hd); have h2 := (h.ok d (List.mem_of_mem_take hd)).2.len; omega
    have h3 : (l.take i).length ≤ n := by rw [List.length_take, h.len]; omega
    exact Nat.le_trans this (Nat.le_trans (Nat.mul_le_mul (Nat.le_trans h3 hn) (Nat.le_refl _)) (by decide))
  have HLP := Lib.hid hlp
  have HM := Lib.hid hm
  clear hlp hm
  go_enter Try.func24, Try.ntmps24
  go_wp2
  go_loopw [3, 5, 7, 10, 44] (fun v3 _ _ v10 _ wr => ∃ (i : Nat) (l' : List DoneS), i ≤ n ∧ v10 = .int .i64 i ∧ l'.map DoneS.bare = partsD (l.take i) ∧ OwnDs wr w.heap.size v3 l' ∧ Below w.heap.size w wr) (fun _ _ _ v10 _ _ => n - (intOf v10).toNat)
  case atStart => exact ⟨0, [], Nat.zero_le _, rfl, rfl, OwnDs.nil _ _, Below.refl _ _⟩
  case round =>
    obtain ⟨i, l', hi, rfl, hmap, hown, hbr⟩ := hrel
    have HMAP := Lib.hid hmap
    have hlen' : l'.length ≤ 1048577000 := by have := HLP.out i hi; rw [← hmap, List.length_map] at this; exact this
    clear hmap
    by_cases hl : i < n
    · have hS := Lib.hid (partsD_snoc (l := l) (k := i) (by rw [L0.out]; exact hl))
      obtain ⟨hok, hrk⟩ := h.nth hl
      have hml : (nthD l i).len ≤ 1048576 := HM.out _ (by rw [nthD_eq (by rw [L0.out]; exact hl)]; exact List.getElem_mem _)
      have HOK := Lib.hid hok
      obtain ⟨b, o, rfl, hlt, hc⟩ := h.cells hl
      obtain ⟨c0, c1, c2, c3, c4, c5, c6, c7, c8, c9, c10, c11⟩ := RdD.at12 (ao := none) (n := 0) (cap := 0) hc hbr
      have hLl : (nthD l i).l.length = (nthD l i).len := hrk.len
      have HLL := Lib.hid hLl
      have HRK := Lib.hid hrk
      clear hrk hok hLl
      generalize nthD l i = d at *
      go_upto_region 5 with fail
      have hA := one_boxD wr d 31
      have hbW := below1 wr (.cells #[.int .i64 d.who, .int .i64 d.place, .int .i64 d.op, .int .i64 d.fl, .int .i64 d.a, .int .i64 d.b, .int .i64 d.e, .slice d.ao d.len d.cap, .int .i64 d.n, .int .u64 d.v, .int .i64 d.fr, .int .i64 d.to] 31)
      have hb1 := hbr.trans (hbW.mono hbr.size)
      have hown1 := hown.below hbW
      have hne : ∀ k, _ = some k → _ := owns_lt hown.1
      generalize wr.alloc (.cells #[.int .i64 d.who, .int .i64 d.place, .int .i64 d.op, .int .i64 d.fl, .int .i64 d.a, .int .i64 d.b, .int .i64 d.e, .slice d.ao d.len d.cap, .int .i64 d.n, .int .u64 d.v, .int .i64 d.fr, .int .i64 d.to] 31) = W at *
      generalize hnA : wr.heap.size = A at *
      have HA := Lib.hid hA
      have HO := Lib.hid hown1
      have HNE := Lib.hid hne
      clear hne
      clear c0 c1 c2 c3 c4 c5 c6 c7 c8 c9 c10 c11 hc hbW hbr hown hown1
      go_cut [34] from 11 to 67 (fun s34 wx => Below W.heap.size W wx ∧ s34 = .bool (!isBat d))
      case first =>
        obtain ⟨a0, a1, a2, a3, a4, a5, a6, a7, a8, a9, a10, a11⟩ := hA.cells
        clear hA
        by_cases h5 : d.op = 5
        · have e1 : (d.op != 5) = false := by simp [h5]
          have F : Hid (isBat d = (endedB d && (decide (d.e = 0) || decide (d.e = 10)))) := by unfold Hid isBat; simp [h5]
          clear h5
          go_wp2_with fail
          refine (ended_any d _).mono ?_
          cases he : endedB d
          · rintro e w1 ⟨rfl, hb2⟩
            go_wp2
            go_meet
            exact ⟨hb2, by rw [F.out, he]; rfl⟩
          · rintro e w1 ⟨rfl, hb2⟩
            clear a0 a1 a2 a3 a4 a5 a6 a7 a8 a9 a10 a11
            obtain ⟨_, _, _, _, _, _, a6, _, _, _, _, _⟩ := (HA.out.below hb2).cells
            by_cases h0 : d.e = 0
            · have G : Hid (isBat d = true) := by unfold Hid; rw [F.out, he, h0]; rfl
              have e2 : (d.e != 0) = false := by simp [h0]
              clear h0
              go_wp2
              go_meet
              exact ⟨hb2, by rw [G.out]; rfl⟩
            · have e2 : (d.e != 0) = true := by simpa using h0
              by_cases h10 : d.e = 10
              · have G : Hid (isBat d = true) := by unfold Hid; rw [F.out, he, h10]; rfl
                have e3 : (d.e != 10) = false := by simp [h10]
                clear h0 h10
                go_wp2
                go_meet
                exact ⟨hb2, by rw [G.out]; rfl⟩
              · have G : Hid (isBat d = false) := by unfold Hid; rw [F.out, he]; simp [h0, h10]
                have e3 : (d.e != 10) = true := by simpa using h10
                clear h0 h10
                go_wp2
                go_meet
                exact ⟨hb2, by rw [G.out]; rfl⟩
        · have e1 : (d.op != 5) = true := by simpa using h5
          have G : Hid (isBat d = false) := by unfold Hid isBat; simp [h5]
          clear h5
          go_wp2
          go_meet
          exact ⟨Below.refl _ _, by rw [G.out]; rfl⟩
      case rest =>
        obtain ⟨hb2, h34⟩ := hcut
        have hA2 := HA.out.below hb2
        have hown2 := HO.out.below hb2
        have hb3 := hb1.trans (hb2.mono hb1.size)
        obtain ⟨a0, a1, a2, a3, a4, a5, a6, a7, a8, a9, a10, a11⟩ := hA2.cells
        clear hA hb1 hb2
        cases hB : isBat d
        · rw [hB] at h34
          have h35 : _ = Value.bool true := h34
          subst h35
          have EP : Hid (partD d = [d.bare]) := by unfold Hid partD; rw [if_neg (by rw [hB]; simp)]
          have hrkc := HRK.out.below hb3
          have HO2 := Lib.hid hown2
          clear hB hown2
          go_wp2_with fail
          refine (histOwn_any d _ HOK.out hrkc (by omega)).mono ?_
          rintro e w3 ⟨y, rfl, hy, hOK, hb4⟩
          have hown3 := HO2.out.below hb4
          have hb5 := hb3.trans (hb4.mono hb3.size)
          have hbase : w.heap.size ≤ w3.heap.size := hb5.size
          have hn2 : l'.length + 1 ≤ 1099511627776 := by omega
          have HY := Lib.hid (hOK.base hb3.size)
          have HYB := Lib.hid hy
          clear a0 a1 a2 a3 a4 a5 a6 a7 a8 a9 a10 a11 hA2 hOK hy hrkc
          go_wp2_with ((at_builtin; refine ap_new w3 _ ED rfl _ _ rfl w.heap.size _ l'.length _ rfl hown3.1 hbase 1 rfl rfl (by simp [Value.oneCell']) hn2 ?_; intro v' w4 hown4 hg4 hb6 hfr4))
          go_roundw
          case rel =>
            refine ⟨i + 1, l' ++ [y], by omega, by go_num, ?_, hown3.push HY.out rfl hown4 hg4, hb5.trans hb6⟩
            rw [List.map_append, HMAP.out, hS.out, EP.out]; simp [HYB.out]
          case measure => simp [intOf]; omega
        · rw [hB] at h34
          have h35 : _ = Value.bool false := h34
          subst h35
          have EP : Hid (partD d = packD d d.l ++ emptyD d) := by unfold Hid partD; rw [if_pos hB]
          clear hB
          have HO2 := Lib.hid hown2
          have HA2 := Lib.hid hA2
          clear hown2 hA2
          generalize wc = W2 at *
          obtain ⟨XA, hXA⟩ : ∃ XA, d.ao = XA := ⟨_, rfl⟩
          rw [hXA] at a7
          have HXA := Lib.hid hXA
          clear hXA
          go_wp2_with fail
          go_loopw [3, 7, 44] (fun v3 _ v44 wr => ∃ (k : Nat) (l2 : List DoneS), k ≤ d.len ∧ v44 = .int .i64 k ∧ l2.map DoneS.bare = partsD (l.take i) ++ packD d (d.l.take k) ∧ OwnDs wr w.heap.size v3 l2 ∧ Below w.heap.size w wr ∧ BoxD wr A d 31 ∧ ∀ k, v3.ownBlock = some k → k ≠ A) (fun _ _ v44 _ => d.len - (intOf v44).toNat)
          case atStart => exact ⟨0, l', Nat.zero_le _, rfl, by rw [HMAP.out]; simp [packD], HO2.out, hb3, HA2.out, fun k hk => by have := (HNE.out k hk).2; omega⟩
          case round =>
            clear a0 a1 a2 a3 a4 a5 a6 a7 a8 a9 a10 a11
            obtain ⟨k, l2, hk, rfl, hmap2, hown, hbr, hAr, hne⟩ := hrel
            have HM2 := Lib.hid hmap2
            have hlen2 : l2.length ≤ 1049625576 := by
              have h1 := congrArg List.length hmap2
              have h2 := HLP.out i hi
              simp only [List.length_map, List.length_append, packD, List.length_take] at h1
              omega
            clear hmap2
            have HNE2 := Lib.hid hne
            have hAl := hAr.lt
            clear hne
            by_cases hl2 : k < d.len
            · have hT := Lib.hid (takeK_snoc (l := d.l) (k := k) (by rw [HLL.out]; exact hl2))
              have hpo := Lib.hid (HRK.out.ok_nth hl2)
              obtain ⟨pb, po, hpao, hplt, hpc⟩ := HRK.out.cells hl2
              obtain ⟨p0, p1, p2⟩ := hpc wr hbr
              have hXS := HXA.out.symm.trans hpao
              subst hXS
              generalize nthK d.l k = p at *
              clear hpao hpc
              go_upto_region 10 with fail
              have hbX := below1 wr (.cells #[.int .i64 p.flow, .int .i64 p.len, .int .i64 p.mark] 49)
              have hpb := heap_alloc_new wr (.cells #[.int .i64 p.flow, .int .i64 p.len, .int .i64 p.mark] 49)
              have hownX := hown.below hbX
              have hbrX := hbr.trans (hbX.mono hbr.size)
              have hAX := hAr.below hbX
              generalize wr.alloc (.cells #[.int .i64 p.flow, .int .i64 p.len, .int .i64 p.mark] 49) = X at *
              generalize hnP : wr.heap.size = PB at *
              clear p0 p1 p2 hbX hown hAr
              obtain ⟨a0, a1, a2, a3, a4, a5, a6, a7, a8, a9, a10, a11⟩ := hAX.cells
              have q0 : X.cell? ⟨PB, 0, none⟩ = some (.int .i64 p.flow) := by simp [World.cell?, hpb]
              have q1 : X.cell? ⟨PB, 1, none⟩ = some (.int .i64 p.len) := by simp [World.cell?, hpb]
              have q2 : X.cell? ⟨PB, 2, none⟩ = some (.int .i64 p.mark) := by simp [World.cell?, hpb]
              have O1 := Lib.hid (one_ownK X d p HOK.out hpo.out)
              have HX := Lib.hid hownX
              have HAX := Lib.hid hAX
              clear hpb hAX hownX
              go_wp2_with fail
              refine (single_any d 0 0 0 (some ⟨X.heap.size, 0, none⟩) 1 1 [p] _).mono ?_
              rintro e w3 ⟨rfl, hb4⟩
              have hbY := below1 X (.cells #[.int .i64 p.flow, .int .i64 p.len, .int .i64 p.mark] 49)
              have hown3 := (HX.out.below hbY).below hb4
              have hA3 := Lib.hid ((HAX.out.below hbY).below hb4)
              have hb5 := hbrX.trans ((below_step hbY hb4).mono hbrX.size)
              have O3 := Lib.hid ((O1.out.below hb4).base (show w.heap.size ≤ X.heap.size from hbrX.size))
              have hbase : w.heap.size ≤ w3.heap.size := hb5.size
              have hn2 : l2.length + 1 ≤ 1099511627776 := by omega
              simp only [oneD]
              clear a0 a1 a2 a3 a4 a5 a6 a7 a8 a9 a10 a11 q0 q1 q2 hbY hb4
              go_wp2_with ((at_builtin; refine ap_new w3 _ ED rfl _ _ rfl w.heap.size _ l2.length _ rfl hown3.1 hbase 1 rfl rfl (by simp [Value.oneCell']) hn2 ?_; intro v' w4 hown4 hg4 hb7 hfr4))
              go_roundw
              case rel =>
                refine ⟨k + 1, l2 ++ [oneD d 0 0 0 (some ⟨X.heap.size, 0, none⟩) 1 1 [p]], by omega, by go_num, ?_, hown3.push O3.out rfl hown4 hg4, hb5.trans hb7, ?_, ?_⟩
                · rw [List.map_append, HM2.out, hT.out, packD_snoc]; simp [oneD_bare]
                · exact (hg4.block A hA3.out.lt fun e => HNE2.out A e.symm rfl).trans hA3.out
                · intro q hq
                  rcases hfr4 with h4 | h4
                  · exact HNE2.out q (h4 ▸ hq)
                  · have h5 := h4 q hq
                    have h6 := hA3.out.lt
                    omega
              case measure => simp [intOf]; omega
            · obtain rfl : k = d.len := by omega
              have hT : Hid (d.l.take d.len = d.l) := by unfold Hid; rw [List.take_of_length_le (by rw [HLL.out]; omega)]
              obtain ⟨a0, a1, a2, a3, a4, a5, a6, a7, a8, a9, a10, a11⟩ := hAr.cells
              have hA9 := Lib.hid hAr
              have hown9 := Lib.hid hown
              clear hAr hown
              by_cases h10 : d.e = 10
              · have e1 : (d.e == 10) = true := by simp [h10]
                have EE : Hid (emptyD d = [oneD d 10 0 0 none 0 0 []]) := by unfold Hid emptyD; rw [if_pos h10]
                clear h10
                go_wp2_with fail
                refine (single_any d 10 0 0 none 0 0 [] _).mono ?_
                rintro e w3 ⟨rfl, hb4⟩
                have hown3 := hown9.out.below hb4
                have hb5 := hbr.trans (hb4.mono hbr.size)
                have hbase : w.heap.size ≤ w3.heap.size := hb5.size
                have hn2 : l2.length + 1 ≤ 1099511627776 := by omega
                simp only [oneD]
                clear a0 a1 a2 a3 a4 a5 a6 a7 a8 a9 a10 a11 hb4
                go_wp2_with ((at_builtin; refine ap_new w3 _ ED rfl _ _ rfl w.heap.size _ l2.length _ rfl hown3.1 hbase 1 rfl rfl (by simp [Value.oneCell']) hn2 ?_; intro v' w4 hown4 hg4 hb7 hfr4))
                go_roundw
                case rel =>
                  refine ⟨i + 1, l2 ++ [oneD d 10 0 0 none 0 0 []], by omega, by go_num, ?_, hown3.push (empty_ownK _ _ d HOK.out) rfl hown4 hg4, hb5.trans hb7⟩
                  rw [List.map_append, HM2.out, hS.out, EP.out, EE.out, hT.out]; simp [oneD_bare]
                case measure => simp [intOf]; omega
              · have e1 : (d.e == 10) = false := by simpa using h10
                have EE : Hid (emptyD d = []) := by unfold Hid emptyD; rw [if_neg h10]
                clear h10
                go_wp2
                go_roundw
                case rel =>
                  refine ⟨i + 1, l2, by omega, by go_num, ?_, hown9.out, hbr⟩
                  rw [HM2.out, hS.out, EP.out, EE.out, hT.out]; simp
                case measure => simp [intOf]; omega
    · obtain rfl : i = n := by omega
      have E : Hid (partsD l = partsD (l.take i)) := by unfold Hid; rw [List.take_of_length_le (by rw [L0.out]; omega)]
      go_wp2
      go_ret
      exact ⟨_, _, rfl, by rw [E.out]; exact HMAP.out, hown, hbr⟩
end Go.Proofs.Ytonldjkmbapjeaa
