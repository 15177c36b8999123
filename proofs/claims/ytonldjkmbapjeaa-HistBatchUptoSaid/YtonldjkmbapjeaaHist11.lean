/- Parts of calls: the reference. -/
import Derived.Test.YtonldjkmbapjeaaHist10
namespace Go.Proofs.Ytonldjkmbapjeaa
set_option linter.unusedVariables false
set_option linter.unusedSimpArgs false
open Go.RowKit Go.Proofs.YtonldjkmbapjeaaMem Go.Proofs.YtonldjkmbapjeaaFlat

theorem owns_far {w : World} {base : Nat} {e : TypeId} {size : Nat} {v : Value} {n : Nat} {xs : List Value} {B i : Nat} (h : w.ownsRow base e size v n xs) (hb : ∀ k, v.ownBlock = some k → k ≠ B) (u : Value) : (w.setCell ⟨B, i, none⟩ u).ownsRow base e size v n xs :=
  owns_fr (S := fun k => k = B) h (Fr.setCell (S := fun k => k = B) (a := ⟨B, i, none⟩) (Fr.refl _ _) (.inl rfl) u) hb
theorem OwnK.far {w : World} {base B i : Nat} {d y : DoneS} (h : OwnK w base d) (hB : BoxD w B y 31) (u : Value) : OwnK (w.setCell ⟨B, i, none⟩ u) base d := by
  refine ⟨owns_far h.1 (fun k hk e => ?_) u, h.2⟩
  subst e
  obtain ⟨cur, hc⟩ := own_heap h.1 hk
  unfold BoxD at hB
  rw [hB] at hc
  simp only [Option.some.injEq, Obj.cells.injEq] at hc
  exact absurd hc.2.1 (by decide)
theorem OwnDs.far {w : World} {base B i : Nat} {v : Value} {l : List DoneS} {y : DoneS} (h : OwnDs w base v l) (hv : ∀ k, v.ownBlock = some k → k ≠ B) (hB : BoxD w B y 31) (u : Value) : OwnDs (w.setCell ⟨B, i, none⟩ u) base v l :=
  ⟨owns_far h.1 hv u, fun d hd => (h.2 d hd).far hB u⟩

/-- What the reference keeps while it goes through a batch: the calls that it has, the part in its box. -/
structure Pt (w wr : World) (A B : Nat) (d y : DoneS) (v : Value) (l : List DoneS) : Prop where
  own : OwnDs wr w.heap.size v l
  bel : Below w.heap.size w wr
  boxA : BoxD wr A d 31
  boxB : BoxD wr B y 31
  neA : ∀ k, v.ownBlock = some k → k ≠ A
  neB : ∀ k, v.ownBlock = some k → k ≠ B
  ltB : w.heap.size ≤ B
  ab : A ≠ B
theorem Pt.put {w wr : World} {A B : Nat} {d y : DoneS} {v : Value} {l : List DoneS} (h : Pt w wr A B d y v l) {i : Nat} {u : Value} {z : DoneS} (e : y.cells.set i u = z.cells) : Pt w (wr.setCell ⟨B, i, none⟩ u) A B d z v l :=
  ⟨h.own.far h.neB h.boxB u, h.bel.setCell (p := ⟨B, i, none⟩) h.ltB u, h.boxA.far h.ab u, h.boxB.put e, h.neA, h.neB, h.ltB, h.ab⟩
theorem Pt.below {w wr w2 : World} {A B : Nat} {d y : DoneS} {v : Value} {l : List DoneS} (h : Pt w wr A B d y v l) (hb : Below wr.heap.size wr w2) : Pt w w2 A B d y v l :=
  ⟨h.own.below hb, h.bel.trans (hb.mono h.bel.size), h.boxA.below hb, h.boxB.below hb, h.neA, h.neB, h.ltB, h.ab⟩
theorem Pt.push {w wr w2 : World} {A B n : Nat} {d y z : DoneS} {v v' : Value} {l : List DoneS} (h : Pt w wr A B d y v l) (hz : OwnK wr w.heap.size z) (hn : l.length = n)
    (ho : w2.ownsRow w.heap.size 31 12 v' (n + 1) (doneC l ++ z.cells)) (hg : wr.grownBy w2 v.ownBlock) (hb : Below w.heap.size wr w2) (hf : FreshOr wr v v') : Pt w w2 A B d y v' (l ++ [z]) := by
  have key : ∀ X, X < wr.heap.size → (∀ k, v.ownBlock = some k → k ≠ X) → ∀ k, v'.ownBlock = some k → k ≠ X := by
    intro X hX hne k hk
    rcases hf with h4 | h4
    · exact hne k (h4 ▸ hk)
    · have := h4 k hk; omega
  exact ⟨h.own.push hz hn ho hg, h.bel.trans hb, (hg.block A h.boxA.lt fun e => h.neA A e.symm rfl).trans h.boxA, (hg.block B h.boxB.lt fun e => h.neB B e.symm rfl).trans h.boxB, key A h.boxA.lt h.neA, key B h.boxB.lt h.neB, h.ltB, h.ab⟩
/-- Its part made anew. -/
theorem Pt.part {w wr : World} {A B : Nat} {d : DoneS} {e n vv : Int} {ao : Option Addr} {len cap : Nat} {pl : List PkS} {v : Value} {l : List DoneS} (h : Pt w wr A B d (oneD d e n vv ao len cap pl) v l) (e' : Int) (ao' : Option Addr) (len' cap' : Nat) (pl' : List PkS) :
    Pt w ((((wr.setCell ⟨B, 6, none⟩ (.int .i64 e')).setCell ⟨B, 7, none⟩ (.slice ao' len' cap')).setCell ⟨B, 8, none⟩ (.int .i64 0)).setCell ⟨B, 9, none⟩ (.int .u64 0)) A B d (oneD d e' 0 0 ao' len' cap' pl') v l :=
  (((h.put (z := oneD d e' n vv ao len cap pl) rfl).put (z := oneD d e' n vv ao' len' cap' pl') rfl).put (z := oneD d e' 0 vv ao' len' cap' pl') rfl).put rfl
theorem OwnK.far4 {w : World} {base B : Nat} {d y : DoneS} (h : OwnK w base d) (hB : BoxD w B y 31) (u1 u2 u3 u4 : Value) {y1 y2 y3 : DoneS} (e1 : y.cells.set 6 u1 = y1.cells) (e2 : y1.cells.set 7 u2 = y2.cells) (e3 : y2.cells.set 8 u3 = y3.cells) :
    OwnK ((((w.setCell ⟨B, 6, none⟩ u1).setCell ⟨B, 7, none⟩ u2).setCell ⟨B, 8, none⟩ u3).setCell ⟨B, 9, none⟩ u4) base d :=
  (((h.far hB u1).far (hB.put e1) u2).far ((hB.put e1).put e2) u3).far (((hB.put e1).put e2).put e3) u4

set_option maxRecDepth 20000 in
set_option maxHeartbeats 2000000 in
theorem refParts_any (ao : Option Addr) (n cap : Nat) (l : List DoneS) (w : World) (h : RdD w ao n cap l) (hn : n ≤ 1000) (hm : ∀ d ∈ l, d.len ≤ 1048576) :
    Calls Try.prog 25 #[.slice ao n cap] w (RetDs w (partsD l)) := by
  have L0 := Lib.hid h.len
  have s0 := h.rd.small
  have hlp : ∀ i, i ≤ n → (partsD (l.take i)).length ≤ 1048577000 := by
    intro i hi
    have := partsD_length (m := 1048576) (l.take i) fun d hd => by have h1 := hm d (List.mem_of_mem_take hd); have h2 := (h.ok d (List.mem_of_mem_take hd)).2.len; omega
    have h3 : (l.take i).length ≤ n := by rw [List.length_take, h.len]; omega
    exact Nat.le_trans this (Nat.le_trans (Nat.mul_le_mul (Nat.le_trans h3 hn) (Nat.le_refl _)) (by decide))
  have HLP := Lib.hid hlp
  have HM := Lib.hid hm
  clear hlp hm
  go_enter Try.func25, Try.ntmps25
  go_wp2
  go_loopw [3, 4, 5, 6, 7] (fun v3 v4 _ _ _ wr => ∃ (i : Nat) (l' : List DoneS), i ≤ n ∧ v4 = .int .i64 i ∧ l'.map DoneS.bare = partsD (l.take i) ∧ OwnDs wr w.heap.size v3 l' ∧ Below w.heap.size w wr) (fun _ v4 _ _ _ _ => n - (intOf v4).toNat)
  case atStart => exact ⟨0, [], Nat.zero_le _, rfl, rfl, OwnDs.nil _ _, Below.refl _ _⟩
  case round =>
    obtain ⟨i, l', hi, rfl, hmap, hown, hbr⟩ := hrel
    have HMAP := Lib.hid hmap
    have hlen' : l'.length ≤ 1048577000 := by have := HLP.out i hi; rw [← hmap, List.length_map] at this; exact this
    clear hmap
    by_cases hl : i < n
    · have hS := Lib.hid (partsD_snoc (l := l) (k := i) (by rw [L0.out]; exact hl))
      obtain ⟨hok, hrk⟩ := h.nth hl
      have hml : (nthD l i).len ≤ 1048576 := HM.out _ (by rw [nthD_eq (by rw [L0.out]; exact hl)]; exact List.getElem_mem _)
      have HOK := Lib.hid hok
      obtain ⟨b, o, rfl, hlt, hc⟩ := h.cells hl
      obtain ⟨c0, c1, c2, c3, c4, c5, c6, c7, c8, c9, c10, c11⟩ := RdD.at12 (ao := none) (n := 0) (cap := 0) hc hbr
      have hLl : (nthD l i).l.length = (nthD l i).len := hrk.len
      have HLL := Lib.hid hLl
      have HRK := Lib.hid hrk
      clear hrk hok hLl
      generalize nthD l i = d at *
      go_upto_region 6 with fail
      have hA := one_boxD wr d 31
      have hbW := below1 wr (.cells #[.int .i64 d.who, .int .i64 d.place, .int .i64 d.op, .int .i64 d.fl, .int .i64 d.a, .int .i64 d.b, .int .i64 d.e, .slice d.ao d.len d.cap, .int .i64 d.n, .int .u64 d.v, .int .i64 d.fr, .int .i64 d.to] 31)
      have hb1 := hbr.trans (hbW.mono hbr.size)
      have hown1 := hown.below hbW
      have hne : ∀ k, _ = some k → _ := owns_lt hown.1
      have hAw := hbr.size
      generalize wr.alloc (.cells #[.int .i64 d.who, .int .i64 d.place, .int .i64 d.op, .int .i64 d.fl, .int .i64 d.a, .int .i64 d.b, .int .i64 d.e, .slice d.ao d.len d.cap, .int .i64 d.n, .int .u64 d.v, .int .i64 d.fr, .int .i64 d.to] 31) = W at *
      generalize hnA : wr.heap.size = A at *
      have HNE := Lib.hid hne
      clear c0 c1 c2 c3 c4 c5 c6 c7 c8 c9 c10 c11 hc hbW hbr hown hne
      have HA := Lib.hid hA
      have HO := Lib.hid hown1
      obtain ⟨a0, a1, a2, a3, a4, a5, a6, a7, a8, a9, a10, a11⟩ := hA.cells
      go_cut [38] from 8 to 82 (fun s38 wx => wx = W ∧ s38 = .bool (!isBat d))
      case first =>
        clear hA hown1
        by_cases h5 : d.op = 5
        · have e1 : (d.op != 5) = false := by simp [h5]
          have F : Hid (isBat d = (decide (d.to ≠ -1) && (decide (d.e = 0) || decide (d.e = 10)))) := by unfold Hid isBat endedB; simp [h5]
          clear h5
          by_cases ht : d.to = -1
          · have e2 : (d.to == -1) = true := by simp [ht]
            have G : Hid (isBat d = false) := by unfold Hid; rw [F.out]; simp [ht]
            clear ht
            go_wp2
            go_meet
            exact ⟨rfl, by rw [G.out]; rfl⟩
          · have e2 : (d.to == -1) = false := by simpa using ht
            by_cases h0 : d.e = 0
            · have G : Hid (isBat d = true) := by unfold Hid; rw [F.out, h0]; simp [ht]
              have e3 : (d.e != 0) = false := by simp [h0]
              clear h0 ht
              go_wp2
              go_meet
              exact ⟨rfl, by rw [G.out]; rfl⟩
            · have e3 : (d.e != 0) = true := by simpa using h0
              by_cases h10 : d.e = 10
              · have G : Hid (isBat d = true) := by unfold Hid; rw [F.out, h10]; simp [ht]
                have e4 : (d.e != 10) = false := by simp [h10]
                clear h0 h10 ht
                go_wp2
                go_meet
                exact ⟨rfl, by rw [G.out]; rfl⟩
              · have G : Hid (isBat d = false) := by unfold Hid; rw [F.out]; simp [h0, h10]
                have e4 : (d.e != 10) = true := by simpa using h10
                clear h0 h10 ht
                go_wp2
                go_meet
                exact ⟨rfl, by rw [G.out]; rfl⟩
        · have e1 : (d.op != 5) = true := by simpa using h5
          have G : Hid (isBat d = false) := by unfold Hid isBat; simp [h5]
          clear h5
          go_wp2
          go_meet
          exact ⟨rfl, by rw [G.out]; rfl⟩
      case rest =>
        obtain ⟨rfl, h38⟩ := hcut
        cases hB : isBat d
        · rw [hB] at h38
          have h39 : _ = Value.bool true := h38
          subst h39
          have EP : Hid (partD d = [d.bare]) := by unfold Hid partD; rw [if_neg (by rw [hB]; simp)]
          have hrkc := HRK.out.below hb1
          have HRC := Lib.hid hrkc
          have f7 := hA.frozen 7
          have hbase : wc.heap.size ≤ wc.heap.size := Nat.le_refl _
          have hAl := hA.lt
          have hl2 : (pkC d.l).length = d.len * 3 := by rw [pkC_length, HLL.out]
          have HL2 := Lib.hid hl2
          have hcc : ∀ j u, (pkC d.l)[j]? = some u → ∃ b off, d.ao = some ⟨b, off, none⟩ ∧ wc.cell? ⟨b, off + j, none⟩ = some u := by
            intro j u hu
            obtain ⟨b, off, e, hlt, hc⟩ := hrkc.rd.at_ j u hu
            exact ⟨b, off, e, hc⟩
          have HCC := Lib.hid hcc
          have hN := Lib.hid hrkc.rd.nil
          have hnn : 0 + d.len ≤ 1099511627776 := by omega
          clear hB hrkc hl2 hcc hA hown1 f7
          go_upto_region 8 with ((at_builtin; refine ap_src wc EPK rfl _ _ rfl wc.heap.size _ 0 _ rfl (World.ownsRow_nil _ _ _ _) hbase d.ao d.len d.cap (pkC d.l) rfl hN.out HL2.out HCC.out (pkC_one _) hnn ?_; intro v' w3 hown3 hg3 hb3 hfr3; rw [Nat.zero_add, List.nil_append] at hown3; obtain ⟨ac, cc, rfl⟩ := owns_slice hown3; have hA3 := HA.out.below hb3; have HA3 := Lib.hid hA3; have hO3 := Lib.hid (HO.out.below hb3); have f7 := hA3.frozen 7; clear a0 a1 a2 a3 a4 a5 a6 a7 a8 a9 a10 a11; obtain ⟨a0, a1, a2, a3, a4, a5, a6, a7, a8, a9, a10, a11⟩ := hA3.cells; clear hA3))
          have hA4 : BoxD (w3.setCell ⟨A, 7, none⟩ (.slice ac d.len cc)) A { d with ao := ac, cap := cc } 31 := HA3.out.put rfl
          have hO4 := hO3.out.far (i := 7) (fun k hk => by have := (HNE.out k hk).2; omega) HA3.out (.slice ac d.len cc)
          have hy3 : OwnK w3 w.heap.size { d with ao := ac, cap := cc } := ⟨owns_base hown3 hb1.size, HOK.out, HRC.out.ok⟩
          have hy4 := Lib.hid (hy3.far (i := 7) HA3.out (.slice ac d.len cc))
          have hb4 : Below w.heap.size w (w3.setCell ⟨A, 7, none⟩ (.slice ac d.len cc)) := (hb1.trans (hb3.mono hb1.size)).setCell (p := ⟨A, 7, none⟩) hAw _
          generalize w3.setCell ⟨A, 7, none⟩ (.slice ac d.len cc) = W4 at *
          clear a0 a1 a2 a3 a4 a5 a6 a7 a8 a9 a10 a11 f7 hy3 hown3 hg3
          obtain ⟨a0, a1, a2, a3, a4, a5, a6, a7, a8, a9, a10, a11⟩ := hA4.cells
          simp only at a0 a1 a2 a3 a4 a5 a6 a7 a8 a9 a10 a11
          clear hA4
          have hbase4 : w.heap.size ≤ W4.heap.size := hb4.size
          have hn2 : l'.length + 1 ≤ 1099511627776 := by omega
          go_wp2_with ((at_builtin; refine ap_new W4 _ ED rfl _ _ rfl w.heap.size _ l'.length _ rfl hO4.1 hbase4 1 rfl rfl (by simp [Value.oneCell']) hn2 ?_; intro v' w5 hown5 hg5 hb5 hfr5))
          go_roundw
          case rel =>
            refine ⟨i + 1, l' ++ [{ d with ao := ac, cap := cc }], by omega, by go_num, ?_, hO4.push (y := { d with ao := ac, cap := cc }) hy4.out rfl hown5 hg5, hb4.trans hb5⟩
            rw [List.map_append, HMAP.out, hS.out, EP.out]; rfl
          case measure => simp [intOf]; omega
        · rw [hB] at h38
          have h39 : _ = Value.bool false := h38
          subst h39
          have EP : Hid (partD d = packD d d.l ++ emptyD d) := by unfold Hid partD; rw [if_pos hB]
          clear hB
          go_upto_region 10 with fail
          have hbX := below1 wc (.cells #[.int .i64 d.who, .int .i64 d.place, .int .i64 d.op, .int .i64 d.fl, .int .i64 d.a, .int .i64 d.b, .int .i64 d.e, .slice d.ao d.len d.cap, .int .i64 d.n, .int .u64 d.v, .int .i64 d.fr, .int .i64 d.to] 31)
          have hBX := one_boxD wc d 31
          have P0 : Pt w (wc.alloc (.cells #[.int .i64 d.who, .int .i64 d.place, .int .i64 d.op, .int .i64 d.fl, .int .i64 d.a, .int .i64 d.b, .int .i64 d.e, .slice d.ao d.len d.cap, .int .i64 d.n, .int .u64 d.v, .int .i64 d.fr, .int .i64 d.to] 31)) A wc.heap.size d d _ l' := ⟨hown1.below hbX, hb1.trans (hbX.mono hb1.size), hA.below hbX, hBX, fun k hk => by have := (HNE.out k hk).2; omega, fun k hk => by have := (HNE.out k hk).2; have := hA.lt; omega, hb1.size, by have := hA.lt; omega⟩
          clear a0 a1 a2 a3 a4 a5 a6 a7 a8 a9 a10 a11 hA hown1 hb1 hbX hBX
          generalize wc.alloc (.cells #[.int .i64 d.who, .int .i64 d.place, .int .i64 d.op, .int .i64 d.fl, .int .i64 d.a, .int .i64 d.b, .int .i64 d.e, .slice d.ao d.len d.cap, .int .i64 d.n, .int .u64 d.v, .int .i64 d.fr, .int .i64 d.to] 31) = X at *
          generalize hnB : wc.heap.size = B at *
          have z2 := P0.boxB.frozen 2
          have z3 := P0.boxB.frozen 3
          have z4 := P0.boxB.frozen 4
          have z5 := P0.boxB.frozen 5
          obtain ⟨b0, b1, b2, b3, b4, b5, b6, b7, b8, b9, b10, b11⟩ := P0.boxB.cells
          have P1 := (((P0.put (i := 2) (u := .int .i64 4) (z := { d with op := 4 }) rfl).put (i := 3) (u := .int .i64 0) (z := { d with op := 4, fl := 0 }) rfl).put (i := 4) (u := .int .i64 0) (z := { d with op := 4, fl := 0, a := 0 }) rfl).put (i := 5) (u := .int .i64 0) (z := oneD d d.e d.n d.v d.ao d.len d.cap d.l) rfl
          go_upto_region 11 with fail
          clear P0 b0 b1 b2 b3 b4 b5 b6 b7 b8 b9 b10 b11 z2 z3 z4 z5
          generalize (((X.setCell ⟨B, 2, none⟩ (.int .i64 4)).setCell ⟨B, 3, none⟩ (.int .i64 0)).setCell ⟨B, 4, none⟩ (.int .i64 0)).setCell ⟨B, 5, none⟩ (.int .i64 0) = X1 at *
          have HP1 := Lib.hid P1
          clear P1
          go_wp2_with fail
          go_loopw [3, 7] (fun v3 v7 wr => ∃ (k : Nat) (l2 : List DoneS) (e n vv : Int) (ao : Option Addr) (len cap : Nat) (pl : List PkS), k ≤ d.len ∧ v7 = .int .i64 k ∧ l2.map DoneS.bare = partsD (l.take i) ++ packD d (d.l.take k) ∧ Pt w wr A B d (oneD d e n vv ao len cap pl) v3 l2) (fun _ v7 _ => d.len - (intOf v7).toNat)
          case atStart => exact ⟨0, l', d.e, d.n, d.v, d.ao, d.len, d.cap, d.l, Nat.zero_le _, rfl, by rw [HMAP.out]; simp [packD], HP1.out⟩
          case round =>
            obtain ⟨k, l2, e, n', vv, ao, len, cap', pl, hk, rfl, hmap2, P⟩ := hrel
            have HM2 := Lib.hid hmap2
            have hlen2 : l2.length ≤ 1049625576 := by
              have h1 := congrArg List.length hmap2
              have h2 := HLP.out i hi
              simp only [List.length_map, List.length_append, packD, List.length_take] at h1
              omega
            clear hmap2
            have HP := Lib.hid P
            have hbr := P.bel
            obtain ⟨a0, a1, a2, a3, a4, a5, a6, a7, a8, a9, a10, a11⟩ := P.boxA.cells
            clear P
            by_cases hl2 : k < d.len
            · have hT := Lib.hid (takeK_snoc (l := d.l) (k := k) (by rw [HLL.out]; exact hl2))
              have hpo := Lib.hid (HRK.out.ok_nth hl2)
              obtain ⟨pb, po, hpao, hplt, hpc⟩ := HRK.out.cells hl2
              obtain ⟨p0, p1, p2⟩ := hpc wr hbr
              rw [hpao] at a7
              generalize nthK d.l k = p at *
              clear hpao hpc
              obtain ⟨b0, b1, b2, b3, b4, b5, b6, b7, b8, b9, b10, b11⟩ := HP.out.boxB.cells
              have z6 := HP.out.boxB.frozen 6
              have z7 := HP.out.boxB.frozen 7
              have z8 := HP.out.boxB.frozen 8
              have z9 := HP.out.boxB.frozen 9
              have hBlt := HP.out.boxB.lt
              go_upto_region 15 with fail
              have P2 := HP.out.part 0 (some ⟨wr.heap.size, 0, none⟩) 1 1 [p]
              have hsz : ((((wr.setCell ⟨B, 6, none⟩ (.int .i64 0)).setCell ⟨B, 7, none⟩ (.slice (some ⟨wr.heap.size, 0, none⟩) 1 1)).setCell ⟨B, 8, none⟩ (.int .i64 0)).setCell ⟨B, 9, none⟩ (.int .u64 0)).heap.size = wr.heap.size := by simp [World.setCell]
              generalize (((wr.setCell ⟨B, 6, none⟩ (.int .i64 0)).setCell ⟨B, 7, none⟩ (.slice (some ⟨wr.heap.size, 0, none⟩) 1 1)).setCell ⟨B, 8, none⟩ (.int .i64 0)).setCell ⟨B, 9, none⟩ (.int .u64 0) = W4 at *
              have O3 := one_ownK W4 d p HOK.out hpo.out
              have P3 := P2.below (below1 W4 (.cells #[.int .i64 p.flow, .int .i64 p.len, .int .i64 p.mark] 49))
              rw [hsz] at O3
              have O4 := Lib.hid (O3.base hbr.size)
              generalize hnPB : wr.heap.size = PB at *
              generalize W4.alloc (.cells #[.int .i64 p.flow, .int .i64 p.len, .int .i64 p.mark] 49) = W5 at *
              clear a0 a1 a2 a3 a4 a5 a6 a7 a8 a9 a10 a11 b0 b1 b2 b3 b4 b5 b6 b7 b8 b9 b10 b11 z6 z7 z8 z9 hBlt O3 P2 hsz hnPB hbr p0 p1 p2
              obtain ⟨b0, b1, b2, b3, b4, b5, b6, b7, b8, b9, b10, b11⟩ := P3.boxB.cells
              simp only [oneD] at b0 b1 b2 b3 b4 b5 b6 b7 b8 b9 b10 b11
              have hown5 := P3.own.1
              have hbase : w.heap.size ≤ W5.heap.size := P3.bel.size
              have hn2 : l2.length + 1 ≤ 1099511627776 := by omega
              have HP3 := Lib.hid P3
              clear P3
              go_wp2_with ((at_builtin; refine ap_new W5 _ ED rfl _ _ rfl w.heap.size _ l2.length _ rfl hown5 hbase 1 rfl rfl (by simp [Value.oneCell']) hn2 ?_; intro v' w6 hown6 hg6 hb6 hfr6))
              go_roundw
              case rel =>
                refine ⟨k + 1, l2 ++ [oneD d 0 0 0 (some ⟨PB, 0, none⟩) 1 1 [p]], 0, 0, 0, some ⟨PB, 0, none⟩, 1, 1, [p], by omega, by go_num, ?_, HP3.out.push (z := oneD d 0 0 0 (some ⟨PB, 0, none⟩) 1 1 [p]) O4.out rfl hown6 hg6 hb6 hfr6⟩
                rw [List.map_append, HM2.out, hT.out, packD_snoc]; simp [oneD_bare]
              case measure => simp [intOf]; omega
            · obtain rfl : k = d.len := by omega
              have hT : Hid (d.l.take d.len = d.l) := by unfold Hid; rw [List.take_of_length_le (by rw [HLL.out]; omega)]
              obtain ⟨b0, b1, b2, b3, b4, b5, b6, b7, b8, b9, b10, b11⟩ := HP.out.boxB.cells
              have z6 := HP.out.boxB.frozen 6
              have z7 := HP.out.boxB.frozen 7
              have z8 := HP.out.boxB.frozen 8
              have z9 := HP.out.boxB.frozen 9
              by_cases h10 : d.e = 10
              · have e1 : (d.e == 10) = true := by simp [h10]
                have EE : Hid (emptyD d = [oneD d 10 0 0 none 0 0 []]) := by unfold Hid emptyD; rw [if_pos h10]
                clear h10
                go_upto_region 18 with fail
                have P2 := HP.out.part 10 none 0 0 []
                generalize (((wr.setCell ⟨B, 6, none⟩ (.int .i64 10)).setCell ⟨B, 7, none⟩ (.slice none 0 0)).setCell ⟨B, 8, none⟩ (.int .i64 0)).setCell ⟨B, 9, none⟩ (.int .u64 0) = W5 at *
                clear a0 a1 a2 a3 a4 a5 a6 a7 a8 a9 a10 a11 b0 b1 b2 b3 b4 b5 b6 b7 b8 b9 b10 b11 z6 z7 z8 z9
                obtain ⟨b0, b1, b2, b3, b4, b5, b6, b7, b8, b9, b10, b11⟩ := P2.boxB.cells
                simp only [oneD] at b0 b1 b2 b3 b4 b5 b6 b7 b8 b9 b10 b11
                have hown5 := P2.own.1
                have hbase : w.heap.size ≤ W5.heap.size := P2.bel.size
                have hn2 : l2.length + 1 ≤ 1099511627776 := by omega
                have HP3 := Lib.hid P2
                clear P2
                go_wp2_with ((at_builtin; refine ap_new W5 _ ED rfl _ _ rfl w.heap.size _ l2.length _ rfl hown5 hbase 1 rfl rfl (by simp [Value.oneCell']) hn2 ?_; intro v' w6 hown6 hg6 hb6 hfr6))
                go_roundw
                case rel =>
                  have P4 := HP3.out.push (z := oneD d 10 0 0 none 0 0 []) (empty_ownK _ _ d HOK.out) rfl hown6 hg6 hb6 hfr6
                  refine ⟨i + 1, l2 ++ [oneD d 10 0 0 none 0 0 []], by omega, by go_num, ?_, P4.own, P4.bel⟩
                  rw [List.map_append, HM2.out, hS.out, EP.out, EE.out, hT.out]; simp [oneD_bare]
                case measure => simp [intOf]; omega
              · have e1 : (d.e == 10) = false := by simpa using h10
                have EE : Hid (emptyD d = []) := by unfold Hid emptyD; rw [if_neg h10]
                clear h10
                go_wp2
                go_roundw
                case rel =>
                  refine ⟨i + 1, l2, by omega, by go_num, ?_, HP.out.own, HP.out.bel⟩
                  rw [HM2.out, hS.out, EP.out, EE.out, hT.out]; simp
                case measure => simp [intOf]; omega
    · obtain rfl : i = n := by omega
      have E : Hid (partsD l = partsD (l.take i)) := by unfold Hid; rw [List.take_of_length_le (by rw [L0.out]; omega)]
      go_wp2
      go_ret
      exact ⟨_, _, rfl, by rw [E.out]; exact HMAP.out, hown, hbr⟩
end Go.Proofs.Ytonldjkmbapjeaa
