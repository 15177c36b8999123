/- HistLaid: calls of each worker that come one behind the other may be, in any order in which they are told; not any more, when one is told twice, or one's end is put behind the next one's beginning. -/
import Derived.Test.YtonldjkmbapjeaaHist12
import Derived.Test.YtonldjkmbapjeaaLaid3
import Derived.Test.YtonldjkmbapjeaaMemW
import Derived.Test.YtonldjkmbapjeaaFlatI
import Derived.Deep.RegionWith
import Derived.Deep.RegionLaw
import Derived.Deep.CutBlock
namespace Go.Proofs.Ytonldjkmbapjeaa
set_option linter.unusedVariables false
set_option linter.unusedSimpArgs false
open Go.RowKit Go.Proofs.YtonldjkmbapjeaaMem Go.Proofs.YtonldjkmbapjeaaFlat

theorem swap_perm {l : List DoneS} {a b : Nat} (ha : a < l.length) (hb : b < l.length) : ((l.set a (nthD l b)).set b (nthD l a)).Perm l := by
  rw [nthD_eq ha, nthD_eq hb]
  exact List.set_set_perm ha hb

theorem below_setCells {B : Nat} {w w' : World} {g : Nat} (h : Below B w w') (hg : B ≤ g) (o : Nat) (us : List Value) : Below B w (w'.setCells g o us) := by
  induction us generalizing w' o with
  | nil => exact h
  | cons u us ih => exact ih (h.setCell (p := ⟨g, o, none⟩) hg u) (o + 1)
theorem nthD_append_lt {l m : List DoneS} {k : Nat} (h : k < l.length) : nthD (l ++ m) k = nthD l k := by
  simp only [nthD, List.getD_eq_getElem?_getD]; rw [List.getElem?_append_left h]
theorem nthD_append_at (l : List DoneS) (x : DoneS) : nthD (l ++ [x]) l.length = x := by
  simp [nthD, List.getD_eq_getElem?_getD]
theorem rightH_false_of {l : List DoneS} {i k : Nat} (hi : i < l.length) (hk : k < i) (h : apartB (nthD l i) (nthD l k) = false) : rightH l = false := by
  unfold rightH; rw [pairs_false hi hk h]; simp
theorem box_cell (w : World) (x : DoneS) (t : TypeId) (j : Nat) : (w.alloc (.cells #[.int .i64 x.who, .int .i64 x.place, .int .i64 x.op, .int .i64 x.fl, .int .i64 x.a, .int .i64 x.b, .int .i64 x.e, .slice x.ao x.len x.cap, .int .i64 x.n, .int .u64 x.v, .int .i64 x.fr, .int .i64 x.to] t)).cell? ⟨w.heap.size, j, none⟩ = x.cells[j]? := Blk.cell (Blk.new w x.cells t) j
section
variable {P : Program} {ops : Array Oper} {o : Oper} {a : Act} {Q : Exit → Act → World → Prop}
theorem step_store_mid {K : Act → World → Prop} {Ep : Prop} {w : World} (hgd : o.guard = none) (ty : TypeId) (x y : Operand) (ho : o.op = .store ty x y) (b off : Nat) (cells : Array Value) (hx : a.eval x = .pointer (some ⟨b, off, none⟩)) (hy : a.eval y = .agg cells)
    (ht : w.there b off cells.size) (hi : (P.info? ty).map (·.size) = some cells.size) (h1 : cells.all (·.oneCell') = true) (h : K (a.put o.dst undef) (w.setCells b off cells.toList)) :
    if Region.wanted o (yielded ops a.tmps) = true then Oper.wp P o a w K Q else Ep := by
  rw [if_pos (by simp [Region.wanted, hgd])]
  exact wp_store_mid ty x y ho b off cells hx hy ht hi h1 h
end

set_option maxRecDepth 20000 in
set_option maxHeartbeats 4000000 in
theorem HistLaid_1 (ao ta : Option Addr) (n0 cap m tc : Nat) (l : List DoneS) (ts : List Int) (at' : Int) (w : World) (h : RdD w ao n0 cap l) (ht : RdI w ta m tc ts) (hok : GoodD w (laidD l)) :
    Calls Try.prog 4 #[.slice ao n0 cap, .slice ta m tc, .int .i64 at'] w fun e w' => e = .returned (.bool true) ∧ Below w.heap.size w w' := by
  have hl40 := laidD_length l
  have hmay := laid_may l
  have hpl := laid_place l
  have hm63 := ht.small
  go_enter Try.func4, Try.ntmps4
  go_wp2_with fail
  refine (laid_any ao n0 cap l _ h).mono ?_
  rintro e w1 ⟨v, rfl, hown, hb1⟩
  obtain ⟨pa, pc, rfl⟩ := owns_slice hown
  generalize laidD l = L at *
  obtain ⟨n, hn⟩ : ∃ n, L.length = n := ⟨_, rfl⟩
  rw [hn] at hown hl40 ⊢
  have HN := Lib.hid hn
  have HMAY := Lib.hid hmay
  have HPL := Lib.hid hpl
  have HOK := Lib.hid hok
  have HT := Lib.hid ht
  have HOWN := Lib.hid hown
  clear hmay hpl hok hn h hown ht
  go_upto_block 0 with fail
  go_cut [] from 8 to 54 (fun wx => ∃ L2, L2.Perm L ∧ wx.ownsRow w.heap.size 31 12 (.slice pa n pc) n (doneC L2) ∧ Below w.heap.size w wx)
  case first =>
   go_wp2_with fail
   go_loopw [8, 9, 10] (fun v8 _ _ wr => ∃ (t : Nat) (L' : List DoneS), t ≤ m ∧ t ≤ 40 ∧ v8 = .int .i64 t ∧ L'.Perm L ∧ wr.ownsRow w.heap.size 31 12 (.slice pa n pc) n (doneC L') ∧ Below w.heap.size w wr) (fun v8 _ _ _ => m - (intOf v8).toNat)
   case atStart => exact ⟨0, L, Nat.zero_le _, Nat.zero_le _, rfl, List.Perm.refl _, HOWN.out, hb1⟩
   case round =>
     obtain ⟨t, L', ht, ht40, rfl, hperm, hown, hbr⟩ := hrel
     by_cases hgo : t < m ∧ t < 40 ∧ 0 < n
     · obtain ⟨g1, g2, g3⟩ := hgo
       obtain ⟨tb, tq, rfl, htlt, htc⟩ := HT.out.at_ t g1
       have t0 := (hbr.cell (p := ⟨tb, tq + t, none⟩) htlt).trans htc
       have tl : tb < wr.heap.size := Nat.lt_of_lt_of_le htlt hbr.size
       have i1 : (t : Int) < (m : Int) := by omega
       have i2 : (t : Int) < 40 := by omega
       have i3 : (0 : Int) < (n : Int) := by omega
       have e0 : ¬ n = 0 := by omega
       have e1 : (t : Int).tmod (n : Int) = ((t % n : Nat) : Int) := by rw [Int.tmod_eq_emod_of_nonneg (by omega)]; simp
       have hbn : t % n < n := Nat.mod_lt _ g3
       generalize nth ts t = z at *
       have mz := modZ_bd z (n := n) (by omega)
       obtain ⟨a, ha⟩ : ∃ a : Nat, modZ z n = (a : Int) := ⟨(modZ z n).toNat, by omega⟩
       have ha4 : a < n := by omega
       have HA := Lib.hid ha
       have HO := Lib.hid hown
       clear mz ha htc hown
       go_upto_region 5 with fail
       go_cut [9, 10] from 15 to 54 (fun s9 s10 wx => s9 = .int .i64 a ∧ s10 = .int .i64 (t % n : Nat) ∧ Below wr.heap.size wr wx)
       case first =>
         go_region_held3 (fun w' => Below wr.heap.size wr w' ∧ (∀ b o, b < wr.heap.size → w'.cell? ⟨b, o, none⟩ = wr.cell? ⟨b, o, none⟩)) (first | exact hs_refl ((Below.refl _ _).drew) | assumption | exact hs_step (by assumption) (by assumption))
           (first | (go_at_call 22; (with_reducible refine (mod_any z n (by omega) (by omega) _).mono ?_); rw [HA.out]; rintro e w' ⟨rfl, rfl⟩))
         have hS := ‹Below wr.heap.size wr _ ∧ _›.1
         go_wp2
         go_meet
         exact ⟨rfl, rfl, hS⟩
       case rest =>
         obtain ⟨rfl, rfl, hbc⟩ := hcut
         generalize t % n = b at *
         have hown := owns_below (B := 0) HO.out hbc
         have hb3 := hbr.trans (hbc.mono hbr.size)
         clear hbr hbc HO t0 tl
         generalize wc = W at *
         have hla : a < L'.length := by rw [hperm.length_eq, HN.out]; exact ha4
         have hlb : b < L'.length := by rw [hperm.length_eq, HN.out]; exact hbn
         obtain ⟨g, hpa, hgw, hlt, hc0⟩ := owns_at hown (recs_at doneS_cells L' a _ (nthD_some hla) 0 _ rfl)
         subst hpa
         have hrd := owns_rdS hown (doneC_one L')
         obtain ⟨g', o', e', _, hca⟩ := rds_rec doneS_cells (by omega) hrd (nthD_some hla)
         obtain ⟨g'', o'', e'', _, hcb⟩ := rds_rec doneS_cells (by omega) hrd (nthD_some hlb)
         simp only [Option.some.injEq, Addr.mk.injEq, and_true] at e' e''
         obtain ⟨rfl, rfl⟩ := e'
         obtain ⟨rfl, rfl⟩ := e''
         have HSW := Lib.hid (swap_perm hla hlb)
         have HPE := Lib.hid hperm
         have hll : L'.length = n := hperm.length_eq.trans HN.out
         obtain ⟨x0, x1, x2, x3, x4, x5, x6, x7, x8, x9, x10, x11⟩ := RdD.at12 (ao := none) (n := 0) (cap := 0) hca (Below.refl _ _)
         obtain ⟨y0, y1, y2, y3, y4, y5, y6, y7, y8, y9, y10, y11⟩ := RdD.at12 (ao := none) (n := 0) (cap := 0) hcb (Below.refl _ _)
         rw [Nat.zero_add] at x0 x1 x2 x3 x4 x5 x6 x7 x8 x9 x10 x11 y0 y1 y2 y3 y4 y5 y6 y7 y8 y9 y10 y11
         generalize nthD L' a = x at *
         generalize nthD L' b = y at *
         have tha : W.there g (a * 12) 12 := owns_there hown ha4
         have thb : W.there g (b * 12) 12 := owns_there hown hbn
         have hset1 : (W.drew.setCells g (a * 12) (#[.int .i64 y.who, .int .i64 y.place, .int .i64 y.op, .int .i64 y.fl, .int .i64 y.a, .int .i64 y.b, .int .i64 y.e, .slice y.ao y.len y.cap, .int .i64 y.n, .int .u64 y.v, .int .i64 y.fr, .int .i64 y.to] : Array Value).toList).ownsRow w.heap.size 31 12 (.slice (some ⟨g, 0, none⟩) n pc) n ((L'.set a y).flatMap DoneS.cells) := owns_setRec doneS_cells hown.drew ha4 y hll
         have hset2 : ((W.drew.setCells g (a * 12) (#[.int .i64 y.who, .int .i64 y.place, .int .i64 y.op, .int .i64 y.fl, .int .i64 y.a, .int .i64 y.b, .int .i64 y.e, .slice y.ao y.len y.cap, .int .i64 y.n, .int .u64 y.v, .int .i64 y.fr, .int .i64 y.to] : Array Value).toList).setCells g (b * 12) (#[.int .i64 x.who, .int .i64 x.place, .int .i64 x.op, .int .i64 x.fl, .int .i64 x.a, .int .i64 x.b, .int .i64 x.e, .slice x.ao x.len x.cap, .int .i64 x.n, .int .u64 x.v, .int .i64 x.fr, .int .i64 x.to] : Array Value).toList).ownsRow w.heap.size 31 12 (.slice (some ⟨g, 0, none⟩) n pc) n (((L'.set a y).set b x).flatMap DoneS.cells) := owns_setRec doneS_cells hset1 hbn x (by rw [List.length_set]; exact hll)
         have hbe : Below w.heap.size w ((W.drew.setCells g (a * 12) (#[.int .i64 y.who, .int .i64 y.place, .int .i64 y.op, .int .i64 y.fl, .int .i64 y.a, .int .i64 y.b, .int .i64 y.e, .slice y.ao y.len y.cap, .int .i64 y.n, .int .u64 y.v, .int .i64 y.fr, .int .i64 y.to] : Array Value).toList).setCells g (b * 12) (#[.int .i64 x.who, .int .i64 x.place, .int .i64 x.op, .int .i64 x.fl, .int .i64 x.a, .int .i64 x.b, .int .i64 x.e, .slice x.ao x.len x.cap, .int .i64 x.n, .int .u64 x.v, .int .i64 x.fr, .int .i64 x.to] : Array Value).toList) := below_setCells (below_setCells hb3.drew hgw _ _) hgw _ _
         have thb2 : (W.drew.setCells g (a * 12) (#[.int .i64 y.who, .int .i64 y.place, .int .i64 y.op, .int .i64 y.fl, .int .i64 y.a, .int .i64 y.b, .int .i64 y.e, .slice y.ao y.len y.cap, .int .i64 y.n, .int .u64 y.v, .int .i64 y.fr, .int .i64 y.to] : Array Value).toList).there g (b * 12) 12 := World.there_setCells (w := W.drew) thb _ _ _
         have HSTO := Lib.hid hset2
         have HBE := Lib.hid hbe
         have THB2 := Lib.hid thb2
         clear hset1 hset2 hbe hll thb2
         have THA := Lib.hid tha
         have THB := Lib.hid thb
         clear hca hcb hc0 hrd hown tha thb
         go_upto_region 6 with fail
         refine wp_region_any (by kernel_rfl) ?_
         change wpAny _ _ _ _ _ _ _ (World.drew _)
         refine wpAny_take (i := 0) (v := ?_) rfl (by kernel_rfl) (by kernel_rfl) (by kernel_rfl) (fun _ _ _ h => h) (Or.inl ⟨by rfl, ?_⟩) ?_
         rotate_left
         · intro w
           first | (go_simp; done) | (go_simp; with_reducible rfl)
         try simp only [List.getElem_toArray, List.getElem_cons_succ, List.getElem_cons_zero, Act.put, List.setIfInBounds_toArray, List.set_cons_zero, List.set_cons_succ]
         refine wpAny_take (i := 1) (v := ?_) rfl (by kernel_rfl) (by kernel_rfl) (by kernel_rfl) (fun _ _ _ h => h) (Or.inl ⟨by rfl, ?_⟩) ?_
         rotate_left
         · intro w
           first | (go_simp; done) | (go_simp; with_reducible rfl)
         try simp only [List.getElem_toArray, List.getElem_cons_succ, List.getElem_cons_zero, Act.put, List.setIfInBounds_toArray, List.set_cons_zero, List.set_cons_succ]
         refine wpAny_take (i := 2) (v := ?_) rfl (by kernel_rfl) (by kernel_rfl) (by kernel_rfl) (fun _ _ _ h => h) (Or.inl ⟨by rfl, ?_⟩) ?_
         rotate_left
         · intro w
           first | (go_simp; done) | (go_simp; with_reducible rfl)
         try simp only [List.getElem_toArray, List.getElem_cons_succ, List.getElem_cons_zero, Act.put, List.setIfInBounds_toArray, List.set_cons_zero, List.set_cons_succ]
         refine wpAny_take (i := 3) (v := ?_) rfl (by kernel_rfl) (by kernel_rfl) (by kernel_rfl) (fun _ _ _ h => h) (Or.inl ⟨by rfl, ?_⟩) ?_
         rotate_left
         · intro w
           first | (go_simp; done) | (go_simp; with_reducible rfl)
         try simp only [List.getElem_toArray, List.getElem_cons_succ, List.getElem_cons_zero, Act.put, List.setIfInBounds_toArray, List.set_cons_zero, List.set_cons_succ]
         refine wpAny_take (i := 4) (v := ?_) rfl (by kernel_rfl) (by kernel_rfl) (by kernel_rfl) (fun _ _ _ h => h) (Or.inl ⟨by rfl, ?_⟩) ?_
         rotate_left
         · intro w
           first | (go_simp; done) | (go_simp; with_reducible rfl)
         try simp only [List.getElem_toArray, List.getElem_cons_succ, List.getElem_cons_zero, Act.put, List.setIfInBounds_toArray, List.set_cons_zero, List.set_cons_succ]
         refine wpAny_take (i := 5) (v := ?_) rfl (by kernel_rfl) (by kernel_rfl) (by kernel_rfl) (fun _ _ _ h => h) (Or.inl ⟨by rfl, ?_⟩) ?_
         rotate_left
         · intro w
           first | (go_simp; done) | (go_simp; with_reducible rfl)
         try simp only [List.getElem_toArray, List.getElem_cons_succ, List.getElem_cons_zero, Act.put, List.setIfInBounds_toArray, List.set_cons_zero, List.set_cons_succ]
         refine wpAny_take (i := 6) (v := ?_) rfl (by kernel_rfl) (by kernel_rfl) (by kernel_rfl) (fun _ _ _ h => h) (Or.inl ⟨by rfl, ?_⟩) ?_
         rotate_left
         · intro w
           first | (go_simp; done) | (go_simp; with_reducible rfl)
         try simp only [List.getElem_toArray, List.getElem_cons_succ, List.getElem_cons_zero, Act.put, List.setIfInBounds_toArray, List.set_cons_zero, List.set_cons_succ]
         refine wpAny_take (i := 8) (v := ?_) rfl (by kernel_rfl) (by kernel_rfl) (by kernel_rfl) (fun _ _ _ h => h) (Or.inl ⟨by rfl, ?_⟩) ?_
         rotate_left
         · intro w
           first | (go_simp; done) | (go_simp; with_reducible rfl)
         try simp only [List.getElem_toArray, List.getElem_cons_succ, List.getElem_cons_zero, Act.put, List.setIfInBounds_toArray, List.set_cons_zero, List.set_cons_succ]
         refine wpAny_take (i := 9) (v := ?_) rfl (by kernel_rfl) (by kernel_rfl) (by kernel_rfl) (fun _ _ _ h => h) (Or.inl ⟨by rfl, ?_⟩) ?_
         rotate_left
         · intro w
           first | (go_simp; done) | (go_simp; with_reducible rfl)
         try simp only [List.getElem_toArray, List.getElem_cons_succ, List.getElem_cons_zero, Act.put, List.setIfInBounds_toArray, List.set_cons_zero, List.set_cons_succ]
         refine wpAny_take (i := 10) (v := ?_) rfl (by kernel_rfl) (by kernel_rfl) (by kernel_rfl) (fun _ _ _ h => h) (Or.inl ⟨by rfl, ?_⟩) ?_
         rotate_left
         · intro w
           first | (go_simp; done) | (go_simp; with_reducible rfl)
         try simp only [List.getElem_toArray, List.getElem_cons_succ, List.getElem_cons_zero, Act.put, List.setIfInBounds_toArray, List.set_cons_zero, List.set_cons_succ]
         refine wpAny_ready (rs := [7, 11]) (by kernel_rfl) (by simp) ?_
         refine AllReady.cons rfl (fun K hK => ?_) (AllReady.cons rfl (fun K hK => ?_) AllReady.nil)
         · go_simp
           refine hK _ _ ?_
           clear hK K
           try simp only [List.getElem_toArray, List.getElem_cons_succ, List.getElem_cons_zero, Act.put, List.setIfInBounds_toArray, List.set_cons_zero, List.set_cons_succ]
           refine wpAny_ready (rs := [11]) (by kernel_rfl) (by simp) ?_
           refine AllReady.cons rfl (fun K hK => ?_) AllReady.nil
           go_simp
           refine hK _ _ ?_
           clear hK K
           try simp only [List.getElem_toArray, List.getElem_cons_succ, List.getElem_cons_zero, Act.put, List.setIfInBounds_toArray, List.set_cons_zero, List.set_cons_succ]
           refine wpAny_take (i := 12) (v := ?_) rfl (by kernel_rfl) (by kernel_rfl) (by kernel_rfl) (fun _ _ _ h => h) (Or.inl ⟨by rfl, ?_⟩) ?_
           rotate_left
           · intro w
             first | (go_simp; done) | (go_simp; with_reducible rfl)
           try simp only [List.getElem_toArray, List.getElem_cons_succ, List.getElem_cons_zero, Act.put, List.setIfInBounds_toArray, List.set_cons_zero, List.set_cons_succ]
           refine wpAny_ready (rs := [13]) (by kernel_rfl) (by simp) ?_
           refine AllReady.cons rfl (fun K hK => ?_) AllReady.nil
           refine step_store_mid rfl _ _ _ rfl g (a * 12) #[.int .i64 y.who, .int .i64 y.place, .int .i64 y.op, .int .i64 y.fl, .int .i64 y.a, .int .i64 y.b, .int .i64 y.e, .slice y.ao y.len y.cap, .int .i64 y.n, .int .u64 y.v, .int .i64 y.fr, .int .i64 y.to] rfl rfl THA.out (by kernel_rfl) (by simp [Value.oneCell']) ?_
           refine hK _ _ ?_
           clear hK K
           generalize W.drew.setCells g (a * 12) (#[.int .i64 y.who, .int .i64 y.place, .int .i64 y.op, .int .i64 y.fl, .int .i64 y.a, .int .i64 y.b, .int .i64 y.e, .slice y.ao y.len y.cap, .int .i64 y.n, .int .u64 y.v, .int .i64 y.fr, .int .i64 y.to] : Array Value).toList = W2 at *
           try simp only [List.getElem_toArray, List.getElem_cons_succ, List.getElem_cons_zero, Act.put, List.setIfInBounds_toArray, List.set_cons_zero, List.set_cons_succ]
           refine wpAny_take (i := 14) (v := ?_) rfl (by kernel_rfl) (by kernel_rfl) (by kernel_rfl) (fun _ _ _ h => h) (Or.inl ⟨by rfl, ?_⟩) ?_
           rotate_left
           · intro w
             first | (go_simp; done) | (go_simp; with_reducible rfl)
           try simp only [List.getElem_toArray, List.getElem_cons_succ, List.getElem_cons_zero, Act.put, List.setIfInBounds_toArray, List.set_cons_zero, List.set_cons_succ]
           refine wpAny_ready (rs := [15]) (by kernel_rfl) (by simp) ?_
           refine AllReady.cons rfl (fun K hK => ?_) AllReady.nil
           refine step_store_mid rfl _ _ _ rfl g (b * 12) #[.int .i64 x.who, .int .i64 x.place, .int .i64 x.op, .int .i64 x.fl, .int .i64 x.a, .int .i64 x.b, .int .i64 x.e, .slice x.ao x.len x.cap, .int .i64 x.n, .int .u64 x.v, .int .i64 x.fr, .int .i64 x.to] rfl rfl THB2.out (by kernel_rfl) (by simp [Value.oneCell']) ?_
           refine hK _ _ ?_
           clear hK K
           try simp only [List.getElem_toArray, List.getElem_cons_succ, List.getElem_cons_zero, Act.put, List.setIfInBounds_toArray, List.set_cons_zero, List.set_cons_succ]
           refine wpAny_done (by kernel_rfl) ?_ _
           go_wp2
           go_roundw
           case rel => exact ⟨t + 1, _, by omega, by omega, by go_num, HSW.out.trans HPE.out, HSTO.out, HBE.out⟩
           case measure => simp [intOf]; omega
         · go_simp
           refine hK _ _ ?_
           clear hK K
           try simp only [List.getElem_toArray, List.getElem_cons_succ, List.getElem_cons_zero, Act.put, List.setIfInBounds_toArray, List.set_cons_zero, List.set_cons_succ]
           refine wpAny_ready (rs := [7]) (by kernel_rfl) (by simp) ?_
           refine AllReady.cons rfl (fun K hK => ?_) AllReady.nil
           go_simp
           refine hK _ _ ?_
           clear hK K
           try simp only [List.getElem_toArray, List.getElem_cons_succ, List.getElem_cons_zero, Act.put, List.setIfInBounds_toArray, List.set_cons_zero, List.set_cons_succ]
           refine wpAny_take (i := 12) (v := ?_) rfl (by kernel_rfl) (by kernel_rfl) (by kernel_rfl) (fun _ _ _ h => h) (Or.inl ⟨by rfl, ?_⟩) ?_
           rotate_left
           · intro w
             first | (go_simp; done) | (go_simp; with_reducible rfl)
           try simp only [List.getElem_toArray, List.getElem_cons_succ, List.getElem_cons_zero, Act.put, List.setIfInBounds_toArray, List.set_cons_zero, List.set_cons_succ]
           refine wpAny_ready (rs := [13]) (by kernel_rfl) (by simp) ?_
           refine AllReady.cons rfl (fun K hK => ?_) AllReady.nil
           refine step_store_mid rfl _ _ _ rfl g (a * 12) #[.int .i64 y.who, .int .i64 y.place, .int .i64 y.op, .int .i64 y.fl, .int .i64 y.a, .int .i64 y.b, .int .i64 y.e, .slice y.ao y.len y.cap, .int .i64 y.n, .int .u64 y.v, .int .i64 y.fr, .int .i64 y.to] rfl rfl THA.out (by kernel_rfl) (by simp [Value.oneCell']) ?_
           refine hK _ _ ?_
           clear hK K
           generalize W.drew.setCells g (a * 12) (#[.int .i64 y.who, .int .i64 y.place, .int .i64 y.op, .int .i64 y.fl, .int .i64 y.a, .int .i64 y.b, .int .i64 y.e, .slice y.ao y.len y.cap, .int .i64 y.n, .int .u64 y.v, .int .i64 y.fr, .int .i64 y.to] : Array Value).toList = W2 at *
           try simp only [List.getElem_toArray, List.getElem_cons_succ, List.getElem_cons_zero, Act.put, List.setIfInBounds_toArray, List.set_cons_zero, List.set_cons_succ]
           refine wpAny_take (i := 14) (v := ?_) rfl (by kernel_rfl) (by kernel_rfl) (by kernel_rfl) (fun _ _ _ h => h) (Or.inl ⟨by rfl, ?_⟩) ?_
           rotate_left
           · intro w
             first | (go_simp; done) | (go_simp; with_reducible rfl)
           try simp only [List.getElem_toArray, List.getElem_cons_succ, List.getElem_cons_zero, Act.put, List.setIfInBounds_toArray, List.set_cons_zero, List.set_cons_succ]
           refine wpAny_ready (rs := [15]) (by kernel_rfl) (by simp) ?_
           refine AllReady.cons rfl (fun K hK => ?_) AllReady.nil
           refine step_store_mid rfl _ _ _ rfl g (b * 12) #[.int .i64 x.who, .int .i64 x.place, .int .i64 x.op, .int .i64 x.fl, .int .i64 x.a, .int .i64 x.b, .int .i64 x.e, .slice x.ao x.len x.cap, .int .i64 x.n, .int .u64 x.v, .int .i64 x.fr, .int .i64 x.to] rfl rfl THB2.out (by kernel_rfl) (by simp [Value.oneCell']) ?_
           refine hK _ _ ?_
           clear hK K
           try simp only [List.getElem_toArray, List.getElem_cons_succ, List.getElem_cons_zero, Act.put, List.setIfInBounds_toArray, List.set_cons_zero, List.set_cons_succ]
           refine wpAny_done (by kernel_rfl) ?_ _
           go_wp2
           go_roundw
           case rel => exact ⟨t + 1, _, by omega, by omega, by go_num, HSW.out.trans HPE.out, HSTO.out, HBE.out⟩
           case measure => simp [intOf]; omega
     · have hx : t = m ∨ (t < m ∧ t = 40) ∨ (t < m ∧ t < 40 ∧ n = 0) := by omega
       have HO := Lib.hid hown
       have HP := Lib.hid hperm
       clear hown hperm
       rcases hx with e | ⟨e, e2⟩ | ⟨e, e2, e3⟩
       · subst e
         go_wp2
         go_meet
         exact ⟨L', HP.out, HO.out, hbr⟩
       · subst e2
         have i1 : (40 : Int) < (m : Int) := by omega
         go_wp2
         go_meet
         exact ⟨L', HP.out, HO.out, hbr⟩
       · subst e3
         have i1 : (t : Int) < (m : Int) := by omega
         have i2 : (t : Int) < 40 := by omega
         go_wp2
         go_meet
         exact ⟨L', HP.out, HO.out, hbr⟩
  case rest =>
   obtain ⟨L2, hperm, hown, hbr⟩ := hcut
   clear hb1
   have hmay2 := HMAY.out.perm hperm.symm
   have hok2 : GoodD w L2 := fun d hd => HOK.out d (hperm.mem_iff.1 hd)
   have hpl2 : ∀ d ∈ L2, d.place < 100 := fun d hd => HPL.out d (hperm.mem_iff.1 hd)
   have hn2 : L2.length = n := hperm.length_eq.trans HN.out
   have r0 := owns_rdD hown hn2 (hok2.below hbr)
   have HR := Lib.hid hmay2.right
   have HMAY2 := Lib.hid hmay2
   have HPL2 := Lib.hid hpl2
   have HOK2 := Lib.hid hok2
   have LEN2 := Lib.hid hn2
   clear hmay2 hpl2 hok2 hn2 hperm hown HOWN HMAY HPL HOK HN
   generalize wc = W0 at *
   go_wp2_with fail
   refine (awake_any _).mono ?_
   rintro e w2 ⟨rfl, hb2⟩
   have r2 := r0.below hb2
   go_wp2_with fail
   refine (histRight_any pa n pc L2 _ r2).mono ?_
   rw [HR.out]
   rintro e w3 ⟨rfl, hb3⟩
   have r3 := r2.below hb3
   go_wp2_with fail
   refine (histEnded_any pa n pc L2 _ r3).mono ?_
   rintro e w4 ⟨rfl, hb4⟩
   have r4 := r3.below hb4
   go_wp2_with fail
   refine (refEnded_any pa n pc L2 _ r4).mono ?_
   rintro e w5 ⟨rfl, hb5⟩
   have r5 := r4.below hb5
   generalize L2.all endedB = q1 at *
   go_wp2_with fail
   refine (histMost_any pa n pc L2 _ r5 (by omega)).mono ?_
   rintro e w6 ⟨rfl, hb6⟩
   have r6 := r5.below hb6
   go_wp2_with fail
   refine (refMost_any pa n pc L2 _ r6 (by omega)).mono ?_
   rintro e w7 ⟨rfl, hb7⟩
   have r7 := r6.below hb7
   generalize mostD L2 = q2 at *
   have hb8 := below_step hbr (below_step hb2 (below_step hb3 (below_step hb4 (below_step hb5 (below_step hb6 hb7)))))
   have e1 : (q1 != q1) = false := by simp
   have e2 : ((q2 : Int) != (q2 : Int)) = false := by simp
   clear r0 r2 r3 r4 r5 r6 hb2 hb3 hb4 hb5 hb6 hb7 hbr
   have R7 := Lib.hid r7
   clear r7
   by_cases h0 : n = 0
   · subst h0
     go_wp2
     go_ret
     exact ⟨rfl, hb8⟩
   · have e3 : ((n : Int) == 0) = false := by simp; omega
     have mz := modZ_bd at' (n := n) (by omega)
     obtain ⟨p, hp⟩ : ∃ p : Nat, modZ at' n = (p : Int) := ⟨(modZ at' n).toNat, by omega⟩
     have hpn : p < n := by omega
     have HPP := Lib.hid hp
     obtain ⟨b, o, rfl, hlt, hc⟩ := R7.out.cells hpn
     obtain ⟨c0, c1, c2, c3, c4, c5, c6, c7, c8, c9, c10, c11⟩ := RdD.at12 (ao := none) (n := 0) (cap := 0) hc (Below.refl _ _)
     have hpl : p < L2.length := by rw [LEN2.out]; exact hpn
     have hxm : nthD L2 p ∈ L2 := by rw [nthD_eq hpl]; exact List.getElem_mem _
     have hxr := HMAY2.out.nth hpl
     have hxg := HOK2.out _ hxm
     have hxp := HPL2.out _ hxm
     have RF1 : Hid (rightH (L2 ++ [nthD L2 p]) = false) := by
       refine rightH_false_of (i := L2.length) (k := p) (by simp) hpl ?_
       rw [nthD_append_at, nthD_append_lt hpl, ← Bool.not_eq_true, apart_iff, ahead_iff]
       have := (right_iff _).1 hxr
       omega
     have RF2 : Hid (rightH (L2 ++ [{ nthD L2 p with place := 100, fr := max (nthD L2 p).fr (nthD L2 p).to, «to» := -1 }]) = false) := by
       refine rightH_false_of (i := L2.length) (k := p) (by simp) hpl ?_
       rw [nthD_append_at, nthD_append_lt hpl, ← Bool.not_eq_true, apart_iff, ahead_iff, ahead_iff]
       have := (right_iff _).1 hxr
       simp only
       omega
     have hgx : GoodD w (L2 ++ [nthD L2 p]) := fun d hd => by
       rcases List.mem_append.1 hd with hd | hd
       · exact HOK2.out d hd
       · rw [List.mem_singleton] at hd; subst hd; exact hxg
     have hgy : GoodD w (L2 ++ [{ nthD L2 p with place := 100, fr := max (nthD L2 p).fr (nthD L2 p).to, «to» := -1 }]) := fun d hd => by
       rcases List.mem_append.1 hd with hd | hd
       · exact HOK2.out d hd
       · rw [List.mem_singleton] at hd; subst hd
         obtain ⟨⟨h0, h1, h2, h3, h4, h5, h6, h7, h8, h9, h10⟩, h11⟩ := hxg
         exact ⟨⟨h0, by unfold I64; simp, h2, h3, h4, h5, h6, h7, h8, by have := h9; have := h10; unfold I64 at *; simp only; omega, by unfold I64; simp⟩, h11⟩
     have HGX := Lib.hid hgx
     have HGY := Lib.hid hgy
     generalize nthD L2 p = x at *
     clear hp mz hc hgx hgy hxm hxr hxg hxp hpl e3
     have e3 : ((n : Int) == 0) = false := by simp; omega
     go_wp2_with fail
     refine (mod_any at' n (by omega) (by omega) _).mono ?_
     rw [HPP.out]
     rintro e w' ⟨rfl, rfl⟩
     go_upto_region 12 with fail
     have hbX := below1 w7 (.cells #[.int .i64 x.who, .int .i64 x.place, .int .i64 x.op, .int .i64 x.fl, .int .i64 x.a, .int .i64 x.b, .int .i64 x.e, .slice x.ao x.len x.cap, .int .i64 x.n, .int .u64 x.v, .int .i64 x.fr, .int .i64 x.to] 31)
     have hX := one_boxD w7 x 31
     have rX := R7.out.below hbX
     have hbW := hb8.trans (hbX.mono hb8.size)
     generalize w7.alloc (.cells #[.int .i64 x.who, .int .i64 x.place, .int .i64 x.op, .int .i64 x.fl, .int .i64 x.a, .int .i64 x.b, .int .i64 x.e, .slice x.ao x.len x.cap, .int .i64 x.n, .int .u64 x.v, .int .i64 x.fr, .int .i64 x.to] 31) = W at *
     generalize hXB : w7.heap.size = XB at *
     have RX := Lib.hid rX
     have NIL := Lib.hid rX.rd.nil
     have LEN := Lib.hid rX.rd.len
     have hsrc : ∀ j u, (doneC L2)[j]? = some u → ∃ b' off', some (⟨b, o, none⟩ : Addr) = some ⟨b', off', none⟩ ∧ W.cell? ⟨b', off' + j, none⟩ = some u := by
       intro j u hu
       obtain ⟨b', off, e, _, hc⟩ := rX.rd.at_ j u hu
       exact ⟨b', off, e, hc⟩
     have SRC := Lib.hid hsrc
     clear hsrc
     have HGD := Lib.hid (HGX.out.below hbW)
     have HX := Lib.hid hX
     obtain ⟨a0, a1, a2, a3, a4, a5, a6, a7, a8, a9, a10, a11⟩ := hX.cells
     have hXl := hX.lt
     clear c0 c1 c2 c3 c4 c5 c6 c7 c8 c9 c10 c11 hbX hX rX hb8 R7 hXB
     generalize hpa : some (⟨b, o, none⟩ : Addr) = pa at *
     clear hpa
     go_cut [91] from 12 to 107 (fun s91 wx => s91 = .bool false ∧ Below W.heap.size W wx)
     case first =>
      refine wp_region_held_drew (S := (fun w' => Below W.heap.size W w' ∧ (∀ b o, b < W.heap.size → w'.cell? ⟨b, o, none⟩ = W.cell? ⟨b, o, none⟩))) (by kernel_rfl) ?_ (fun hHeld => ?_)
      · exact hs_refl (Below.refl _ _).drew
      refine wpAnyH_take (i := 0) (v := ?_) rfl (by kernel_rfl) (by kernel_rfl) (by kernel_rfl) (fun _ _ _ h => h) (Or.inl ⟨by rfl, ?_⟩) (by assumption) ?_
      rotate_left
      · intro w hSw
        (try dsimp only at hSw)
        first | (go_simp; done) | (go_simp; with_reducible rfl)
      try simp only [List.getElem_toArray, List.getElem_cons_succ, List.getElem_cons_zero, Act.put, List.setIfInBounds_toArray, List.set_cons_zero, List.set_cons_succ]
      refine wpAnyH_take (i := 2) (v := ?_) rfl (by kernel_rfl) (by kernel_rfl) (by kernel_rfl) (fun _ _ _ h => h) (Or.inl ⟨by rfl, ?_⟩) (by assumption) ?_
      rotate_left
      · intro w hSw
        (try dsimp only at hSw)
        first | (go_simp; done) | (go_simp; with_reducible rfl)
      try simp only [List.getElem_toArray, List.getElem_cons_succ, List.getElem_cons_zero, Act.put, List.setIfInBounds_toArray, List.set_cons_zero, List.set_cons_succ]
      refine wpAnyH_ready (rs := [1, 3]) (by kernel_rfl) (by simp) ?_
      refine AllReadyH.cons rfl (fun K hK => ?_) (AllReadyH.cons rfl (fun K hK => ?_) AllReadyH.nil)
      · refine step_ap_src W ED rfl _ _ rfl W.heap.size _ 0 _ rfl (World.ownsRow_nil _ _ _ _) (Nat.le_refl _) pa n pc (doneC L2) rfl NIL.out LEN.out SRC.out (doneC_one _) (by omega) ?_
        intro v1 w1 hown1 hg1 hb1 hf1
        rw [Nat.zero_add, List.nil_append] at hown1
        have hbA : Below W.heap.size W (w1.alloc (.cells #[.int .i64 x.who, .int .i64 x.place, .int .i64 x.op, .int .i64 x.fl, .int .i64 x.a, .int .i64 x.b, .int .i64 x.e, .slice x.ao x.len x.cap, .int .i64 x.n, .int .u64 x.v, .int .i64 x.fr, .int .i64 x.to] 31)) := below_step hb1 (below1 _ _)
        have hnA : ∀ j u, x.cells[j]? = some u → ∃ b off, some (⟨w1.heap.size, 0, none⟩ : Addr) = some ⟨b, off, none⟩ ∧ (w1.alloc (.cells #[.int .i64 x.who, .int .i64 x.place, .int .i64 x.op, .int .i64 x.fl, .int .i64 x.a, .int .i64 x.b, .int .i64 x.e, .slice x.ao x.len x.cap, .int .i64 x.n, .int .u64 x.v, .int .i64 x.fr, .int .i64 x.to] 31)).cell? ⟨b, off + j, none⟩ = some u := fun j u hu => ⟨_, 0, rfl, by rw [Nat.zero_add]; exact (box_cell _ _ _ _).trans hu⟩
        have HOWN1 := Lib.hid (hown1.alloc (.cells #[.int .i64 x.who, .int .i64 x.place, .int .i64 x.op, .int .i64 x.fl, .int .i64 x.a, .int .i64 x.b, .int .i64 x.e, .slice x.ao x.len x.cap, .int .i64 x.n, .int .u64 x.v, .int .i64 x.fr, .int .i64 x.to] 31))
        have HLE := Lib.hid hbA.size
        have HNEW := Lib.hid hnA
        have HBW := Lib.hid hbA
        refine hK.out _ _ ?_ (fun hHeld => ?_)
        · exact hs_refl hb1
        clear hK K
        try simp only [List.getElem_toArray, List.getElem_cons_succ, List.getElem_cons_zero, Act.put, List.setIfInBounds_toArray, List.set_cons_zero, List.set_cons_succ]
        clear hnA hbA hown1 hg1 hf1
        refine wpAnyH_ready (rs := [3]) (by kernel_rfl) (by simp) ?_
        refine AllReadyH.cons rfl (fun K hK => ?_) AllReadyH.nil
        go_simp
        refine hK.out _ _ ?_ (fun hHeld => ?_)
        · exact hs_refl HBW.out
        clear hK K
        try simp only [List.getElem_toArray, List.getElem_cons_succ, List.getElem_cons_zero, Act.put, List.setIfInBounds_toArray, List.set_cons_zero, List.set_cons_succ]
        refine wpAnyH_ready (rs := [4]) (by kernel_rfl) (by simp) ?_
        refine AllReadyH.cons rfl (fun K hK => ?_) AllReadyH.nil
        refine step_ap_src0 (w1.alloc (.cells #[.int .i64 x.who, .int .i64 x.place, .int .i64 x.op, .int .i64 x.fl, .int .i64 x.a, .int .i64 x.b, .int .i64 x.e, .slice x.ao x.len x.cap, .int .i64 x.n, .int .u64 x.v, .int .i64 x.fr, .int .i64 x.to] 31)) ED rfl _ _ rfl W.heap.size _ n _ rfl HOWN1.out HLE.out (some ⟨w1.heap.size, 0, none⟩) 1 1 x.cells rfl (fun h => by cases h) rfl HNEW.out (by simp [DoneS.cells, Value.oneCell']) (by omega) ?_
        intro v2 w2 hown2 hg2 hb2 hf2
        obtain ⟨a2, c2, rfl⟩ := owns_slice hown2
        have hB2 : Below W.heap.size W w2 := HBW.out.trans hb2
        refine hK.out _ _ ?_ (fun hHeld => ?_)
        · exact hs_refl hB2
        clear hK K
        try simp only [List.getElem_toArray, List.getElem_cons_succ, List.getElem_cons_zero, Act.put, List.setIfInBounds_toArray, List.set_cons_zero, List.set_cons_succ]
        have rd2 : RdD w2 a2 (n + 1) c2 (L2 ++ [x]) := owns_rdD (by rw [doneC_snoc]; exact hown2) (by rw [List.length_append, LEN2.out]; rfl) (HGD.out.below hB2)
        have RD2 := Lib.hid rd2
        have HB2 := Lib.hid hB2
        clear rd2 hown2 hg2 hb2 hf2 hB2
        refine wpAnyH_ready (rs := [5]) (by kernel_rfl) (by simp) ?_
        refine AllReadyH.cons rfl (fun K hK => ?_) AllReadyH.nil
        go_simp
        (go_at_call 12; refine (histRight_any a2 (n + 1) c2 (L2 ++ [x]) _ RD2.out).mono ?_; rw [RF1.out]; rintro e w' ⟨rfl, hb'⟩; go_wp2_with fail)
        refine hK.out _ _ ?_ (fun hHeld => ?_)
        · exact hs_step hHeld hb'
        clear hK K
        try simp only [List.getElem_toArray, List.getElem_cons_succ, List.getElem_cons_zero, Act.put, List.setIfInBounds_toArray, List.set_cons_zero, List.set_cons_succ]
        refine wpAnyH_done (by kernel_rfl) ?_ _
        go_wp2
        go_meet
        exact ⟨rfl, HB2.out.trans (hb'.mono HB2.out.size)⟩
      · go_simp
        refine hK.out _ _ ?_ (fun hHeld => ?_)
        · exact hs_refl (below1 _ _).drew
        clear hK K
        try simp only [List.getElem_toArray, List.getElem_cons_succ, List.getElem_cons_zero, Act.put, List.setIfInBounds_toArray, List.set_cons_zero, List.set_cons_succ]
        have SRC0 := SRC
        clear SRC
        have SRC : Hid (∀ j u, (doneC L2)[j]? = some u → ∃ b off, pa = some ⟨b, off, none⟩ ∧ (W.alloc (.cells #[.int .i64 x.who, .int .i64 x.place, .int .i64 x.op, .int .i64 x.fl, .int .i64 x.a, .int .i64 x.b, .int .i64 x.e, .slice x.ao x.len x.cap, .int .i64 x.n, .int .u64 x.v, .int .i64 x.fr, .int .i64 x.to] 31)).cell? ⟨b, off + j, none⟩ = some u) := fun j u hu => let ⟨b, off, e, hc⟩ := SRC0.out j u hu; ⟨b, off, e, ((below1 W _).cell (p := ⟨b, off + j, none⟩) (World.block_lt_of_cell? W ⟨b, off + j, none⟩ hc)).trans hc⟩
        refine wpAnyH_ready (rs := [1]) (by kernel_rfl) (by simp) ?_
        refine AllReadyH.cons rfl (fun K hK => ?_) AllReadyH.nil
        refine step_ap_src (W.alloc (.cells #[.int .i64 x.who, .int .i64 x.place, .int .i64 x.op, .int .i64 x.fl, .int .i64 x.a, .int .i64 x.b, .int .i64 x.e, .slice x.ao x.len x.cap, .int .i64 x.n, .int .u64 x.v, .int .i64 x.fr, .int .i64 x.to] 31)) ED rfl _ _ rfl (W.alloc (.cells #[.int .i64 x.who, .int .i64 x.place, .int .i64 x.op, .int .i64 x.fl, .int .i64 x.a, .int .i64 x.b, .int .i64 x.e, .slice x.ao x.len x.cap, .int .i64 x.n, .int .u64 x.v, .int .i64 x.fr, .int .i64 x.to] 31)).heap.size _ 0 _ rfl (World.ownsRow_nil _ _ _ _) (Nat.le_refl _) pa n pc (doneC L2) rfl NIL.out LEN.out SRC.out (doneC_one _) (by omega) ?_
        intro v1 w1 hown1 hg1 hb1 hf1
        rw [Nat.zero_add, List.nil_append] at hown1
        have hbA : Below W.heap.size W w1 := below_step (below1 _ _) hb1
        have hnA : ∀ j u, x.cells[j]? = some u → ∃ b off, some (⟨W.heap.size, 0, none⟩ : Addr) = some ⟨b, off, none⟩ ∧ w1.cell? ⟨b, off + j, none⟩ = some u := fun j u hu => ⟨_, 0, rfl, by rw [Nat.zero_add]; exact ((hb1.cell (p := ⟨W.heap.size, j, none⟩) (by simp)).trans (box_cell _ _ _ _)).trans hu⟩
        have HOWN1 := Lib.hid (owns_base hown1 (show W.heap.size ≤ (W.alloc (.cells #[.int .i64 x.who, .int .i64 x.place, .int .i64 x.op, .int .i64 x.fl, .int .i64 x.a, .int .i64 x.b, .int .i64 x.e, .slice x.ao x.len x.cap, .int .i64 x.n, .int .u64 x.v, .int .i64 x.fr, .int .i64 x.to] 31)).heap.size by simp))
        have HLE := Lib.hid hbA.size
        have HNEW := Lib.hid hnA
        have HBW := Lib.hid hbA
        refine hK.out _ _ ?_ (fun hHeld => ?_)
        · exact hs_refl hbA
        clear hK K
        try simp only [List.getElem_toArray, List.getElem_cons_succ, List.getElem_cons_zero, Act.put, List.setIfInBounds_toArray, List.set_cons_zero, List.set_cons_succ]
        clear hnA hbA hown1 hg1 hf1
        refine wpAnyH_ready (rs := [4]) (by kernel_rfl) (by simp) ?_
        refine AllReadyH.cons rfl (fun K hK => ?_) AllReadyH.nil
        refine step_ap_src0 w1 ED rfl _ _ rfl W.heap.size _ n _ rfl HOWN1.out HLE.out (some ⟨W.heap.size, 0, none⟩) 1 1 x.cells rfl (fun h => by cases h) rfl HNEW.out (by simp [DoneS.cells, Value.oneCell']) (by omega) ?_
        intro v2 w2 hown2 hg2 hb2 hf2
        obtain ⟨a2, c2, rfl⟩ := owns_slice hown2
        have hB2 : Below W.heap.size W w2 := HBW.out.trans hb2
        refine hK.out _ _ ?_ (fun hHeld => ?_)
        · exact hs_refl hB2
        clear hK K
        try simp only [List.getElem_toArray, List.getElem_cons_succ, List.getElem_cons_zero, Act.put, List.setIfInBounds_toArray, List.set_cons_zero, List.set_cons_succ]
        have rd2 : RdD w2 a2 (n + 1) c2 (L2 ++ [x]) := owns_rdD (by rw [doneC_snoc]; exact hown2) (by rw [List.length_append, LEN2.out]; rfl) (HGD.out.below hB2)
        have RD2 := Lib.hid rd2
        have HB2 := Lib.hid hB2
        clear rd2 hown2 hg2 hb2 hf2 hB2
        refine wpAnyH_ready (rs := [5]) (by kernel_rfl) (by simp) ?_
        refine AllReadyH.cons rfl (fun K hK => ?_) AllReadyH.nil
        go_simp
        (go_at_call 12; refine (histRight_any a2 (n + 1) c2 (L2 ++ [x]) _ RD2.out).mono ?_; rw [RF1.out]; rintro e w' ⟨rfl, hb'⟩; go_wp2_with fail)
        refine hK.out _ _ ?_ (fun hHeld => ?_)
        · exact hs_step hHeld hb'
        clear hK K
        try simp only [List.getElem_toArray, List.getElem_cons_succ, List.getElem_cons_zero, Act.put, List.setIfInBounds_toArray, List.set_cons_zero, List.set_cons_succ]
        refine wpAnyH_done (by kernel_rfl) ?_ _
        go_wp2
        go_meet
        exact ⟨rfl, HB2.out.trans (hb'.mono HB2.out.size)⟩
     case rest =>
      obtain ⟨rfl, hbc⟩ := hcut
      have hbW2 := hbW.trans (hbc.mono hbW.size)
      have rX2 := RX.out.below hbc
      have hX2 := HX.out.below hbc
      clear hbW HGD SRC NIL LEN RX HX hbc a0 a1 a2 a3 a4 a5 a6 a7 a8 a9 a10 a11 hXl
      generalize wc = V at *
      obtain ⟨a0, a1, a2, a3, a4, a5, a6, a7, a8, a9, a10, a11⟩ := hX2.cells
      have hXl := hX2.lt
      go_upto_region 15 with fail
      have hbY := below1 V (.cells #[.int .i64 x.who, .int .i64 x.place, .int .i64 x.op, .int .i64 x.fl, .int .i64 x.a, .int .i64 x.b, .int .i64 x.e, .slice x.ao x.len x.cap, .int .i64 x.n, .int .u64 x.v, .int .i64 x.fr, .int .i64 x.to] 31)
      have hY := one_boxD V x 31
      have hX3 := hX2.below hbY
      have hbW3 := hbW2.trans (hbY.mono hbW2.size)
      have hgeY := hbW2.size
      have RV := Lib.hid rX2
      have HVB := Lib.hid hbY
      generalize V.alloc (.cells #[.int .i64 x.who, .int .i64 x.place, .int .i64 x.op, .int .i64 x.fl, .int .i64 x.a, .int .i64 x.b, .int .i64 x.e, .slice x.ao x.len x.cap, .int .i64 x.n, .int .u64 x.v, .int .i64 x.fr, .int .i64 x.to] 31) = V1 at *
      obtain ⟨YB, hYB⟩ : ∃ YB, YB = V.heap.size := ⟨_, rfl⟩
      have HYB := Lib.hid hYB
      rw [← hYB] at hY ⊢
      have hne : XB ≠ YB := by omega
      have hne1 : ¬ XB = YB := hne
      have hne2 : ¬ YB = XB := fun e => hne e.symm
      have z1 := hY.frozen 1
      have z10 := hY.frozen 10
      have z11 := hY.frozen 11
      clear a0 a1 a2 a3 a4 a5 a6 a7 a8 a9 a10 a11 hYB
      obtain ⟨_, _, _, _, _, _, _, _, _, _, a10, a11⟩ := hX3.cells
      obtain ⟨_, b1, _, _, _, _, _, _, _, _, b10, b11⟩ := hY.cells
      have P1 := Lib.hid (((hY.put (i := 1) (v := .int .i64 100) (y := { x with place := 100 }) rfl).put (i := 10) (v := .int .i64 (max x.fr x.to)) (y := { x with place := 100, fr := max x.fr x.to }) rfl).put (i := 11) (v := .int .i64 (-1)) (y := { x with place := 100, fr := max x.fr x.to, «to» := -1 }) rfl)
      have hge : V.heap.size ≤ YB := by rw [HYB.out]; exact Nat.le_refl _
      have PB := Lib.hid (((HVB.out.setCell (p := ⟨YB, 1, none⟩) hge (.int .i64 100)).setCell (p := ⟨YB, 10, none⟩) hge (.int .i64 (max x.fr x.to))).setCell (p := ⟨YB, 11, none⟩) hge (.int .i64 (-1)))
      go_upto_region 16 with fail
      go_cut [] from 13 to 107 (fun wx => BoxD wx YB { x with place := 100, fr := max x.fr x.to, «to» := -1 } 31 ∧ Below V.heap.size V wx)
      case first =>
        by_cases hmx : x.fr < x.to
        · have hm : max x.fr x.to = x.to := by omega
          rw [hm] at P1 PB
          have HM := Lib.hid hm
          clear hm
          go_wp2
          go_meet
          rw [HM.out]
          exact ⟨P1.out, PB.out⟩
        · have hm : max x.fr x.to = x.fr := by omega
          rw [hm] at P1 PB
          have HM := Lib.hid hm
          clear hm
          go_wp2
          go_meet
          rw [HM.out]
          exact ⟨P1.out, PB.out⟩
      case rest =>
       obtain ⟨hYc, hbc⟩ := hcut
       have hbW := hbW2.trans (hbc.mono hbW2.size)
       have rX := RV.out.below hbc
       clear P1 PB hY hX3 z1 z10 z11 a10 a11 b1 b10 b11 hX2 rX2 hbW2 hbW3 HVB RV hbc hbY
       generalize wc = W at *
       have RX := Lib.hid rX
       have NIL := Lib.hid rX.rd.nil
       have LEN := Lib.hid rX.rd.len
       have hsrc : ∀ j u, (doneC L2)[j]? = some u → ∃ b' off', pa = some ⟨b', off', none⟩ ∧ W.cell? ⟨b', off' + j, none⟩ = some u := by
         intro j u hu
         obtain ⟨b', off, e, _, hc⟩ := rX.rd.at_ j u hu
         exact ⟨b', off, e, hc⟩
       have SRC := Lib.hid hsrc
       have HGD := Lib.hid (HGY.out.below hbW)
       clear hsrc rX
       generalize hy : ({ x with place := 100, fr := max x.fr x.to, «to» := -1 } : DoneS) = y at *
       clear hy
       obtain ⟨a0, a1, a2, a3, a4, a5, a6, a7, a8, a9, a10, a11⟩ := hYc.cells
       have hYl := hYc.lt
       clear hYc
       go_upto_region 17 with fail
       refine wp_region_held_drew (S := (fun w' => Below W.heap.size W w' ∧ (∀ b o, b < W.heap.size → w'.cell? ⟨b, o, none⟩ = W.cell? ⟨b, o, none⟩))) (by kernel_rfl) ?_ (fun hHeld => ?_)
       · exact hs_refl (Below.refl _ _).drew
       refine wpAnyH_take (i := 0) (v := ?_) rfl (by kernel_rfl) (by kernel_rfl) (by kernel_rfl) (fun _ _ _ h => h) (Or.inl ⟨by rfl, ?_⟩) (by assumption) ?_
       rotate_left
       · intro w hSw
         (try dsimp only at hSw)
         first | (go_simp; done) | (go_simp; with_reducible rfl)
       try simp only [List.getElem_toArray, List.getElem_cons_succ, List.getElem_cons_zero, Act.put, List.setIfInBounds_toArray, List.set_cons_zero, List.set_cons_succ]
       refine wpAnyH_take (i := 2) (v := ?_) rfl (by kernel_rfl) (by kernel_rfl) (by kernel_rfl) (fun _ _ _ h => h) (Or.inl ⟨by rfl, ?_⟩) (by assumption) ?_
       rotate_left
       · intro w hSw
         (try dsimp only at hSw)
         first | (go_simp; done) | (go_simp; with_reducible rfl)
       try simp only [List.getElem_toArray, List.getElem_cons_succ, List.getElem_cons_zero, Act.put, List.setIfInBounds_toArray, List.set_cons_zero, List.set_cons_succ]
       refine wpAnyH_ready (rs := [1, 3]) (by kernel_rfl) (by simp) ?_
       refine AllReadyH.cons rfl (fun K hK => ?_) (AllReadyH.cons rfl (fun K hK => ?_) AllReadyH.nil)
       · refine step_ap_src W ED rfl _ _ rfl W.heap.size _ 0 _ rfl (World.ownsRow_nil _ _ _ _) (Nat.le_refl _) pa n pc (doneC L2) rfl NIL.out LEN.out SRC.out (doneC_one _) (by omega) ?_
         intro v1 w1 hown1 hg1 hb1 hf1
         rw [Nat.zero_add, List.nil_append] at hown1
         have hbA : Below W.heap.size W (w1.alloc (.cells #[.int .i64 y.who, .int .i64 y.place, .int .i64 y.op, .int .i64 y.fl, .int .i64 y.a, .int .i64 y.b, .int .i64 y.e, .slice y.ao y.len y.cap, .int .i64 y.n, .int .u64 y.v, .int .i64 y.fr, .int .i64 y.to] 31)) := below_step hb1 (below1 _ _)
         have hnA : ∀ j u, y.cells[j]? = some u → ∃ b off, some (⟨w1.heap.size, 0, none⟩ : Addr) = some ⟨b, off, none⟩ ∧ (w1.alloc (.cells #[.int .i64 y.who, .int .i64 y.place, .int .i64 y.op, .int .i64 y.fl, .int .i64 y.a, .int .i64 y.b, .int .i64 y.e, .slice y.ao y.len y.cap, .int .i64 y.n, .int .u64 y.v, .int .i64 y.fr, .int .i64 y.to] 31)).cell? ⟨b, off + j, none⟩ = some u := fun j u hu => ⟨_, 0, rfl, by rw [Nat.zero_add]; exact (box_cell _ _ _ _).trans hu⟩
         have HOWN1 := Lib.hid (hown1.alloc (.cells #[.int .i64 y.who, .int .i64 y.place, .int .i64 y.op, .int .i64 y.fl, .int .i64 y.a, .int .i64 y.b, .int .i64 y.e, .slice y.ao y.len y.cap, .int .i64 y.n, .int .u64 y.v, .int .i64 y.fr, .int .i64 y.to] 31))
         have HLE := Lib.hid hbA.size
         have HNEW := Lib.hid hnA
         have HBW := Lib.hid hbA
         refine hK.out _ _ ?_ (fun hHeld => ?_)
         · exact hs_refl hb1
         clear hK K
         try simp only [List.getElem_toArray, List.getElem_cons_succ, List.getElem_cons_zero, Act.put, List.setIfInBounds_toArray, List.set_cons_zero, List.set_cons_succ]
         clear hnA hbA hown1 hg1 hf1
         refine wpAnyH_ready (rs := [3]) (by kernel_rfl) (by simp) ?_
         refine AllReadyH.cons rfl (fun K hK => ?_) AllReadyH.nil
         go_simp
         refine hK.out _ _ ?_ (fun hHeld => ?_)
         · exact hs_refl HBW.out
         clear hK K
         try simp only [List.getElem_toArray, List.getElem_cons_succ, List.getElem_cons_zero, Act.put, List.setIfInBounds_toArray, List.set_cons_zero, List.set_cons_succ]
         refine wpAnyH_ready (rs := [4]) (by kernel_rfl) (by simp) ?_
         refine AllReadyH.cons rfl (fun K hK => ?_) AllReadyH.nil
         refine step_ap_src0 (w1.alloc (.cells #[.int .i64 y.who, .int .i64 y.place, .int .i64 y.op, .int .i64 y.fl, .int .i64 y.a, .int .i64 y.b, .int .i64 y.e, .slice y.ao y.len y.cap, .int .i64 y.n, .int .u64 y.v, .int .i64 y.fr, .int .i64 y.to] 31)) ED rfl _ _ rfl W.heap.size _ n _ rfl HOWN1.out HLE.out (some ⟨w1.heap.size, 0, none⟩) 1 1 y.cells rfl (fun h => by cases h) rfl HNEW.out (by simp [DoneS.cells, Value.oneCell']) (by omega) ?_
         intro v2 w2 hown2 hg2 hb2 hf2
         obtain ⟨a2, c2, rfl⟩ := owns_slice hown2
         have hB2 : Below W.heap.size W w2 := HBW.out.trans hb2
         refine hK.out _ _ ?_ (fun hHeld => ?_)
         · exact hs_refl hB2
         clear hK K
         try simp only [List.getElem_toArray, List.getElem_cons_succ, List.getElem_cons_zero, Act.put, List.setIfInBounds_toArray, List.set_cons_zero, List.set_cons_succ]
         have rd2 : RdD w2 a2 (n + 1) c2 (L2 ++ [y]) := owns_rdD (by rw [doneC_snoc]; exact hown2) (by rw [List.length_append, LEN2.out]; rfl) (HGD.out.below hB2)
         have RD2 := Lib.hid rd2
         have HB2 := Lib.hid hB2
         clear rd2 hown2 hg2 hb2 hf2 hB2
         refine wpAnyH_ready (rs := [5]) (by kernel_rfl) (by simp) ?_
         refine AllReadyH.cons rfl (fun K hK => ?_) AllReadyH.nil
         go_simp
         (go_at_call 12; refine (histRight_any a2 (n + 1) c2 (L2 ++ [y]) _ RD2.out).mono ?_; rw [RF2.out]; rintro e w' ⟨rfl, hb'⟩; go_wp2_with fail)
         refine hK.out _ _ ?_ (fun hHeld => ?_)
         · exact hs_step hHeld hb'
         clear hK K
         try simp only [List.getElem_toArray, List.getElem_cons_succ, List.getElem_cons_zero, Act.put, List.setIfInBounds_toArray, List.set_cons_zero, List.set_cons_succ]
         refine wpAnyH_take (i := 6) (v := ?_) rfl (by kernel_rfl) (by kernel_rfl) (by kernel_rfl) (fun _ _ _ h => h) (Or.inl ⟨by rfl, ?_⟩) (by assumption) ?_
         rotate_left
         · intro w hSw
           (try dsimp only at hSw)
           first | (go_simp; done) | (go_simp; with_reducible rfl)
         try simp only [List.getElem_toArray, List.getElem_cons_succ, List.getElem_cons_zero, Act.put, List.setIfInBounds_toArray, List.set_cons_zero, List.set_cons_succ]
         refine wpAnyH_take (i := 7) (v := ?_) rfl (by kernel_rfl) (by kernel_rfl) (by kernel_rfl) (fun _ _ _ h => h) (Or.inl ⟨by rfl, ?_⟩) (by assumption) ?_
         rotate_left
         · intro w hSw
           (try dsimp only at hSw)
           first | (go_simp; done) | (go_simp; with_reducible rfl)
         try simp only [List.getElem_toArray, List.getElem_cons_succ, List.getElem_cons_zero, Act.put, List.setIfInBounds_toArray, List.set_cons_zero, List.set_cons_succ]
         refine wpAnyH_done (by kernel_rfl) ?_ _
         go_wp2
         go_ret
         exact ⟨rfl, hbW.trans ((HB2.out.trans (hb'.mono HB2.out.size)).mono hbW.size)⟩
       · go_simp
         refine hK.out _ _ ?_ (fun hHeld => ?_)
         · exact hs_refl (below1 _ _).drew
         clear hK K
         try simp only [List.getElem_toArray, List.getElem_cons_succ, List.getElem_cons_zero, Act.put, List.setIfInBounds_toArray, List.set_cons_zero, List.set_cons_succ]
         have SRC0 := SRC
         clear SRC
         have SRC : Hid (∀ j u, (doneC L2)[j]? = some u → ∃ b off, pa = some ⟨b, off, none⟩ ∧ (W.alloc (.cells #[.int .i64 y.who, .int .i64 y.place, .int .i64 y.op, .int .i64 y.fl, .int .i64 y.a, .int .i64 y.b, .int .i64 y.e, .slice y.ao y.len y.cap, .int .i64 y.n, .int .u64 y.v, .int .i64 y.fr, .int .i64 y.to] 31)).cell? ⟨b, off + j, none⟩ = some u) := fun j u hu => let ⟨b, off, e, hc⟩ := SRC0.out j u hu; ⟨b, off, e, ((below1 W _).cell (p := ⟨b, off + j, none⟩) (World.block_lt_of_cell? W ⟨b, off + j, none⟩ hc)).trans hc⟩
         refine wpAnyH_ready (rs := [1]) (by kernel_rfl) (by simp) ?_
         refine AllReadyH.cons rfl (fun K hK => ?_) AllReadyH.nil
         refine step_ap_src (W.alloc (.cells #[.int .i64 y.who, .int .i64 y.place, .int .i64 y.op, .int .i64 y.fl, .int .i64 y.a, .int .i64 y.b, .int .i64 y.e, .slice y.ao y.len y.cap, .int .i64 y.n, .int .u64 y.v, .int .i64 y.fr, .int .i64 y.to] 31)) ED rfl _ _ rfl (W.alloc (.cells #[.int .i64 y.who, .int .i64 y.place, .int .i64 y.op, .int .i64 y.fl, .int .i64 y.a, .int .i64 y.b, .int .i64 y.e, .slice y.ao y.len y.cap, .int .i64 y.n, .int .u64 y.v, .int .i64 y.fr, .int .i64 y.to] 31)).heap.size _ 0 _ rfl (World.ownsRow_nil _ _ _ _) (Nat.le_refl _) pa n pc (doneC L2) rfl NIL.out LEN.out SRC.out (doneC_one _) (by omega) ?_
         intro v1 w1 hown1 hg1 hb1 hf1
         rw [Nat.zero_add, List.nil_append] at hown1
         have hbA : Below W.heap.size W w1 := below_step (below1 _ _) hb1
         have hnA : ∀ j u, y.cells[j]? = some u → ∃ b off, some (⟨W.heap.size, 0, none⟩ : Addr) = some ⟨b, off, none⟩ ∧ w1.cell? ⟨b, off + j, none⟩ = some u := fun j u hu => ⟨_, 0, rfl, by rw [Nat.zero_add]; exact ((hb1.cell (p := ⟨W.heap.size, j, none⟩) (by simp)).trans (box_cell _ _ _ _)).trans hu⟩
         have HOWN1 := Lib.hid (owns_base hown1 (show W.heap.size ≤ (W.alloc (.cells #[.int .i64 y.who, .int .i64 y.place, .int .i64 y.op, .int .i64 y.fl, .int .i64 y.a, .int .i64 y.b, .int .i64 y.e, .slice y.ao y.len y.cap, .int .i64 y.n, .int .u64 y.v, .int .i64 y.fr, .int .i64 y.to] 31)).heap.size by simp))
         have HLE := Lib.hid hbA.size
         have HNEW := Lib.hid hnA
         have HBW := Lib.hid hbA
         refine hK.out _ _ ?_ (fun hHeld => ?_)
         · exact hs_refl hbA
         clear hK K
         try simp only [List.getElem_toArray, List.getElem_cons_succ, List.getElem_cons_zero, Act.put, List.setIfInBounds_toArray, List.set_cons_zero, List.set_cons_succ]
         clear hnA hbA hown1 hg1 hf1
         refine wpAnyH_ready (rs := [4]) (by kernel_rfl) (by simp) ?_
         refine AllReadyH.cons rfl (fun K hK => ?_) AllReadyH.nil
         refine step_ap_src0 w1 ED rfl _ _ rfl W.heap.size _ n _ rfl HOWN1.out HLE.out (some ⟨W.heap.size, 0, none⟩) 1 1 y.cells rfl (fun h => by cases h) rfl HNEW.out (by simp [DoneS.cells, Value.oneCell']) (by omega) ?_
         intro v2 w2 hown2 hg2 hb2 hf2
         obtain ⟨a2, c2, rfl⟩ := owns_slice hown2
         have hB2 : Below W.heap.size W w2 := HBW.out.trans hb2
         refine hK.out _ _ ?_ (fun hHeld => ?_)
         · exact hs_refl hB2
         clear hK K
         try simp only [List.getElem_toArray, List.getElem_cons_succ, List.getElem_cons_zero, Act.put, List.setIfInBounds_toArray, List.set_cons_zero, List.set_cons_succ]
         have rd2 : RdD w2 a2 (n + 1) c2 (L2 ++ [y]) := owns_rdD (by rw [doneC_snoc]; exact hown2) (by rw [List.length_append, LEN2.out]; rfl) (HGD.out.below hB2)
         have RD2 := Lib.hid rd2
         have HB2 := Lib.hid hB2
         clear rd2 hown2 hg2 hb2 hf2 hB2
         refine wpAnyH_ready (rs := [5]) (by kernel_rfl) (by simp) ?_
         refine AllReadyH.cons rfl (fun K hK => ?_) AllReadyH.nil
         go_simp
         (go_at_call 12; refine (histRight_any a2 (n + 1) c2 (L2 ++ [y]) _ RD2.out).mono ?_; rw [RF2.out]; rintro e w' ⟨rfl, hb'⟩; go_wp2_with fail)
         refine hK.out _ _ ?_ (fun hHeld => ?_)
         · exact hs_step hHeld hb'
         clear hK K
         try simp only [List.getElem_toArray, List.getElem_cons_succ, List.getElem_cons_zero, Act.put, List.setIfInBounds_toArray, List.set_cons_zero, List.set_cons_succ]
         refine wpAnyH_take (i := 6) (v := ?_) rfl (by kernel_rfl) (by kernel_rfl) (by kernel_rfl) (fun _ _ _ h => h) (Or.inl ⟨by rfl, ?_⟩) (by assumption) ?_
         rotate_left
         · intro w hSw
           (try dsimp only at hSw)
           first | (go_simp; done) | (go_simp; with_reducible rfl)
         try simp only [List.getElem_toArray, List.getElem_cons_succ, List.getElem_cons_zero, Act.put, List.setIfInBounds_toArray, List.set_cons_zero, List.set_cons_succ]
         refine wpAnyH_take (i := 7) (v := ?_) rfl (by kernel_rfl) (by kernel_rfl) (by kernel_rfl) (fun _ _ _ h => h) (Or.inl ⟨by rfl, ?_⟩) (by assumption) ?_
         rotate_left
         · intro w hSw
           (try dsimp only at hSw)
           first | (go_simp; done) | (go_simp; with_reducible rfl)
         try simp only [List.getElem_toArray, List.getElem_cons_succ, List.getElem_cons_zero, Act.put, List.setIfInBounds_toArray, List.set_cons_zero, List.set_cons_succ]
         refine wpAnyH_done (by kernel_rfl) ?_ _
         go_wp2
         go_ret
         exact ⟨rfl, hbW.trans ((HB2.out.trans (hb'.mono HB2.out.size)).mono hbW.size)⟩

theorem HistLaid_any (w : World) (ao : Option Addr) (len cap : Nat) (L : List (List Value)) (h : IsNest w doneK ao len cap L) (ta : Option Addr) (m tc : Nat) (T : List (List Value)) (ht : IsRows w [.int .i64] ta m tc T) (a : Int) (ha : (Lit.int .i64 a).wf = true) :
    Calls Try.prog 4 #[.slice ao len cap, .slice ta m tc, .int .i64 a] w fun e w' => e = .returned (.bool true) ∧ Below w.heap.size w w' := by
  obtain ⟨l, hl⟩ := isNest_rdD h
  obtain ⟨ts, hts⟩ := isRows_rdI ht
  exact HistLaid_1 ao ta len cap m tc l ts a w hl hts (laid_good hl.good)
end Go.Proofs.Ytonldjkmbapjeaa
