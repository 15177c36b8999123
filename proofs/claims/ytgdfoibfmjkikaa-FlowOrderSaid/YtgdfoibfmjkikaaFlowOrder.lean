/- FlowOrder. -/
import Derived.Test.YtgdfoibfmjkikaaFlowRises
import Derived.Test.YtgdfoibfmjkikaaHelpP
namespace Go.Proofs.Ytgdfoibfmjkikaa
set_option linter.unusedVariables false
set_option linter.unusedSimpArgs false
open Go.RowKit Go.Proofs.YtgdfoibfmjkikaaMem Go.Proofs.YtgdfoibfmjkikaaFlat

/-- A flow, the row of what came, the row of what was served: all three apart. -/
def Ord (base : Nat) (w : World) (b : Nat) (x : FlS) (iv : Value) (il : List Pk) (ov : Value) (ol : List Pk) : Prop :=
  base ≤ w.heap.size ∧ x.Ok ∧ ∃ F, FlowAt w b x F ∧ (∀ k, F k → base ≤ k) ∧ w.ownsRow base 24 3 iv il.length (pks il) ∧ w.ownsRow base 24 3 ov ol.length (pks ol) ∧
    (∀ k, iv.ownBlock = some k → ¬ F k) ∧ (∀ k, ov.ownBlock = some k → ¬ F k ∧ iv.ownBlock ≠ some k)
section
variable {base : Nat} {w w' : World} {b : Nat} {x : FlS} {iv ov : Value} {il ol : List Pk}
theorem Ord.below (h : Ord base w b x iv il ov ol) (hb : Below w.heap.size w w') : Ord base w' b x iv il ov ol := by
  obtain ⟨h0, h1, F, h2, h3, h4, h5, h6, h7⟩ := h
  exact ⟨Nat.le_trans h0 hb.size, h1, F, h2.below hb, h3, owns_below (B := 0) h4 hb, owns_below (B := 0) h5 hb, h6, h7⟩
theorem Ord.in_ {p : Pk} {v' : Value} (h : Ord base w b x iv il ov ol) (hown : w'.ownsRow base 24 3 v' (il.length + 1) (pks il ++ [.int .i64 p.flow, .int .i64 p.len, .int .i64 p.mark])) (hg : w.grownBy w' iv.ownBlock) (hfr : FreshOr w iv v') : Ord base w' b x v' (il ++ [p]) ov ol := by
  obtain ⟨h0, h1, F, h2, h3, h4, h5, h6, h7⟩ := h
  have hlt := h2.lt
  have hf : Fr (fun k => iv.ownBlock = some k) w w' := (Fr.refl _ w).grown hg fun k hk => .inl hk
  have e1 : (il ++ [p]).length = il.length + 1 := by simp
  have e2 : pks (il ++ [p]) = pks il ++ [.int .i64 p.flow, .int .i64 p.len, .int .i64 p.mark] := by rw [pks_append]; simp [pks, Pk.cells]
  refine ⟨Nat.le_trans h0 hf.size, h1, F, h2.fr hf fun k hk hk2 => h6 k hk2 hk, h3, by rw [e1, e2]; exact hown, owns_fr h5 hf fun k hk => (h7 k hk).2, fun k hk hk2 => ?_, fun k hk => ⟨(h7 k hk).1, fun e => ?_⟩⟩
  · rcases hfr with hfr | hfr
    · rw [hfr] at hk; exact h6 k hk hk2
    · have := hfr k hk; have := hlt k hk2; omega
  · rcases hfr with hfr | hfr
    · rw [hfr] at e; exact (h7 k hk).2 e
    · have := hfr k e; have := (h5.lt k hk).2; omega
theorem Ord.out {p : Pk} {v' : Value} (h : Ord base w b x iv il ov ol) (hown : w'.ownsRow base 24 3 v' (ol.length + 1) (pks ol ++ [.int .i64 p.flow, .int .i64 p.len, .int .i64 p.mark])) (hg : w.grownBy w' ov.ownBlock) (hfr : FreshOr w ov v') : Ord base w' b x iv il v' (ol ++ [p]) := by
  obtain ⟨h0, h1, F, h2, h3, h4, h5, h6, h7⟩ := h
  have hlt := h2.lt
  have hf : Fr (fun k => ov.ownBlock = some k) w w' := (Fr.refl _ w).grown hg fun k hk => .inl hk
  have e1 : (ol ++ [p]).length = ol.length + 1 := by simp
  have e2 : pks (ol ++ [p]) = pks ol ++ [.int .i64 p.flow, .int .i64 p.len, .int .i64 p.mark] := by rw [pks_append]; simp [pks, Pk.cells]
  refine ⟨Nat.le_trans h0 hf.size, h1, F, h2.fr hf fun k hk hk2 => (h7 k hk2).1 hk, h3, owns_fr h4 hf fun k hk hk2 => (h7 k hk2).2 hk, by rw [e1, e2]; exact hown, h6, fun k hk => ⟨fun hk2 => ?_, fun e => ?_⟩⟩
  · rcases hfr with hfr | hfr
    · rw [hfr] at hk; exact (h7 k hk).1 hk2
    · have := hfr k hk; have := hlt k hk2; omega
  · rcases hfr with hfr | hfr
    · rw [hfr] at hk; exact (h7 k hk).2 e
    · have := hfr k hk; have := (h4.lt k e).2; omega
theorem Ord.rows (h : Ord base w b x iv il ov ol) : base ≤ w.heap.size ∧ (∃ a c, iv = .slice a il.length c ∧ w.ownsRow base 24 3 (.slice a il.length c) il.length (pks il)) ∧ (∃ a c, ov = .slice a ol.length c ∧ w.ownsRow base 24 3 (.slice a ol.length c) ol.length (pks ol)) := by
  obtain ⟨h0, h1, F, h2, h3, h4, h5, h6, h7⟩ := h
  obtain ⟨a, c, rfl⟩ := owns_slice h4
  obtain ⟨a', c', rfl⟩ := owns_slice h5
  exact ⟨h0, ⟨a, c, rfl, h4⟩, ⟨a', c', rfl, h5⟩⟩
theorem Ord.len (h : Ord base w b x iv il ov ol) : Calls Try.prog 12 #[.pointer (some ⟨b, 0, none⟩)] w fun e w' => e = .returned (.int .i64 x.l.length) ∧ w = w' := by
  obtain ⟨h0, h1, F, h2, -⟩ := h
  exact len_any b x F w h2
end
theorem ordArrive (base b : Nat) (x : FlS) (iv ov : Value) (il ol : List Pk) (v : Int) (p : Pk) (w : World) (h : Ord base w b x iv il ov ol) (hv : W64 v) (hp : p.Ok) :
    Calls Try.prog 11 #[.pointer (some ⟨b, 0, none⟩), .int .u64 v, .agg #[.int .i64 p.flow, .int .i64 p.len, .int .i64 p.mark]] w fun e w' => e = .returned (.bool (!x.full)) ∧ Ord base w' b (x.arrive v p) iv il ov ol ∧ Below base w w' := by
  obtain ⟨h0, h1, F, h2, h3⟩ := h
  exact (arrive_any b x F v p w h2 h1).mono fun e w' hh => ⟨hh.1, by
    obtain ⟨h3, h4, h5, h6, h7⟩ := h3
    have p' := hh.2
    have s := p'.2.size
    refine ⟨⟨by omega, FlS.arrive_ok h1 hv hp, Ext F w w', p'.1, fun k hk => ?_, owns_fr h4 p'.2 h6, owns_fr h5 p'.2 fun k hk => (h7 k hk).1, fun k hk hk2 => ?_, fun k hk => ⟨fun hk2 => ?_, (h7 k hk).2⟩⟩, p'.2.below h3 h0⟩
    · rcases hk with hk | hk
      · exact h3 k hk
      · omega
    · rcases hk2 with hk2 | hk2
      · exact h6 k hk hk2
      · have := (h4.lt k hk).2; omega
    · rcases hk2 with hk2 | hk2
      · exact (h7 k hk).1 hk2
      · have := (h5.lt k hk).2; omega⟩
theorem ordServe (base b : Nat) (x : FlS) (iv ov : Value) (il ol : List Pk) (w : World) (h : Ord base w b x iv il ov ol) :
    Calls Try.prog 13 #[.pointer (some ⟨b, 0, none⟩)] w fun e w' => e = .returned (.tuple #[x.head.val, .int .u64 x.out, .bool x.has]) ∧ Ord base w' b x.serve iv il ov ol ∧ Below base w w' := by
  obtain ⟨h0, h1, F, h2, h3⟩ := h
  exact (serve_any b x F w h2 h1).mono fun e w' hh => ⟨hh.1, by
    obtain ⟨h3, h4, h5, h6, h7⟩ := h3
    have p' := hh.2
    have s := p'.2.size
    refine ⟨⟨by omega, FlS.serve_ok h1, Ext F w w', p'.1, fun k hk => ?_, owns_fr h4 p'.2 h6, owns_fr h5 p'.2 fun k hk => (h7 k hk).1, fun k hk hk2 => ?_, fun k hk => ⟨fun hk2 => ?_, (h7 k hk).2⟩⟩, p'.2.below h3 h0⟩
    · rcases hk with hk | hk
      · exact h3 k hk
      · omega
    · rcases hk2 with hk2 | hk2
      · exact h6 k hk hk2
      · have := (h4.lt k hk).2; omega
    · rcases hk2 with hk2 | hk2
      · exact (h7 k hk).1 hk2
      · have := (h5.lt k hk).2; omega⟩
theorem FlS.serve_nil {x : FlS} (h : x.l = []) : x.serve = x := by unfold FlS.serve; rw [h]
theorem FlS.serve_l {x : FlS} {p : Pk} {rest : List Pk} (h : x.l = p :: rest) : x.serve.l = rest ∧ x.has = true ∧ x.head = p := by
  refine ⟨?_, FlS.has_cons.2 (by rw [h]; simp), FlS.head_cons h⟩
  unfold FlS.serve; rw [h]

theorem one3 (p : Pk) : ∀ u ∈ (#[.int .i64 p.flow, .int .i64 p.len, .int .i64 p.mark] : Array Value).toList, u.oneCell' = true := by
  intro u hu
  simp at hu
  rcases hu with rfl | rfl | rfl <;> rfl

set_option maxHeartbeats 2000000 in
theorem order_in (r m : Int) (ao : Option Addr) (n cap : Nat) (l : List ActS) (w : World) (hr : W64 r) (h : RdA w ao n cap l) :
    Calls Try.prog 4 #[.int .u64 r, .int .i64 m, .slice ao n cap] w fun e w' => e = .returned (.bool true) ∧ Below w.heap.size w w' := by
  have hs := h.small
  go_enter Try.func4, Try.ntmps4
  go_wp2_with fail
  refine (mineMade r m hr _).mono ?_
  rintro e w1 ⟨bf, bx, rfl, M0, T⟩
  have O : Ord w.heap.size w1 bf (FlS.new (madeR r) (madeMost m)) (.slice none 0 0) [] (.slice none 0 0) [] := by
    obtain ⟨m1, m2⟩ := M0.one
    exact ⟨m1, M0.2.1, _, m2, fun k hk => hk.1, World.ownsRow_nil _ _ _ _, World.ownsRow_nil _ _ _ _, fun k hk => (by cases hk), fun k hk => (by cases hk)⟩
  have L0 : (FlS.new (madeR r) (madeMost m)).l = [] := rfl
  generalize FlS.new (madeR r) (madeMost m) = x0 at *
  clear M0
  go_wp2_with fail
  refine (awakeF_any _).mono ?_
  rintro e w2 ⟨rfl, hb2⟩
  replace O := O.below hb2
  replace T := T.trans (hb2.mono T.size)
  have HL0 := Lib.hid L0
  clear L0
  go_wp2_with fail
  go_loopw [9, 10, 11] (fun u9 u10 v wr => ∃ (k : Nat) (x : FlS) (il ol : List Pk), k ≤ n ∧ k ≤ 60 ∧ v = .int .i64 k ∧ il = ol ++ x.l ∧ il.length ≤ k ∧ Ord w.heap.size wr bf x u9 il u10 ol ∧ Below w.heap.size w wr) (fun u9 u10 v _ => (60 - intOf v).toNat)
  case atStart => exact ⟨0, x0, [], [], Nat.zero_le _, Nat.zero_le _, rfl, by rw [HL0.out]; rfl, Nat.le_refl _, O, T⟩
  case round =>
    obtain ⟨k, x, il, ol, hk, hk8, rfl, hio, hil, Ok, Tk⟩ := hrel
    clear O T
    have HIO := Lib.hid hio
    have hol : ol.length ≤ il.length := by rw [hio]; simp
    clear hio
    by_cases hlx : k < n ∧ k < 60
    · obtain ⟨hl, h8⟩ := hlx
      have i1 : (k : Int) < (n : Int) := by omega
      have i2 : (k : Int) < 60 := by omega
      have ha := h.nth_ok k
      obtain ⟨bl, off, e0, hbl, -⟩ := (h.below Tk).at_ k hl
      obtain ⟨q0, q1, q2, q3, q4⟩ := h.cells5 hl e0 Tk
      have C5 := Lib.hid fun w' (hb : Below w.heap.size w w') => h.cells5 hl e0 hb
      subst e0
      have hmb := modZ_bd (nthA l k).kind (n := 5) (by omega)
      rcases (show modZ (nthA l k).kind 5 < 3 ∨ 3 ≤ modZ (nthA l k).kind 5 by omega) with hm | hm
      · cases hf : x.full with
        | true =>
          have ea : x.arrive (nthA l k).v (nthA l k).p = x := by unfold FlS.arrive; rw [hf]; rfl
          have HA := Lib.hid ea
          have HF := Lib.hid hf
          clear ea hf
          have Td := Tk.drew
          have Od := Ok.below (Below.refl _ _).drew
          go_wp2_with fail
          refine (mod_any _ _ (by omega) (by omega) _).mono ?_
          rintro e w' ⟨rfl, rfl⟩
          go_wp2_with fail
          go_region_held3 (fun w' => w'.cell? ⟨bl, off + k * 5, none⟩ = some (.int .i64 (nthA l k).kind) ∧ w'.cell? ⟨bl, off + k * 5 + 1, none⟩ = some (.int .u64 (nthA l k).v) ∧ w'.cell? ⟨bl, off + k * 5 + 2, none⟩ = some (.int .i64 (nthA l k).p.flow) ∧ w'.cell? ⟨bl, off + k * 5 + 3, none⟩ = some (.int .i64 (nthA l k).p.len) ∧ w'.cell? ⟨bl, off + k * 5 + 4, none⟩ = some (.int .i64 (nthA l k).p.mark))
            (exact C5.out _ Td)
            ((go_at_call 11; refine (ordArrive w.heap.size bf x _ _ il ol (nthA l k).v (nthA l k).p _ Od ha.v ha.p).mono ?_; rw [HF.out, HA.out]; rintro e w4 ⟨rfl, O4, hb4⟩; replace Td := Td.trans hb4; replace Od := O4; clear O4))
          go_wp2_with fail
          go_roundw
          case rel => exact ⟨k + 1, x, il, ol, hl, h8, by go_num, HIO.out, by omega, Od, Td⟩
          case measure => simp [intOf]; omega
        | false =>
          have ea : (x.arrive (nthA l k).v (nthA l k).p).l = x.l ++ [(nthA l k).p] := by unfold FlS.arrive; rw [hf]; rfl
          have HA := Lib.hid ea
          have HF := Lib.hid hf
          clear ea hf
          have Td := Tk.drew
          have Od := Ok.below (Below.refl _ _).drew
          go_wp2_with fail
          refine (mod_any _ _ (by omega) (by omega) _).mono ?_
          rintro e w' ⟨rfl, rfl⟩
          go_wp2_with fail
          go_region_held3 (fun w' => w'.cell? ⟨bl, off + k * 5, none⟩ = some (.int .i64 (nthA l k).kind) ∧ w'.cell? ⟨bl, off + k * 5 + 1, none⟩ = some (.int .u64 (nthA l k).v) ∧ w'.cell? ⟨bl, off + k * 5 + 2, none⟩ = some (.int .i64 (nthA l k).p.flow) ∧ w'.cell? ⟨bl, off + k * 5 + 3, none⟩ = some (.int .i64 (nthA l k).p.len) ∧ w'.cell? ⟨bl, off + k * 5 + 4, none⟩ = some (.int .i64 (nthA l k).p.mark))
            (exact C5.out _ Td)
            ((go_at_call 11; refine (ordArrive w.heap.size bf x _ _ il ol (nthA l k).v (nthA l k).p _ Od ha.v ha.p).mono ?_; rw [HF.out]; rintro e w4 ⟨rfl, O4, hb4⟩; replace Td := Td.trans hb4; replace Od := O4; clear O4))
          obtain ⟨hbase, ⟨ai, ci, rfl, hown⟩, -⟩ := Od.rows
          obtain ⟨q0, q1, q2, q3, q4⟩ := C5.out _ Td
          have hn2 : il.length + 1 ≤ 1099511627776 := by omega
          go_wp2_with ((at_builtin; refine ap_new w4 #[.int .i64 (nthA l k).p.flow, .int .i64 (nthA l k).p.len, .int .i64 (nthA l k).p.mark] EP rfl _ _ rfl w.heap.size _ il.length _ rfl hown hbase 1 rfl rfl (one3 _) hn2 ?_; intro v' w5 hown5 hg5 hb5 hfr5))
          have O5 := Od.in_ hown5 hg5 hfr5
          go_roundw
          case rel => exact ⟨k + 1, _, _, ol, hl, h8, by go_num, by rw [HA.out, HIO.out, List.append_assoc], by simp; omega, O5, Td.trans hb5⟩
          case measure => simp [intOf]; omega
      · cases hx : x.l with
        | nil =>
          have e1 : x.has = false := FlS.has_nil.2 hx
          have e2 : x.serve = x := FlS.serve_nil hx
          have E2 := Lib.hid e2
          have HX := Lib.hid hx
          clear e2 hx
          go_wp2_with fail
          refine (mod_any _ _ (by omega) (by omega) _).mono ?_
          rintro e w' ⟨rfl, rfl⟩
          go_wp2_with fail
          refine (ordServe w.heap.size bf x _ _ il ol _ Ok).mono ?_
          rw [e1, E2.out]
          rintro e w4 ⟨rfl, O4, hb4⟩
          simp only [Pk.val]
          have T4 := Tk.trans hb4
          have hn1 := below1 w4 (.cells #[.int .i64 x.head.flow, .int .i64 x.head.len, .int .i64 x.head.mark] 24)
          have O5 := O4.below hn1
          have T5 := T4.trans (hn1.mono T4.size)
          go_wp2_with fail
          go_roundw
          case rel => exact ⟨k + 1, x, il, ol, hl, h8, by go_num, HIO.out, by omega, O5, T5⟩
          case measure => simp [intOf]; omega
        | cons p rest =>
          obtain ⟨e1, e2, e3⟩ := FlS.serve_l hx
          have HX := Lib.hid hx
          have E1 := Lib.hid e1
          clear e1 hx
          go_wp2_with fail
          refine (mod_any _ _ (by omega) (by omega) _).mono ?_
          rintro e w' ⟨rfl, rfl⟩
          go_wp2_with fail
          refine (ordServe w.heap.size bf x _ _ il ol _ Ok).mono ?_
          rw [e2, e3]
          rintro e w4 ⟨rfl, O4, hb4⟩
          simp only [Pk.val]
          have T4 := Tk.trans hb4
          have hn1 := below1 w4 (.cells #[.int .i64 p.flow, .int .i64 p.len, .int .i64 p.mark] 24)
          have O5 := O4.below hn1
          have T5 := T4.trans (hn1.mono T4.size)
          obtain ⟨hbase, -, ⟨ai, ci, rfl, hown⟩⟩ := O5.rows
          have hn2 : ol.length + 1 ≤ 1099511627776 := by omega
          go_wp2_with ((at_builtin; refine ap_new (w4.alloc (.cells #[.int .i64 p.flow, .int .i64 p.len, .int .i64 p.mark] 24)) #[.int .i64 p.flow, .int .i64 p.len, .int .i64 p.mark] EP rfl _ _ rfl w.heap.size _ ol.length _ rfl hown hbase 1 (by simp [Act.eval]) rfl (one3 _) hn2 ?_; intro v' w5 hown5 hg5 hb5 hfr5))
          have O6 := O5.out hown5 hg5 hfr5
          go_roundw
          case rel => exact ⟨k + 1, _, il, _, hl, h8, by go_num, by rw [E1.out, HIO.out, HX.out, List.append_assoc]; rfl, by omega, O6, T5.trans hb5⟩
          case measure => simp [intOf]; omega
    · have hx8 : x.l.length ≤ 8 := by have h1 := Ok.2.1.len; have h2 := Ok.2.1.m8; omega
      have i3 : (n : Int) ≤ (k : Int) ∨ (k : Int) < (n : Int) ∧ 60 ≤ (k : Int) := by omega
      rcases i3 with i1 | ⟨i1, i2⟩
      all_goals
        go_wp2_with fail
        go_loopw [10, 15] (fun u10 v wr2 => ∃ (j : Nat) (y : FlS) (ol : List Pk), j ≤ 8 ∧ v = .int .i64 j ∧ il = ol ++ y.l ∧ y.l.length + j ≤ 8 ∧ Ord w.heap.size wr2 bf y u9 il u10 ol ∧ Below w.heap.size w wr2) (fun u10 v _ => (8 - intOf v).toNat)
        case atStart => exact ⟨0, x, ol, Nat.zero_le _, rfl, HIO.out, hx8, Ok, Tk⟩
        case round =>
          obtain ⟨j, y, ol, hj, rfl, hio, hy, Oj, Tj⟩ := hrel
          clear Ok Tk HIO
          have HIO := Lib.hid hio
          have hol : ol.length ≤ il.length := by rw [hio]; simp
          clear hio
          by_cases h8 : j < 8
          · have j1 : (j : Int) < 8 := by omega
            cases hx : y.l with
            | nil =>
              have e1 : y.has = false := FlS.has_nil.2 hx
              have e2 : y.serve = y := FlS.serve_nil hx
              have E2 := Lib.hid e2
              have HX := Lib.hid (show y.l.length = 0 by rw [hx]; rfl)
              clear e2 hx
              go_wp2_with fail
              refine (ordServe w.heap.size bf y _ _ il ol _ Oj).mono ?_
              rw [e1, E2.out]
              rintro e w4 ⟨rfl, O4, hb4⟩
              simp only [Pk.val]
              have T4 := Tj.trans hb4
              have hn1 := below1 w4 (.cells #[.int .i64 y.head.flow, .int .i64 y.head.len, .int .i64 y.head.mark] 24)
              have O5 := O4.below hn1
              have T5 := T4.trans (hn1.mono T4.size)
              go_wp2_with fail
              go_roundw
              case rel => exact ⟨j + 1, y, ol, h8, by go_num, HIO.out, by rw [HX.out]; omega, O5, T5⟩
              case measure => simp [intOf]; omega
            | cons p rest =>
              obtain ⟨e1, e2, e3⟩ := FlS.serve_l hx
              have HX := Lib.hid hx
              have E1 := Lib.hid e1
              have hry : rest.length + 1 + j ≤ 8 := by rw [hx] at hy; exact hy
              clear e1 hx
              go_wp2_with fail
              refine (ordServe w.heap.size bf y _ _ il ol _ Oj).mono ?_
              rw [e2, e3]
              rintro e w4 ⟨rfl, O4, hb4⟩
              simp only [Pk.val]
              have T4 := Tj.trans hb4
              have hn1 := below1 w4 (.cells #[.int .i64 p.flow, .int .i64 p.len, .int .i64 p.mark] 24)
              have O5 := O4.below hn1
              have T5 := T4.trans (hn1.mono T4.size)
              obtain ⟨hbase, -, ⟨ai, ci, rfl, hown⟩⟩ := O5.rows
              have hn2 : ol.length + 1 ≤ 1099511627776 := by omega
              go_wp2_with ((at_builtin; refine ap_new (w4.alloc (.cells #[.int .i64 p.flow, .int .i64 p.len, .int .i64 p.mark] 24)) #[.int .i64 p.flow, .int .i64 p.len, .int .i64 p.mark] EP rfl _ _ rfl w.heap.size _ ol.length _ rfl hown hbase 1 (by simp [Act.eval]) rfl (one3 _) hn2 ?_; intro v' w5 hown5 hg5 hb5 hfr5))
              have O6 := O5.out hown5 hg5 hfr5
              go_roundw
              case rel => exact ⟨j + 1, _, _, h8, by go_num, by rw [E1.out, HIO.out, HX.out, List.append_assoc]; rfl, by rw [E1.out]; omega, O6, T5.trans hb5⟩
              case measure => simp [intOf]; omega
          · have j1 : 8 ≤ (j : Int) := by omega
            have hy0 : y.l.length = 0 := by omega
            have hyl : y.l = [] := List.eq_nil_of_length_eq_zero hy0
            have he : ol = il := by rw [HIO.out, hyl]; simp
            subst he
            obtain ⟨-, ⟨ai, ci, rfl, hwi⟩, ⟨ao', co, rfl, hwo⟩⟩ := Oj.rows
            have HY := Lib.hid hy0
            clear hy0 hyl hy
            go_wp2_with fail
            refine (plainP_any ai ao' _ ci co _ _ (owns_rdS hwi (pks_one _)) (owns_rdS hwo (pks_one _)) rfl).mono ?_
            rintro e w6 ⟨rfl, hb6⟩
            have O6 := Oj.below hb6
            go_wp2_with fail
            refine (O6.len).mono ?_
            rw [HY.out]
            rintro e w' ⟨rfl, rfl⟩
            go_wp2_with fail
            go_ret
            exact ⟨rfl, Tj.trans (hb6.mono Tj.size)⟩

theorem FlowOrder_any (w : World) (r : Int) (w0 : (Lit.int .u64 r).wf = true) (m : Int) (w1 : (Lit.int .i64 m).wf = true) (ao : Option Addr) (n cap : Nat) (L : List (List Value)) (w2 : IsRows w [.int .i64, .int .u64, .int .i64, .int .i64, .int .i64] ao n cap L) :
    Calls Try.prog 4 #[.int .u64 r, .int .i64 m, .slice ao n cap] w fun e w' => e = .returned (.bool true) ∧ Below w.heap.size w w' := by
  obtain ⟨l, h⟩ := isRows_rdA w2
  exact order_in r m ao n cap l w (wf_u64 w0) h
end Go.Proofs.Ytgdfoibfmjkikaa
