/- FlowRises. -/
import Derived.Test.YtgdfoibfmjkikaaFlowPlays
namespace Go.Proofs.Ytgdfoibfmjkikaa
set_option linter.unusedVariables false
set_option linter.unusedSimpArgs false
open Go.RowKit Go.Proofs.YtgdfoibfmjkikaaMem Go.Proofs.YtgdfoibfmjkikaaFlat

theorem RdA.cells5 {w w' : World} {ao : Option Addr} {n cap : Nat} {l : List ActS} (h : RdA w ao n cap l) {k bl off : Nat} (hk : k < n) (he : ao = some ⟨bl, off, none⟩) (hb : Below w.heap.size w w') :
    w'.cell? ⟨bl, off + k * 5, none⟩ = some (.int .i64 (nthA l k).kind) ∧ w'.cell? ⟨bl, off + k * 5 + 1, none⟩ = some (.int .u64 (nthA l k).v) ∧ w'.cell? ⟨bl, off + k * 5 + 2, none⟩ = some (.int .i64 (nthA l k).p.flow) ∧ w'.cell? ⟨bl, off + k * 5 + 3, none⟩ = some (.int .i64 (nthA l k).p.len) ∧ w'.cell? ⟨bl, off + k * 5 + 4, none⟩ = some (.int .i64 (nthA l k).p.mark) := by
  obtain ⟨b, o, e, _, hc⟩ := (h.below hb).at_ k hk
  rw [he] at e
  simp only [Option.some.injEq, Addr.mk.injEq, and_true] at e
  obtain ⟨rfl, rfl⟩ := e
  exact ⟨hc 0 _ rfl, hc 1 _ rfl, hc 2 _ rfl, hc 3 _ rfl, hc 4 _ rfl⟩

/-- No start ahead of s, nor ahead of the finish. -/
def FlS.Inv (x : FlS) (s : Int) : Prop := (x.has = true → s ≤ x.start ∧ x.finish ≤ x.start) ∧ (x.has = false → s ≤ x.finish)
theorem FlS.has_nil {x : FlS} : x.has = false ↔ x.l = [] := by simp [FlS.has]
theorem FlS.has_cons {x : FlS} : x.has = true ↔ x.l ≠ [] := by simp [FlS.has]
theorem satAdd_ge {a b : Int} (ha : W64 a) (hb : 0 ≤ b) : a ≤ satAdd a b := by unfold W64 at ha; unfold satAdd; split <;> omega
theorem FlS.fin_ge {x : FlS} (ok : x.Ok) (p : Pk) : x.start ≤ x.fin p := satAdd_ge ok.start (costOf_w64 ok.r).1
theorem FlS.arrive_inv {x : FlS} {s v : Int} {p : Pk} (ok : x.Ok) (h : x.Inv s) : x.finish ≤ (x.arrive v p).finish ∧ (x.arrive v p).Inv s := by
  unfold FlS.arrive
  cases hf : x.full with
  | true => exact ⟨Int.le_refl _, h⟩
  | false =>
    refine ⟨Int.le_refl _, fun _ => ?_, fun hh => ?_⟩
    · show s ≤ (if x.l = [] then max v x.finish else x.start) ∧ x.finish ≤ (if x.l = [] then max v x.finish else x.start)
      by_cases hl : x.l = []
      · have := h.2 (FlS.has_nil.2 hl)
        rw [if_pos hl]; omega
      · have := h.1 (FlS.has_cons.2 hl)
        rw [if_neg hl]; exact this
    · rw [FlS.has_nil] at hh; simp [FlS.put] at hh
theorem FlS.serve_inv {x : FlS} {s : Int} (ok : x.Ok) (h : x.Inv s) : x.finish ≤ x.serve.finish ∧ x.serve.Inv s := by
  unfold FlS.serve
  split
  · exact ⟨Int.le_refl _, h⟩
  · rename_i p rest hl
    have h1 := h.1 (FlS.has_cons.2 (by rw [hl]; simp))
    have h2 := FlS.fin_ge ok p
    refine ⟨by show x.finish ≤ x.fin p; omega, fun _ => ?_, fun _ => ?_⟩
    · show s ≤ x.fin p ∧ x.fin p ≤ x.fin p; omega
    · show s ≤ x.fin p; omega

theorem after_start {x : FlS} {s : Int} (h : x.Inv s) : (x.has = false ∧ x.start0 = 0 ∧ x.Inv s) ∨ (x.has = true ∧ x.start0 = x.start ∧ s ≤ x.start ∧ x.finish ≤ x.start ∧ x.Inv x.start) := by
  cases hh : x.has with
  | false => exact .inl ⟨rfl, by unfold FlS.start0; rw [if_pos (FlS.has_nil.1 hh)], h⟩
  | true =>
    have h1 := h.1 hh
    exact .inr ⟨rfl, by unfold FlS.start0; rw [if_neg (FlS.has_cons.1 hh)], h1.1, h1.2, fun _ => ⟨Int.le_refl _, h1.2⟩, fun h2 => by rw [hh] at h2; cases h2⟩

set_option maxHeartbeats 1000000 in
theorem rises_in (r m : Int) (ao : Option Addr) (n cap : Nat) (l : List ActS) (w : World) (hr : W64 r) (h : RdA w ao n cap l) :
    Calls Try.prog 6 #[.int .u64 r, .int .i64 m, .slice ao n cap] w fun e w' => e = .returned (.bool true) ∧ Below w.heap.size w w' := by
  have HS := Lib.hid h.small
  have hs := h.small
  go_enter Try.func6, Try.ntmps6
  go_wp2_with fail
  refine (mineMade r m hr _).mono ?_
  rintro e w1 ⟨bf, bx, rfl, M0, T⟩
  have M := M0.one
  have ok0 := M0.2.1
  have I0 : (FlS.new (madeR r) (madeMost m)).Inv 0 := ⟨fun hh => by simp [FlS.has, FlS.new] at hh, fun _ => Int.le_refl _⟩
  have F0 : (FlS.new (madeR r) (madeMost m)).finish = 0 := rfl
  generalize FlS.new (madeR r) (madeMost m) = x0 at *
  clear M0
  go_wp2_with fail
  refine (awakeF_any _).mono ?_
  rintro e w2 ⟨rfl, hb2⟩
  replace M := M.below hb2
  replace T := T.trans (hb2.mono T.size)
  have W0 := Lib.hid F0
  go_wp2_with fail
  go_loopw [9, 10, 11] (fun u9 u10 v wr => ∃ (k : Nat) (x : FlS) (s : Int), k ≤ n ∧ k ≤ 80 ∧ u9 = .int .u64 s ∧ u10 = .int .u64 x.finish ∧ v = .int .i64 k ∧ Mine w.heap.size wr bf x ∧ x.Ok ∧ x.Inv s ∧ Below w.heap.size w wr) (fun u9 u10 v _ => (80 - intOf v).toNat)
  case atStart => exact ⟨0, x0, 0, Nat.zero_le _, Nat.zero_le _, rfl, by rw [W0.out], rfl, M, ok0, I0, T⟩
  case round =>
    obtain ⟨k, x, s, hk, hk8, rfl, rfl, rfl, Mk, ok, I, Tk⟩ := hrel
    by_cases hl : k < n
    · have i1 : (k : Int) < (n : Int) := by omega
      by_cases h8 : k < 80
      · have i2 : (k : Int) < 80 := by omega
        have ha := h.nth_ok k
        obtain ⟨bl, off, rfl, hbl, hc⟩ := (h.below Tk).at_ k hl
        have q0 := hc 0 _ rfl
        have q1 := hc 1 _ rfl
        have q2 := hc 2 _ rfl
        have q3 := hc 3 _ rfl
        have q4 := hc 4 _ rfl
        simp only [Nat.add_zero] at q0
        have hmb := modZ_bd (nthA l k).kind (n := 5) (by omega)
        have Td := Tk.drew
        have Md := Mk.below (Below.refl _ _).drew
        have C5 := Lib.hid fun w' (hb : Below w.heap.size w w') => h.cells5 hl rfl hb
        rcases (show modZ (nthA l k).kind 5 < 3 ∨ 3 ≤ modZ (nthA l k).kind 5 by omega) with hm | hm
        · go_wp2_with fail
          refine (mod_any _ _ (by omega) (by omega) _).mono ?_
          rintro e w' ⟨rfl, rfl⟩
          go_wp2_with fail
          go_region_held3 (fun w' => w'.cell? ⟨bl, off + k * 5, none⟩ = some (.int .i64 (nthA l k).kind) ∧ w'.cell? ⟨bl, off + k * 5 + 1, none⟩ = some (.int .u64 (nthA l k).v) ∧ w'.cell? ⟨bl, off + k * 5 + 2, none⟩ = some (.int .i64 (nthA l k).p.flow) ∧ w'.cell? ⟨bl, off + k * 5 + 3, none⟩ = some (.int .i64 (nthA l k).p.len) ∧ w'.cell? ⟨bl, off + k * 5 + 4, none⟩ = some (.int .i64 (nthA l k).p.mark))
            (exact C5.out _ Td)
            (first
              | (go_at_call 19; refine (v_any _ ha _).mono ?_; rintro e w3 ⟨rfl, hb3⟩; replace Md := Md.below hb3; replace Td := Td.trans (hb3.mono Td.size))
              | (go_at_call 20; refine (packet_any _ ha _).mono ?_; rintro e w3 ⟨rfl, hb3⟩; replace Md := Md.below hb3; replace Td := Td.trans (hb3.mono Td.size); simp only [Pk.val])
              | (go_at_call 11; refine (mineArrive w.heap.size bf x (nthA l k).time (nthA l k).pk _ Md ok).mono ?_; rintro e w4 ⟨rfl, M4, hb4⟩; replace Td := Td.trans hb4; replace Md := M4; clear M4))
          obtain ⟨fx, I'⟩ := FlS.arrive_inv (v := (nthA l k).time) (p := (nthA l k).pk) ok I
          have ok' := FlS.arrive_ok ok (ActS.time_w64 ha) (ActS.pk_ok ha)
          generalize x.arrive (nthA l k).time (nthA l k).pk = x' at *
          rcases after_start I' with ⟨hh, h0, I2⟩ | ⟨hh, h0, hs1, hs2, I2⟩
          · go_wp2_with fail
            refine (start_any bf x' _ _ Md.2).mono ?_
            rw [hh, h0]
            rintro e w' ⟨rfl, rfl⟩
            go_wp2_with fail
            refine (finish_any bf x' _ _ Md.2).mono ?_
            rintro e w' ⟨rfl, rfl⟩
            go_wp2_with fail
            refine (finish_any bf x' _ _ Md.2).mono ?_
            rintro e w' ⟨rfl, rfl⟩
            go_wp2_with fail
            go_roundw
            case rel => exact ⟨k + 1, x', s, hl, h8, rfl, rfl, by go_num, Md, ok', I2, Td⟩
            case measure => simp [intOf]; omega
          · go_wp2_with fail
            refine (start_any bf x' _ _ Md.2).mono ?_
            rw [hh, h0]
            rintro e w' ⟨rfl, rfl⟩
            go_wp2_with fail
            refine (finish_any bf x' _ _ Md.2).mono ?_
            rintro e w' ⟨rfl, rfl⟩
            go_wp2_with fail
            refine (finish_any bf x' _ _ Md.2).mono ?_
            rintro e w' ⟨rfl, rfl⟩
            go_wp2_with fail
            refine (finish_any bf x' _ _ Md.2).mono ?_
            rintro e w' ⟨rfl, rfl⟩
            go_wp2_with fail
            go_roundw
            case rel => exact ⟨k + 1, x', x'.start, hl, h8, rfl, rfl, by go_num, Md, ok', I2, Td⟩
            case measure => simp [intOf]; omega
        · go_wp2_with fail
          refine (mod_any _ _ (by omega) (by omega) _).mono ?_
          rintro e w' ⟨rfl, rfl⟩
          go_wp2_with fail
          refine (mineServe w.heap.size bf x _ Mk ok).mono ?_
          rintro e w4 ⟨rfl, M4, hb4⟩
          replace Td := Tk.trans hb4
          replace Md := M4
          clear M4
          simp only [Pk.val]
          obtain ⟨fx, I'⟩ := FlS.serve_inv ok I
          have ok' := FlS.serve_ok ok
          generalize x.serve = x' at *
          rcases after_start I' with ⟨hh, h0, I2⟩ | ⟨hh, h0, hs1, hs2, I2⟩
          · go_wp2_with fail
            refine (start_any bf x' _ _ Md.2).mono ?_
            rw [hh, h0]
            rintro e w' ⟨rfl, rfl⟩
            go_wp2_with fail
            refine (finish_any bf x' _ _ Md.2).mono ?_
            rintro e w' ⟨rfl, rfl⟩
            go_wp2_with fail
            refine (finish_any bf x' _ _ Md.2).mono ?_
            rintro e w' ⟨rfl, rfl⟩
            go_wp2_with fail
            go_roundw
            case rel => exact ⟨k + 1, x', s, hl, h8, rfl, rfl, by go_num, Md, ok', I2, Td⟩
            case measure => simp [intOf]; omega
          · go_wp2_with fail
            refine (start_any bf x' _ _ Md.2).mono ?_
            rw [hh, h0]
            rintro e w' ⟨rfl, rfl⟩
            go_wp2_with fail
            refine (finish_any bf x' _ _ Md.2).mono ?_
            rintro e w' ⟨rfl, rfl⟩
            go_wp2_with fail
            refine (finish_any bf x' _ _ Md.2).mono ?_
            rintro e w' ⟨rfl, rfl⟩
            go_wp2_with fail
            refine (finish_any bf x' _ _ Md.2).mono ?_
            rintro e w' ⟨rfl, rfl⟩
            go_wp2_with fail
            go_roundw
            case rel => exact ⟨k + 1, x', x'.start, hl, h8, rfl, rfl, by go_num, Md, ok', I2, Td⟩
            case measure => simp [intOf]; omega
      · have i2 : 80 ≤ (k : Int) := by omega
        go_wp2
        go_ret
        exact ⟨rfl, Tk⟩
    · have i1 : (n : Int) ≤ (k : Int) := by omega
      go_wp2
      go_ret
      exact ⟨rfl, Tk⟩

theorem FlowRises_any (w : World) (r : Int) (w0 : (Lit.int .u64 r).wf = true) (m : Int) (w1 : (Lit.int .i64 m).wf = true) (ao : Option Addr) (n cap : Nat) (L : List (List Value)) (w2 : IsRows w [.int .i64, .int .u64, .int .i64, .int .i64, .int .i64] ao n cap L) :
    Calls Try.prog 6 #[.int .u64 r, .int .i64 m, .slice ao n cap] w fun e w' => e = .returned (.bool true) ∧ Below w.heap.size w w' := by
  obtain ⟨l, h⟩ := isRows_rdA w2
  exact rises_in r m ao n cap l w (wf_u64 w0) h
end Go.Proofs.Ytgdfoibfmjkikaa
