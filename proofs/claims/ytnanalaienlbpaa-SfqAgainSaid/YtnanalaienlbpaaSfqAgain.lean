/- SfqAgain. -/
import Derived.Test.YtnanalaienlbpaaSfq11
import Derived.Test.YtnanalaienlbpaaSfq12
import Derived.Test.YtnanalaienlbpaaPlayMod
import Derived.Test.YtnanalaienlbpaaFairM
namespace Go.Proofs.Ytnanalaienlbpaa
set_option linter.unusedVariables false
set_option linter.unusedSimpArgs false
set_option maxRecDepth 20000
open Go.RowKit Go.Proofs.YtnanalaienlbpaaMem Go.Proofs.YtnanalaienlbpaaFlat Go.Proofs.YtnanalaienlbpaaMapK

theorem startsO {w wx : World} {b : Nat} {s : SfS} (h : OwnS w wx b s) (hn : s.fs.length ≤ 1000000) :
    Calls Try.prog 20 #[.pointer (some ⟨b, 0, none⟩)] wx fun e w' => ∃ v, e = .returned v ∧ w'.ownsRow wx.heap.size 52 2 v s.starts.length (entC s.starts) ∧ Below wx.heap.size wx w' ∧ OwnS w w' b s := by
  have h' := h
  obtain ⟨F, h1, h2, h3⟩ := h
  refine (startsS_any b s F wx h1 hn).mono ?_
  rintro e w' ⟨v, rfl, hr, hb⟩
  exact ⟨v, rfl, hr, hb, h'.below hb⟩

/-- Flow 1 with k packets of one size, flow 2 without. -/
def agF (r st S : Int) (k : Nat) : FlS := ⟨r, 8, st, st, List.replicate k ⟨1, S, 0⟩⟩
def agS (r S v most st : Int) (k : Nat) : SfS := ⟨v, most, [(1, agF r st S k), (2, FlS.new 1 8)]⟩
theorem ag_start (r S : Int) : (SfS.new.add 1 r 8).add 2 1 8 = agS r S 0 0 0 0 := rfl
theorem ag_full (r st S : Int) {k : Nat} (h : k < 8) : (agF r st S k).full = false := by
  unfold FlS.full agF
  simp only [List.length_replicate, decide_eq_false_iff_not]
  omega
theorem ag_arrive (r S : Int) {k : Nat} (h : k < 8) : (agS r S 0 0 0 k).arrive ⟨1, S, 0⟩ = agS r S 0 0 0 (k + 1) ∧ (agS r S 0 0 0 k).arriveE ⟨1, S, 0⟩ = 0 := by
  have hg : getF (agS r S 0 0 0 k).fs 1 = some (agF r 0 S k) := rfl
  have hf := ag_full r 0 S h
  constructor
  · unfold SfS.arrive
    simp only
    rw [hg]
    simp only
    have : (agF r 0 S k).arrive (agS r S 0 0 0 k).v ⟨1, S, 0⟩ = agF r 0 S (k + 1) := by
      unfold FlS.arrive
      rw [hf]
      show FlS.put _ _ _ = _
      unfold FlS.put agF agS
      simp only
      congr 1
      · split <;> rfl
      · exact (List.replicate_succ' ..).symm
    rw [this]
    rfl
  · unfold SfS.arriveE
    simp only
    rw [hg]
    simp only
    rw [hf]; rfl
theorem ag_busy (r S v most st : Int) (k : Nat) : (agS r S v most st (k + 1)).removeE 1 = 8 ∧ (agS r S v most st (k + 1)).remove 1 = agS r S v most st (k + 1) := ⟨rfl, rfl⟩
theorem ag_serve (r S v most st : Int) (k : Nat) : (agS r S v most st (k + 1)).has = true ∧ (agS r S v most st (k + 1)).serve = agS r S st (max most (satAdd st (costOf S r))) (satAdd st (costOf S r)) k := by
  have e : entL (agS r S v most st (k + 1)).fs = [(st, 1)] := rfl
  have f : (agS r S v most st (k + 1)).first = (st, 1) := by
    unfold SfS.first
    rw [e]
    exact minK_one _
  refine ⟨by unfold SfS.has; rw [e]; rfl, ?_⟩
  unfold SfS.serve
  rw [if_neg (by rw [e]; simp), f]
  rfl
/-- Flow 1 gone, and come anew with a packet. -/
def agG (v most : Int) : SfS := ⟨v, most, [(2, FlS.new 1 8)]⟩
def agH (v most : Int) : SfS := ⟨v, most, [(2, FlS.new 1 8), (1, FlS.new 1 1)]⟩
def agI (v most : Int) : SfS := ⟨v, most, [(2, FlS.new 1 8), (1, ⟨1, 1, v, 0, [⟨1, 1, 0⟩]⟩)]⟩
theorem ag_gone (r S v most st : Int) : (agS r S v most st 0).removeE 1 = 0 ∧ (agS r S v most st 0).remove 1 = agG v most ∧ (agG v most).removeE 1 = 5 ∧ (agG v most).remove 1 = agG v most ∧ (agG v most).arriveE ⟨1, 1, 0⟩ = 5 ∧ (agG v most).arrive ⟨1, 1, 0⟩ = agG v most ∧ (getF (agG v most).fs 1).isSome = false ∧ (agG v most).add 1 1 1 = agH v most ∧ (agH v most).arriveE ⟨1, 1, 0⟩ = 0 :=
  ⟨rfl, rfl, rfl, rfl, rfl, rfl, rfl, rfl, rfl⟩
theorem ag_anew {v most : Int} (h : 0 ≤ v) : (agH v most).arrive ⟨1, 1, 0⟩ = agI v most := by
  have : max v 0 = v := Int.max_eq_left h
  show SfS.mk v most [(2, FlS.new 1 8), (1, FlS.put (FlS.new 1 1) v ⟨1, 1, 0⟩)] = _
  unfold FlS.put FlS.new agI
  simp [this]
  exact ⟨rfl, by decide⟩
theorem ag_starts (v most : Int) : (agI v most).starts = [(v, 1)] := by
  have : entL (agI v most).fs = [(v, 1)] := rfl
  unfold SfS.starts
  rw [this]
  unfold sortE
  simp

set_option maxHeartbeats 2000000 in
theorem again_in (r0 n0 z0 : Int) (w : World) (hr : W64 r0) :
    Calls Try.prog 7 #[.int .u64 r0, .int .i64 n0, .int .i64 z0] w fun e w' => e = .returned (.bool true) ∧ Below w.heap.size w w' := by
  have w1 : 0 ≤ r0 ∧ r0 < 18446744073709551616 := hr
  have hn5 := modZ_bd n0 (n := 5) (by omega)
  have hz5 := modZ_bd z0 (n := 500) (by omega)
  go_enter Try.func7, Try.ntmps7
  go_wp2_with fail
  refine (newO w w (Below.refl _ _)).mono ?_
  rintro e w1 ⟨b, rfl, H⟩
  go_wp2_with fail
  refine (mod_any _ _ (by omega) (by omega) _).mono ?_
  rintro e w' ⟨rfl, rfl⟩
  generalize modZ n0 5 = N0 at *
  have u1 : Value.int .i64 (IntKind.i64.wrap (1 + N0)) = .int .i64 (1 + N0) := by rw [IntWalk.i64_left, IntWalk.wrap64_in _ (by omega)]
  go_wp2_with fail
  refine (mod_any _ _ (by omega) (by omega) _).mono ?_
  rintro e w' ⟨rfl, rfl⟩
  generalize modZ z0 500 = Z0 at *
  have u2 : Value.int .i64 (IntKind.i64.wrap (1 + Z0)) = .int .i64 (1 + Z0) := by rw [IntWalk.i64_left, IntWalk.wrap64_in _ (by omega)]
  go_wp2_with fail
  clear u1 u2
  refine (awake10_any _).mono ?_
  rintro e w2 ⟨rfl, hb2⟩
  replace H := H.below hb2
  have r1 : 1 ≤ 1 + r0 % 1000 ∧ 1 + r0 % 1000 ≤ 1000 := by omega
  obtain ⟨N, hN⟩ : ∃ N : Nat, 1 + N0 = N := ⟨(1 + N0).toNat, by omega⟩
  rw [hN]
  have hNb : 1 ≤ N ∧ N ≤ 5 := by omega
  obtain ⟨S, hS⟩ : ∃ S, 1 + Z0 = S := ⟨_, rfl⟩
  rw [hS]
  have hSb : 1 ≤ S ∧ S ≤ 500 := by omega
  clear hN hS hn5 hz5 hb2
  generalize 1 + r0 % 1000 = r at *
  go_wp2_with fail
  refine (addO H 1 r 8 (by unfold W64; omega)).mono ?_
  rw [show (getF SfS.new.fs 1).isSome = false from rfl]
  rintro e w3 ⟨rfl, H3⟩
  go_wp2_with fail
  refine (addO H3 2 1 8 (by unfold W64; omega)).mono ?_
  rw [show (getF (SfS.new.add 1 r 8).fs 2).isSome = false from rfl, ag_start r S]
  rintro e w4 ⟨rfl, H4⟩
  have ok0 : (agS r S 0 0 0 0).Ok := by
    rw [← ag_start r S]
    exact SfS.add_ok (SfS.add_ok SfS.new_ok (by unfold I64; omega) (by unfold W64; omega)) (by unfold I64; omega) (by unfold W64; omega)
  have hp : (Pk.mk 1 S 0).Ok := ⟨by show I64 1; unfold I64; omega, by show I64 S; unfold I64; omega, by show I64 0; unfold I64; omega⟩
  have hC : costOf S r = S * r := by
    unfold costOf satMul
    have h1 : S * r ≤ 500 * 1000 := Int.mul_le_mul hSb.2 r1.2 (by omega) (by omega)
    rw [Int.max_eq_left (by omega), if_pos (by omega)]
  have hC1 : 0 ≤ S * r := Int.mul_nonneg (by omega) (by omega)
  have hC2 : S * r ≤ 500000 := Int.le_trans (Int.mul_le_mul hSb.2 r1.2 (by omega) (by omega)) (by omega)
  clear H H3
  go_wp2_with fail
  go_loopw [8] (fun v8 wr => ∃ k : Nat, k ≤ N ∧ v8 = .int .i64 k ∧ OwnS w wr b (agS r S 0 0 0 k) ∧ (agS r S 0 0 0 k).Ok) (fun v8 _ => N - (intOf v8).toNat)
  case atStart => exact ⟨0, Nat.zero_le _, rfl, H4, ok0⟩
  case round =>
    obtain ⟨k, hk, rfl, hO, hok⟩ := hrel
    by_cases hkn : k < N
    · have i1 : (k : Int) < (N : Int) := by omega
      obtain ⟨a1, a2⟩ := ag_arrive r S (k := k) (by omega)
      obtain ⟨a3, a4⟩ := ag_busy r S 0 0 0 k
      have ok2 := SfS.arrive_ok hok hp
      rw [a1] at ok2
      have OK2 := Lib.hid ok2
      have C1 := arriveO hO hok ⟨1, S, 0⟩ hp
      rw [a1, a2] at C1
      clear a1 a2 ok2
      go_wp2_with fail
      refine C1.mono ?_
      rintro e w5 ⟨rfl, H5⟩
      go_wp2_with fail
      refine (removeO H5 1).mono ?_
      rw [a3, a4]
      rintro e w6 ⟨rfl, H6⟩
      go_wp2
      go_roundw
      case rel => exact ⟨k + 1, by omega, by go_num, H6, OK2.out⟩
      case measure => simp [intOf]; omega
    · obtain rfl : k = N := by omega
      clear H4 ok0
      go_wp2_with fail
      go_loopw [9, 10, 11] (fun v9 _ _ wr => ∃ (j : Nat) (v most : Int), j ≤ k ∧ v9 = .int .i64 j ∧ most = j * (S * r) ∧ (j = 0 ∧ v = 0 ∨ 1 ≤ j ∧ v = most - S * r) ∧ OwnS w wr b (agS r S v most most (k - j)) ∧ (agS r S v most most (k - j)).Ok) (fun v9 _ _ _ => k - (intOf v9).toNat)
      case atStart => exact ⟨0, 0, 0, Nat.zero_le _, rfl, by simp, .inl ⟨rfl, rfl⟩, hO, hok⟩
      case round =>
        obtain ⟨j, v, most, hj, rfl, hm, hv, hOj, okj⟩ := hrel
        clear hO hok
        generalize hCC : S * r = C at *
        by_cases hjn : j < k
        · have i1 : (j : Int) < (k : Int) := by omega
          obtain ⟨d, hd⟩ : ∃ d, k - j = d + 1 := ⟨k - j - 1, by omega⟩
          rw [hd] at hOj okj
          obtain ⟨s1, s2⟩ := ag_serve r S v most most d
          have hm0 : 0 ≤ most := by rw [hm]; exact Int.mul_nonneg (by omega) (by omega)
          have hm1 : most ≤ 5 * 500000 := by rw [hm]; exact Int.mul_le_mul (by omega) hC2 (by omega) (by omega)
          have hsa : satAdd most (costOf S r) = most + C := by rw [hC]; unfold satAdd; rw [if_pos (by omega)]
          rw [hsa, show max most (most + C) = most + C by omega] at s2
          have ok2 := SfS.serve_ok okj
          rw [s2] at ok2
          have OK2 := Lib.hid ok2
          have HM := Lib.hid hm
          have HV := Lib.hid hv
          have HD := Lib.hid hd
          have C1 := serveO hOj okj (by show 2 ≤ 1000000; omega)
          rw [s1, s2] at C1
          clear s1 s2 ok2 hsa hm hv hd
          unfold Pk.val at C1
          go_wp2_with fail
          refine C1.mono ?_
          rintro e w5 ⟨rfl, H5⟩
          have H6 := H5.below (below1 w5 (.cells #[.int .i64 (agS r S v most most (d + 1)).head.flow, .int .i64 (agS r S v most most (d + 1)).head.len, .int .i64 (agS r S v most most (d + 1)).head.mark] 34))
          go_wp2
          go_roundw
          case rel =>
            have h1 := HD.out
            refine ⟨j + 1, most, most + C, by omega, by go_num, ?_, .inr ⟨by omega, by omega⟩, ?_, ?_⟩
            · rw [HM.out]; rw [show ((j + 1 : Nat) : Int) = (j : Int) + 1 by omega, Int.add_mul, Int.one_mul]
            · rw [show k - (j + 1) = d by omega]; exact H6
            · rw [show k - (j + 1) = d by omega]; exact OK2.out
          case measure => simp [intOf]; omega
        · obtain rfl : j = k := by omega
          rw [Nat.sub_self] at hOj okj
          obtain ⟨q1, q2, q3, q4, q5, q6, q7, q8, q9⟩ := ag_gone r S v most most
          have hm0 : 0 ≤ most := by rw [hm]; exact Int.mul_nonneg (by omega) (by omega)
          have hm1 : most ≤ 5 * 500000 := by rw [hm]; exact Int.mul_le_mul (by omega) hC2 (by omega) (by omega)
          have hcm : C ≤ most := by
            have : 1 * C ≤ j * C := Int.mul_le_mul_of_nonneg_right (by omega) hC1
            omega
          have hv0 : v = most - C := by omega
          have hvv : 0 ≤ v := by omega
          have hp1 : (Pk.mk 1 1 0).Ok := ⟨by show I64 1; unfold I64; omega, by show I64 1; unfold I64; omega, by show I64 0; unfold I64; omega⟩
          have okG := SfS.remove_ok okj (id := 1)
          rw [q2] at okG
          have okH := SfS.add_ok okG (id := 1) (r := 1) (most := 1) (by unfold I64; omega) (by unfold W64; omega)
          rw [q8] at okH
          have qI := ag_anew (v := v) (most := most) hvv
          have HM := Lib.hid hm
          have HV := Lib.hid hv0
          have OG := Lib.hid okG
          have OH := Lib.hid okH
          clear hv okj okG okH hm hv0
          go_wp2_with fail
          refine (vO hOj).mono ?_
          rintro e w' ⟨rfl, rfl⟩
          go_wp2_with fail
          refine (mostO hOj).mono ?_
          rintro e w' ⟨rfl, rfl⟩
          rw [show (agS r S v most most 0).v = v from rfl, show (agS r S v most most 0).most = most from rfl]
          go_wp2_with fail
          refine (removeO hOj 1).mono ?_
          rw [q1, q2]
          rintro e w5 ⟨rfl, H5⟩
          go_wp2_with fail
          refine (removeO H5 1).mono ?_
          rw [q3, q4]
          rintro e w6 ⟨rfl, H6⟩
          go_wp2_with fail
          refine (arriveO H6 OG.out ⟨1, 1, 0⟩ hp1).mono ?_
          rw [q5, q6]
          rintro e w7 ⟨rfl, H7⟩
          go_wp2_with fail
          refine (addO H7 1 1 1 (by unfold W64; omega)).mono ?_
          rw [q7, q8]
          rintro e w8 ⟨rfl, H8⟩
          go_wp2_with fail
          refine (arriveO H8 OH.out ⟨1, 1, 0⟩ hp1).mono ?_
          rw [q9, qI]
          rintro e w9 ⟨rfl, H9⟩
          clear q1 q2 q3 q4 q5 q6 q7 q8 q9 qI
          go_wp2_with fail
          refine (startsO H9 (by show 2 ≤ 1000000; omega)).mono ?_
          rw [ag_starts]
          rintro e w10 ⟨x, rfl, hrow, hb10, H10⟩
          obtain ⟨xa, xc, rfl⟩ := owns_slice hrow
          obtain ⟨xb, xo, rfl, hxl, hx⟩ := rds_ent (owns_rdS hrow (entC_one _)) rfl (k := 0) (by exact Nat.one_pos)
          obtain ⟨x0, x1⟩ := hx _ (Below.refl _ _)
          simp only [Nat.zero_mul, Nat.add_zero] at x0 x1
          have x0 : w10.cell? ⟨xb, xo, none⟩ = some (.int .u64 v) := x0
          have x1 : w10.cell? ⟨xb, xo + 1, none⟩ = some (.int .i64 1) := x1
          have t1 : Value.int .u64 (IntKind.u64.wrap (j : Int)) = .int .u64 j := by rw [IntKind.wrap_u64, Int.emod_eq_of_lt (by omega) (by omega)]
          have t2 : Value.int .u64 (IntKind.u64.wrap S) = .int .u64 S := by rw [IntKind.wrap_u64, Int.emod_eq_of_lt (by omega) (by omega)]
          have hNS0 : 0 ≤ (j : Int) * S := Int.mul_nonneg (by omega) (by omega)
          have hNS1 : (j : Int) * S ≤ 5 * 500 := Int.mul_le_mul (by omega) hSb.2 (by omega) (by omega)
          have hass : (j : Int) * S * r = most := by rw [HM.out, Int.mul_assoc, hCC]
          have t3 : Value.int .u64 (IntKind.u64.wrap ((j : Int) * S)) = .int .u64 ((j : Int) * S) := by rw [IntKind.wrap_u64, Int.emod_eq_of_lt (by omega) (by omega)]
          have t4 : Value.int .u64 (IntKind.u64.wrap ((j : Int) * S * r)) = .int .u64 most := by rw [hass, IntKind.wrap_u64, Int.emod_eq_of_lt (by omega) (by omega)]
          have t5 : Value.int .u64 (IntKind.u64.wrap (S * r)) = .int .u64 C := by rw [hCC, IntKind.wrap_u64, Int.emod_eq_of_lt (by omega) (by omega)]
          have t6 : Value.int .u64 (IntKind.u64.wrap (most - C)) = .int .u64 v := by rw [HV.out, IntKind.wrap_u64, Int.emod_eq_of_lt (by omega) (by omega)]
          clear hass hNS0 hNS1 hrow hx
          go_wp2_with fail
          refine (mostO H10).mono ?_
          rw [show (agI v most).most = most from rfl]
          rintro e w' ⟨rfl, rfl⟩
          go_wp2
          go_ret
          exact ⟨rfl, H10.bel⟩
theorem SfqAgain_any (w : World) (r : Int) (w0 : (Lit.int .u64 r).wf = true) (n : Int) (w1 : (Lit.int .i64 n).wf = true) (z : Int) (w2 : (Lit.int .i64 z).wf = true) :
    Calls Try.prog 7 #[.int .u64 r, .int .i64 n, .int .i64 z] w fun e w' => e = .returned (.bool true) ∧ Below w.heap.size w w' := again_in r n z w (wf_u64 w0)
end Go.Proofs.Ytnanalaienlbpaa
