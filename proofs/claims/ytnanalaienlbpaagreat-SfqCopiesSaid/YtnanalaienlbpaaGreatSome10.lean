/- What the laws on sets of flows begin with; the acts that come in. -/
import Derived.Test.YtnanalaienlbpaaGreatStep10
import Derived.Test.YtnanalaienlbpaaGreatFlat
import Derived.OpenShut
namespace Go.Proofs.YtnanalaienlbpaaGreat
set_option linter.unusedVariables false
set_option linter.unusedSimpArgs false
set_option maxRecDepth 20000
open Go.RowKit Go.Proofs.YtnanalaienlbpaaGreatMem Go.Proofs.YtnanalaienlbpaaGreatFlat Go.Proofs.YtnanalaienlbpaaGreatMapK

/-- Both, all of it made since the world w, of which nothing has turned. -/
def OwnT (w wx : World) (b c : Nat) (s t : SfS) : Prop := ∃ F : Nat → Prop, TwoAt wx b c s t F ∧ (∀ k, F k → w.heap.size ≤ k) ∧ Below w.heap.size w wx
section
variable {w wx wy : World} {b c : Nat} {s t s' t' : SfS}
theorem OwnT.bel (h : OwnT w wx b c s t) : Below w.heap.size w wx := let ⟨_, _, _, h⟩ := h; h
theorem OwnT.below (h : OwnT w wx b c s t) (hb : Below wx.heap.size wx wy) : OwnT w wy b c s t := let ⟨F, h1, h2, h3⟩ := h; ⟨F, h1.below hb, h2, h3.trans (hb.mono h3.size)⟩
theorem OwnT.post {F : Nat → Prop} (hF : ∀ k, F k → w.heap.size ≤ k) (hb : Below w.heap.size w wx) (h : TwoPost b c s t F wx wy) : OwnT w wy b c s t :=
  ⟨_, h.1, fun k hk => hk.elim (hF k) fun hk => Nat.le_trans hb.size hk.1, hb.trans (h.2.below hF hb.size)⟩
theorem twoBegin (h : OwnS w wx b SfS.new) : OwnT w (wx.alloc (.cells #[.slice none 0 0, .int .u64 0, .int .u64 0] 29)) b wx.heap.size SfS.new SfS.new := by
  obtain ⟨F, h1, h2, h3⟩ := h
  have hb := below1 wx (.cells #[.slice none 0 0, .int .u64 0, .int .u64 0] 29)
  have hlt := h1.lt
  have hs : wx.heap.size < (wx.alloc (.cells #[.slice none 0 0, .int .u64 0, .int .u64 0] 29)).heap.size := by simp
  refine ⟨fun k => F k ∨ k = wx.heap.size, ⟨F, fun k => k = wx.heap.size, h1.below hb, ⟨[], rfl, ?_⟩, fun k hk e => ?_, fun k hk => .inl hk, fun k hk => .inr hk, fun k hk => ?_⟩, fun k hk => ?_, h3.trans (hb.mono h3.size)⟩
  · exact { row := ⟨none, 0, Blk.new wx _ _, World.ownsRow_nil _ _ _ _, fun a e => by cases e⟩, flows := fun e he => (by cases he), hb := rfl, sub := fun e he => (by cases he), disj := List.Pairwise.nil, lt := fun k hk => by rw [hk]; exact hs, ok := fun e he => (by cases he), rise := List.Pairwise.nil }
  · have := hlt k hk; omega
  · rcases hk with hk | hk
    · have := hlt k hk; omega
    · omega
  · rcases hk with hk | hk
    · exact h2 k hk
    · rw [hk]; exact h3.size
end

def someS : Nat → SfS
  | 0 => SfS.new
  | k + 1 => (someS k).add k (1 + k) (2 + 2 * k)
def someR : Nat → SfS
  | 0 => SfS.new
  | k + 1 => (someR k).addR k (1 + k) (2 + 2 * k)
theorem some_sim : ∀ k, Sim (someS k) (someR k)
  | 0 => Sim.new
  | k + 1 => (some_sim k).add _ _ _
theorem some_ok : ∀ k, k ≤ 4 → (someS k).Ok
  | 0, _ => SfS.new_ok
  | k + 1, h => SfS.add_ok (some_ok k (by omega)) (by unfold I64; omega) (by unfold W64; omega)
theorem some_len : ∀ k, (someS k).fs.length ≤ k
  | 0 => Nat.le_refl _
  | k + 1 => Nat.le_trans (add_length _ _ _ _) (Nat.succ_le_succ (some_len k))

set_option maxHeartbeats 1000000 in
theorem some_any (b c : Nat) (F : Nat → Prop) (w : World) (h : TwoAt w b c SfS.new SfS.new F) :
    Calls Tryz.prog 6 #[.pointer (some ⟨b, 0, none⟩), .pointer (some ⟨c, 0, none⟩)] w fun e w' => e = .returned (.tuple #[]) ∧ TwoPost b c (someS 4) (someR 4) F w w' := by
  have h0 : TwoPost b c (someS 0) (someR 0) F w w := h.still (Below.refl _ _)
  clear h
  go_enter Tryz.func6, Tryz.ntmps6
  go_wp2_with fail
  go_loopw [4] (fun v4 wr => ∃ k : Nat, k ≤ 4 ∧ v4 = .int .i64 k ∧ TwoPost b c (someS k) (someR k) F w wr) (fun v4 _ => 4 - (intOf v4).toNat)
  case atStart => exact ⟨0, Nat.zero_le _, rfl, h0⟩
  case round =>
    obtain ⟨k, hk, rfl, hp⟩ := hrel
    clear h0
    by_cases hl : k < 4
    · have i1 : (k : Int) < 4 := by omega
      have u1 : Value.int .i64 (IntKind.i64.wrap (1 + (k : Int))) = .int .i64 (1 + k) := by rw [IntWalk.i64_left, IntWalk.wrap64_in _ (by omega)]
      have u2 : Value.int .i64 (IntKind.i64.wrap (2 * (k : Int))) = .int .i64 (2 * k) := by rw [IntWalk.i64_left, IntWalk.wrap64_in _ (by omega)]
      have u3 : Value.int .i64 (IntKind.i64.wrap (2 + 2 * (k : Int))) = .int .i64 (2 + 2 * k) := by rw [IntWalk.i64_left, IntWalk.wrap64_in _ (by omega)]
      have u4 : Value.int .u64 (IntKind.u64.wrap (1 + (k : Int))) = .int .u64 (1 + k) := by rw [IntKind.wrap_u64, Int.emod_eq_of_lt (by omega) (by omega)]
      have hlen : (someR k).fs.length ≤ 1000000 := by rw [← (some_sim k).len]; have := some_len k; omega
      go_wp2_with fail
      refine (twoAdd hp.1 k (1 + k) (2 + 2 * k) (by unfold W64; omega)).mono ?_
      rintro e w2 ⟨rfl, hp2⟩
      go_wp2_with fail
      refine (twoAddR hp2.1 hlen k (1 + k) (2 + 2 * k) (by unfold W64; omega)).mono ?_
      rintro e w3 ⟨rfl, hp3⟩
      have hp4 := hp.trans (hp2.trans hp3)
      go_wp2
      go_roundw
      case rel => exact ⟨k + 1, by omega, by go_num, hp4⟩
      case measure => simp [intOf]; omega
    · obtain rfl : k = 4 := by omega
      go_wp2
      go_end0
      exact ⟨rfl, hp⟩

/-! ### The acts that come in -/
theorem wf_i64' {n : Int} (h : (Lit.int .i64 n).wf = true) : I64 n := i64_of_wf h
theorem wf_u64' {n : Int} (h : (Lit.int .u64 n).wf = true) : W64 n := by
  have h' : IntKind.u64.min ≤ n ∧ n ≤ IntKind.u64.max := by simpa [Lit.wf] using h
  have e1 : IntKind.u64.min = 0 := by decide
  have e2 : IntKind.u64.max = 18446744073709551615 := by decide
  rw [e1, e2] at h'
  unfold W64; omega
theorem actT_of {cs : List Value} (h : FlatOk [.int .i64, .int .i64, .int .i64, .int .u64, .int .i64, .int .i64, .int .i64] cs) : ∃ a : ActT, cs = a.cells ∧ a.Ok := by
  obtain ⟨c, r, rfl, ⟨k, rfl, hk⟩, c1, r1, rfl, ⟨f, rfl, hf⟩, c2, r2, rfl, ⟨m, rfl, hm⟩, c3, r3, rfl, ⟨q, rfl, hq⟩, c4, r4, rfl, ⟨pf, rfl, hpf⟩, c5, r5, rfl, ⟨pl, rfl, hpl⟩, c6, r6, rfl, ⟨pm, rfl, hpm⟩, rfl⟩ := h
  exact ⟨⟨k, f, m, q, ⟨pf, pl, pm⟩⟩, rfl, wf_i64' hk, wf_i64' hf, wf_i64' hm, wf_u64' hq, wf_i64' hpf, wf_i64' hpl, wf_i64' hpm⟩
theorem rows_actT {L : List (List Value)} (h : ∀ l ∈ L, FlatOk [.int .i64, .int .i64, .int .i64, .int .u64, .int .i64, .int .i64, .int .i64] l) : ∃ ls : List ActT, L = ls.map ActT.cells ∧ ∀ a ∈ ls, a.Ok := by
  induction L with
  | nil => exact ⟨[], rfl, fun a ha => by cases ha⟩
  | cons l L ih =>
    obtain ⟨ls, rfl, ho⟩ := ih fun l hl => h l (List.mem_cons_of_mem _ hl)
    obtain ⟨a, rfl, ha⟩ := actT_of (h l (List.mem_cons_self ..))
    refine ⟨a :: ls, rfl, fun a' h' => ?_⟩
    rcases List.mem_cons.1 h' with rfl | h'
    · exact ha
    · exact ho a' h'
def nthT (ls : List ActT) (k : Nat) : ActT := ls.getD k ⟨0, 0, 0, 0, 0, 0, 0⟩
theorem nthT_eq {ls : List ActT} {k : Nat} (h : k < ls.length) : nthT ls k = ls[k] := by simp [nthT, h]
/-- What a slice of acts reads as. -/
structure RdT (w : World) (ao : Option Addr) (n cap : Nat) (ls : List ActT) : Prop where
  len : ls.length = n
  small : n ≤ 9223372036854775807
  ok : ∀ a ∈ ls, a.Ok
  at_ : ∀ k, k < n → ∃ b off, ao = some ⟨b, off, none⟩ ∧ b < w.heap.size ∧ ∀ i u, (nthT ls k).cells[i]? = some u → w.cell? ⟨b, off + k * 7 + i, none⟩ = some u
theorem RdT.nth_ok {w : World} {ao : Option Addr} {n cap : Nat} {ls : List ActT} (h : RdT w ao n cap ls) (k : Nat) : (nthT ls k).Ok := by
  by_cases hk : k < ls.length
  · rw [nthT_eq hk]; exact h.ok _ (List.getElem_mem hk)
  · have : nthT ls k = ⟨0, 0, 0, 0, 0, 0, 0⟩ := by simp [nthT, List.getD_eq_getElem?_getD, List.getElem?_eq_none (show ls.length ≤ k by omega)]
    rw [this]
    refine ⟨?_, ?_, ?_, ?_, ?_, ?_, ?_⟩
    all_goals first | (show I64 0; unfold I64; omega) | (show W64 0; unfold W64; omega)
theorem RdT.cells {w : World} {ao : Option Addr} {n cap : Nat} {ls : List ActT} (h : RdT w ao n cap ls) {k : Nat} (hk : k < n) : ∃ b off, ao = some ⟨b, off, none⟩ ∧ ∀ w', Below w.heap.size w w' →
    w'.cell? ⟨b, off + k * 7, none⟩ = some (.int .i64 (nthT ls k).kind) ∧ w'.cell? ⟨b, off + k * 7 + 1, none⟩ = some (.int .i64 (nthT ls k).flow) ∧ w'.cell? ⟨b, off + k * 7 + 2, none⟩ = some (.int .i64 (nthT ls k).most) ∧ w'.cell? ⟨b, off + k * 7 + 3, none⟩ = some (.int .u64 (nthT ls k).r) ∧
    w'.cell? ⟨b, off + k * 7 + 4, none⟩ = some (.int .i64 (nthT ls k).p.flow) ∧ w'.cell? ⟨b, off + k * 7 + 5, none⟩ = some (.int .i64 (nthT ls k).p.len) ∧ w'.cell? ⟨b, off + k * 7 + 6, none⟩ = some (.int .i64 (nthT ls k).p.mark) := by
  obtain ⟨b, off, e, hlt, hc⟩ := h.at_ k hk
  refine ⟨b, off, e, fun w' hb => ?_⟩
  have key : ∀ i u, (nthT ls k).cells[i]? = some u → w'.cell? ⟨b, off + k * 7 + i, none⟩ = some u := fun i u hu => (hb.cell (p := ⟨b, off + k * 7 + i, none⟩) hlt).trans (hc i u hu)
  exact ⟨key 0 _ rfl, key 1 _ rfl, key 2 _ rfl, key 3 _ rfl, key 4 _ rfl, key 5 _ rfl, key 6 _ rfl⟩
theorem isRows_rdT {w : World} {ao : Option Addr} {len cap : Nat} {L : List (List Value)} (h : IsRows w [.int .i64, .int .i64, .int .i64, .int .u64, .int .i64, .int .i64, .int .i64] ao len cap L) : ∃ ls, RdT w ao len cap ls := by
  obtain ⟨hl, hc, hm, hn, hf, hat⟩ := h
  obtain ⟨ls, rfl, ho⟩ := rows_actT hf
  simp only [List.length_map] at hl
  refine ⟨ls, hl, by unfold maxLen at hm; omega, ho, fun k hk => ?_⟩
  obtain ⟨b, off, he, hb, hcell⟩ := hat (by omega)
  refine ⟨b, off, he, hb, fun i u hu => ?_⟩
  have hk' : k < ls.length := by omega
  have h2 := hcell k (nthT ls k).cells (by simp [hk', nthT_eq hk']) i u hu
  simpa [Nat.add_assoc] using h2
end Go.Proofs.YtnanalaienlbpaaGreat
