/- Several texts in one: LinF0 LinF LinF2 LinS. -/
import Derived.Test.YtdjooacjjnjfmaaGreatGw
import Derived.Test.YtdjooacjjnjfmaaGreatGm
import Derived.Deep.CutRange
import Derived.Deep.RegionHeld3
import Derived.Test.YtdjooacjjnjfmaaGreatGq
import Derived.Test.YtdjooacjjnjfmaaGreatGr
import Derived.Test.YtdjooacjjnjfmaaGreatGi
-- The search: what lies in memory; states from which there is no way on.
section
namespace Go.Proofs.YtdjooacjjnjfmaaGreat
set_option linter.unusedVariables false
set_option linter.unusedSimpArgs false
set_option maxRecDepth 20000
open Go.RowKit Go.Proofs.YtdjooacjjnjfmaaGreatMem Go.Proofs.YtdjooacjjnjfmaaGreatMapK Go.Proofs.YtdjooacjjnjfmaaGreatLin H

/-! ### What reads still reads when a map was written -/
theorem cell_map {w : World} {dm : Nat} {D : List (ByteArray × Value)} (h : IsMapAt w dm Value.string D) (o : Nat) : w.cell? ⟨dm, o, none⟩ = none := by
  obtain ⟨es, clock, h⟩ := h
  simp [World.cell?, h.heap]
theorem RdS.frS {S : Nat → Prop} {w w' : World} {ao : Option Addr} {n cap size : Nat} {cs : List Value} (h : RdS w ao n cap size cs) (hf : Fr S w w') (hS : ∀ b, S b → ∀ o, w.cell? ⟨b, o, none⟩ = none) : RdS w' ao n cap size cs :=
  ⟨h.len, h.le, h.nil, h.small, h.one, fun j u hu => let ⟨b, off, e, hlt, hc⟩ := h.at_ j u hu; ⟨b, off, e, Nat.lt_of_lt_of_le hlt hf.size, (hf.cell hlt fun hs => by rw [hS b hs] at hc; cases hc).trans hc⟩⟩
theorem RdD.frS {S : Nat → Prop} {w w' : World} {ao : Option Addr} {n cap : Nat} {l : List DoneS} (h : RdD w ao n cap l) (hf : Fr S w w') (hS : ∀ b, S b → ∀ o, w.cell? ⟨b, o, none⟩ = none) : RdD w' ao n cap l :=
  ⟨RdS.frS h.rd hf hS, h.len, fun d hd => ⟨(h.ok d hd).1, RdS.frS (h.ok d hd).2.rd hf hS, (h.ok d hd).2.len, (h.ok d hd).2.ok⟩⟩
theorem Blk.frS {S : Nat → Prop} {w w' : World} {b : Nat} {c0 : Value} {cs : List Value} {t : TypeId} (h : Blk w b (c0 :: cs) t) (hf : Fr S w w') (hS : ∀ b, S b → ∀ o, w.cell? ⟨b, o, none⟩ = none) : Blk w' b (c0 :: cs) t :=
  h.fr hf fun hs => by have h1 := h.cell 0; rw [hS b hs 0] at h1; cases h1

/-! ### Copies -/
theorem permS_good {m : MdS} {k : Nat} (h : m.Good k) {s' : SfS} (ev : s'.v = m.s.v) (em : s'.most = m.s.most) (hp : s'.fs.Perm m.s.fs) : MdS.Good ⟨s', m.served⟩ k :=
  ⟨⟨⟨by rw [ev]; exact h.ok.s.v, by rw [em]; exact h.ok.s.most, fun e he => h.ok.s.ids e (hp.mem_iff.1 he), fun e he => h.ok.s.fs e (hp.mem_iff.1 he)⟩, by rw [hp.length_eq]; exact h.ok.len, h.ok.served, (hp.map (·.1)).nodup_iff.2 h.ok.nodup⟩, fun e he => h.tag e (hp.mem_iff.1 he)⟩
theorem permS_ksim {m : MdS} (hn : (m.s.fs.map (·.1)).Nodup) {s' : SfS} (ev : s'.v = m.s.v) (em : s'.most = m.s.most) (hp : s'.fs.Perm m.s.fs) : KSim m ⟨s', m.served⟩ := by
  refine ⟨_, MSim.sorted hn, ?_⟩
  refine ⟨⟨ev, em, ?_, (MSim.sorted hn).s.rise⟩, rfl⟩
  exact (hp.map nrmE).trans (((sortF_perm m.s.fs).map nrmE).symm)

/-! ### Dead states -/
structure Val (n : Nat) (ord : List Nat) (m : MdS) : Prop where
  nodup : ord.Nodup
  lt : ∀ k ∈ ord, k < n
  ok : m.s.Ok
  ids : (m.s.fs.map (·.1)).Nodup
  served : I64 m.served
theorem Val.of {n : Nat} {ord : List Nat} {m : MdS} {k : Nat} (h1 : ord.Nodup) (h2 : ∀ k ∈ ord, k < n) (h : m.Good k) (hk : k ≤ 1000) : Val n ord m :=
  ⟨h1, h2, h.ok.s, h.ok.nodup, by have := h.ok.served; unfold I64; omega⟩
def Dead (n : Nat) (bef : Nat → Nat → Bool) (c : Cfg) (l : List DoneS) (D : List (ByteArray × Value)) : Prop :=
  ∀ p ∈ D, ∀ ord m, Val n ord m → strOfNums (keyB (mask ord : Nat) m) = p.1 → fnd n bef (stepD c l) (n - ord.length) ord m = none
theorem Dead.nil (n : Nat) (bef : Nat → Nat → Bool) (c : Cfg) (l : List DoneS) : Dead n bef c l [] := fun p hp => by cases hp
section
variable {n : Nat} {bef : Nat → Nat → Bool} {c : Cfg} {l : List DoneS} {D : List (ByteArray × Value)} {ord : List Nat} {m : MdS}
theorem Dead.look (h : Dead n bef c l D) (hv : Val n ord m) (hs : (getM D (strOfNums (keyB (mask ord : Nat) m))).isSome = true) : fnd n bef (stepD c l) (n - ord.length) ord m = none := by
  have : ∃ p ∈ D, p.1 = strOfNums (keyB (mask ord : Nat) m) := by
    rcases Classical.em (∃ p ∈ D, p.1 = strOfNums (keyB (mask ord : Nat) m)) with h1 | h1
    · exact h1
    · have : getM D (strOfNums (keyB (mask ord : Nat) m)) = none := getM_none.2 fun p hp e => h1 ⟨p, hp, e⟩
      rw [this] at hs; cases hs
  obtain ⟨p, hp, e⟩ := this
  exact h p hp ord m hv e.symm
theorem mask_w64 (hn : n ≤ 12) (hv : Val n ord m) : W64 (mask ord : Nat) := by
  have h1 := mask_lt hv.lt
  have h2 : 2 ^ n ≤ 4096 := by
    have := Nat.pow_le_pow_right (n := 2) (by omega) hn
    omega
  unfold W64
  omega
theorem keyB_byte {d : Int} {m : MdS} (hd : W64 d) (ok : m.s.Ok) : ∀ x ∈ keyB d m, 0 ≤ x ∧ x < 256 := by
  intro x hx
  unfold keyB at hx
  obtain ⟨a, ha, hx⟩ := List.mem_flatMap.1 hx
  refine byt_bd ?_ x hx
  rcases List.mem_cons.1 ha with rfl | ha
  · exact hd.1
  · exact (mdW_w64 ok a ha).1
/-- Of one key: of one fate. -/
theorem key_fnd (hn : n ≤ 12) {ord' : List Nat} {m' : MdS} (hv : Val n ord m) (hv' : Val n ord' m') (e : strOfNums (keyB (mask ord' : Nat) m') = strOfNums (keyB (mask ord : Nat) m)) : fnd n bef (stepD c l) (n - ord'.length) ord' m' = fnd n bef (stepD c l) (n - ord.length) ord m := by
  have e1 := strOf_inj (keyB_byte (mask_w64 hn hv') hv'.ok) (keyB_byte (mask_w64 hn hv) hv.ok) e
  obtain ⟨e2, e3⟩ := keyB_inj (mask_w64 hn hv') (mask_w64 hn hv) hv'.ok hv.ok hv'.ids hv.ids hv'.served hv.served e1
  have e4 : mask ord' = mask ord := by omega
  have hmem := mask_mem e4
  have hlen : ord'.length = ord.length := ((List.perm_ext_iff_of_nodup hv'.nodup hv.nodup).2 hmem).length_eq
  rw [hlen]
  exact fnd_sim (step_ksim c l) _ hmem e3
theorem Dead.put (hn : n ≤ 12) (h : Dead n bef c l D) (hv : Val n ord m) (hf : fnd n bef (stepD c l) (n - ord.length) ord m = none) (v : Value) : Dead n bef c l (putM D (strOfNums (keyB (mask ord : Nat) m)) v) := by
  intro p hp ord' m' hv' e
  have hmem : p ∈ D ∨ p.1 = strOfNums (keyB (mask ord : Nat) m) := by
    unfold putM at hp
    split at hp
    · obtain ⟨q, hq, rfl⟩ := List.mem_map.1 hp
      by_cases hk : q.1 = strOfNums (keyB (mask ord : Nat) m)
      · rw [if_pos hk]; exact .inr rfl
      · rw [if_neg hk]; exact .inl hq
    · rcases List.mem_append.1 hp with hp | hp
      · exact .inl hp
      · rw [List.mem_singleton] at hp; subst hp; exact .inr rfl
  rcases hmem with hmem | hmem
  · exact h p hmem ord' m' hv' e
  · rw [key_fnd hn hv hv' (e.trans hmem)]; exact hf
end
/-- What a search hands back. -/
def RetO (w : World) (o : Option (List Nat)) (e : Ending) (w' : World) : Prop :=
  match o with
  | none => e = .returned (.tuple #[.slice none 0 0, .bool false])
  | some l => ∃ ao cap, e = .returned (.tuple #[.slice ao l.length cap, .bool true]) ∧ w'.ownsRow w.heap.size 3 1 (.slice ao l.length cap) l.length (ints (toI l))
def FromPost (n : Nat) (bef : Nat → Nat → Bool) (c : Cfg) (l : List DoneS) (dm : Nat) (w : World) (o : Option (List Nat)) (e : Ending) (w' : World) : Prop :=
  ∃ D', IsMapAt w' dm Value.string D' ∧ Dead n bef c l D' ∧ RetO w o e w' ∧ Fr (fun k => k = dm) w w'
theorem under_mapS : Tryz.prog.underlying 75 = some (.map 9 3) := Tryz.underlying75
end Go.Proofs.YtdjooacjjnjfmaaGreat
end

-- The search: on from a state.
section
namespace Go.Proofs.YtdjooacjjnjfmaaGreat
set_option linter.unusedVariables false
set_option linter.unusedSimpArgs false
set_option maxRecDepth 20000
open Go.RowKit Go.Proofs.YtdjooacjjnjfmaaGreatMem Go.Proofs.YtdjooacjjnjfmaaGreatMapK Go.Proofs.YtdjooacjjnjfmaaGreatLin H

theorem pow_bd {n : Nat} (hn : n ≤ 12) : 2 ^ n ≤ 4096 := by
  have := Nat.pow_le_pow_right (n := 2) (by omega) hn
  omega
theorem full_eq {n : Nat} {ord : List Nat} (hn : n ≤ 12) (h1 : ord.Nodup) (h2 : ∀ k ∈ ord, k < n) : (((mask ord : Nat) : Int) == IntKind.u64.wrap (IntKind.u64.wrap (2 ^ n) - 1)) = decide (ord.length = n) := by
  have h3 := pow_bd hn
  have h4 : 0 < 2 ^ n := Nat.pow_pos (by omega)
  have e : ((2 : Int) ^ n) = ((2 ^ n : Nat) : Int) := by norm_cast
  have h5 := mask_full h1 h2
  rw [e]
  generalize 2 ^ n = P at *
  have e2 : IntKind.u64.wrap (IntKind.u64.wrap (P : Int) - 1) = ((P - 1 : Nat) : Int) := by
    rw [IntKind.wrap_u64, IntKind.wrap_u64]
    omega
  rw [e2]
  by_cases hl : ord.length = n
  · have := h5.2 hl
    simp [hl, this]
  · have h6 : ¬ mask ord = P - 1 := fun e => hl (h5.1 e)
    have h7 : ¬ ((mask ord : Nat) : Int) = ((P - 1 : Nat) : Int) := by omega
    simp only [hl, decide_false, beq_eq_false_iff_ne, ne_eq]
    exact h7
theorem or_eq {n k : Nat} {ord : List Nat} (hn : n ≤ 12) (h2 : ∀ k ∈ ord, k < n) (hk : k < n) : bits BinOp.or IntKind.u64 ((mask ord : Nat) : Int) (IntKind.u64.wrap (2 ^ k)) = ((mask (ord ++ [k]) : Nat) : Int) := by
  have h3 := pow_bd (n := k) (by omega)
  have e : ((2 : Int) ^ k) = ((2 ^ k : Nat) : Int) := by norm_cast
  have h4 := mask_lt h2
  have h5 := pow_bd hn
  rw [mask_snoc, Nat.one_shiftLeft, e]
  generalize 2 ^ k = P at *
  have e2 : IntKind.u64.wrap (P : Int) = (P : Int) := by rw [IntKind.wrap_u64]; omega
  rw [e2]
  exact bits_or_u64_nat _ _ (by omega) (by omega)
set_option maxHeartbeats 4000000 in
theorem from0_any (c : Cfg) (l : List DoneS) (sb dm : Nat) (ao : Option Addr) (n cap : Nat) (hn : n ≤ 12) (ord : List Nat) (hr : ord.length = n) (m : MdS) (hv : Val n ord m) (b : Nat) (w : World) (D : List (ByteArray × Value))
    (h : RdD w ao n cap l) (hs : Blk w sb [.slice ao n cap, .map (some dm)] 77) (hm : IsMapAt w dm Value.string D) (hd : Dead n (befB l) c l D) :
    Calls Tryz.prog 42 #[.pointer (some ⟨sb, 0, none⟩), .int .u64 (mask ord : Nat), .pointer (some ⟨b, 0, none⟩)] w (FromPost n (befB l) c l dm w (some [])) := by
  have c0 : w.cell? ⟨sb, 0, none⟩ = some (.slice ao n cap) := hs.cell 0
  have slt := hs.lt
  have e1 : (((mask ord : Nat) : Int) == IntKind.u64.wrap (IntKind.u64.wrap (2 ^ n) - 1)) = true := by rw [full_eq hn hv.nodup hv.lt]; exact decide_eq_true hr
  have HM := Lib.hid hm
  clear hs h hm hv hr
  generalize mask ord = M at *
  go_enter Tryz.func42, Tryz.ntmps42
  go_wp2
  go_ret2
  exact ⟨D, HM.out, hd, ⟨none, 0, rfl, World.ownsRow_nil _ _ _ _⟩, Fr.refl _ _⟩
end Go.Proofs.YtdjooacjjnjfmaaGreat
end

-- The search: on from a state, whatever is left.
section
namespace Go.Proofs.YtdjooacjjnjfmaaGreat
set_option linter.unusedVariables false
set_option linter.unusedSimpArgs false
set_option maxRecDepth 20000
open Go.RowKit Go.Proofs.YtdjooacjjnjfmaaGreatMem Go.Proofs.YtdjooacjjnjfmaaGreatMapK Go.Proofs.YtdjooacjjnjfmaaGreatLin H

theorem callD_ok {d : DoneS} (h : d.Ok) : (callD d).Ok := ⟨h.2.2.1, h.2.2.2.1, h.2.2.2.2.1, h.2.2.2.2.2.1⟩
theorem tri_rdy {S : Type} {n : Nat} {bef : Nat → Nat → Bool} {step : S → Nat → Option S} {r : Nat} {ord : List Nat} {m : S} {k : Nat} (h : rdy n bef ord k = false) : tri n bef step r ord m k = none := by
  unfold tri
  rw [if_neg (by rw [h]; simp)]
theorem tri_step {S : Type} {n : Nat} {bef : Nat → Nat → Bool} {step : S → Nat → Option S} {r : Nat} {ord : List Nat} {m : S} {k : Nat} (h : step m k = none) : tri n bef step r ord m k = none := by
  unfold tri
  split
  · rw [h]; rfl
  · rfl
theorem tri_fnd {S : Type} {n : Nat} {bef : Nat → Nat → Bool} {step : S → Nat → Option S} {r : Nat} {ord : List Nat} {m x : S} {k : Nat} (h1 : rdy n bef ord k = true) (h2 : step m k = some x) : tri n bef step r ord m k = (fnd n bef step r (ord ++ [k]) x).map (k :: ·) := by
  unfold tri
  rw [if_pos h1, h2]
  rfl
/-- What the round knows of a copy on which the part was done. -/
theorem round_step {n : Nat} {c : Cfg} {l : List DoneS} {m : MdS} (hn : (m.s.fs.map (·.1)).Nodup) {s' : SfS} (ev : s'.v = m.s.v) (em : s'.most = m.s.most) (hp : s'.fs.Perm m.s.fs) (k : Nat) :
    (retB ((MdS.mk s' m.served).doo c (callD (nthD l k))).2 (nthD l k) = false → stepD c l m k = none) ∧
    (retB ((MdS.mk s' m.served).doo c (callD (nthD l k))).2 (nthD l k) = true → ∃ x, stepD c l m k = some x ∧ ∀ (bef : Nat → Nat → Bool) (r : Nat) (ord : List Nat), fnd n bef (stepD c l) r ord x = fnd n bef (stepD c l) r ord ((MdS.mk s' m.served).doo c (callD (nthD l k))).1) := by
  have hk := permS_ksim hn ev em hp
  have hs := step_ksim c l m ⟨s', m.served⟩ k hk
  constructor
  · intro h
    have h1 : stepD c l ⟨s', m.served⟩ k = none := by unfold stepD; rw [if_neg (by rw [h]; simp)]
    rcases hs with ⟨h2, _⟩ | ⟨x, x', _, h2, _⟩
    · exact h2
    · rw [h1] at h2; cases h2
  · intro h
    have h1 : stepD c l ⟨s', m.served⟩ k = some ((MdS.mk s' m.served).doo c (callD (nthD l k))).1 := by unfold stepD; rw [if_pos h]
    rcases hs with ⟨_, h2⟩ | ⟨x, x', h2, h3, h4⟩
    · rw [h1] at h2; cases h2
    · rw [h1] at h3
      cases h3
      exact ⟨x, h2, fun bef r ord => fnd_sim (step_ksim c l) r (fun _ => Iff.rfl) h4⟩
theorem ords_snoc {n k : Nat} {ord : List Nat} {bef : Nat → Nat → Bool} (h1 : ord.Nodup) (h2 : ∀ k ∈ ord, k < n) (hk : k < n) (hr : rdy n bef ord k = true) : (ord ++ [k]).Nodup ∧ ∀ j ∈ ord ++ [k], j < n := by
  have hko := (rdy_iff.1 hr).1
  refine ⟨?_, fun j hj => ?_⟩
  · rw [List.nodup_append]
    refine ⟨h1, by simp, fun a ha b hb e => ?_⟩
    rw [List.mem_singleton] at hb
    subst hb
    subst e
    exact hko ha
  · rcases List.mem_append.1 hj with hj | hj
    · exact h2 j hj
    · rw [List.mem_singleton] at hj; omega
set_option maxHeartbeats 8000000 in
theorem from_any (c : Cfg) (hc : c.Ok) (l : List DoneS) (sb dm : Nat) (ao : Option Addr) (n cap : Nat) (hn : n ≤ 12) :
    ∀ (r : Nat) (ord : List Nat) (m : MdS) (b : Nat) (F : Nat → Prop) (w : World) (D : List (ByteArray × Value)), ord.length + r = n → Val n ord m → m.Good ord.length →
      RdD w ao n cap l → Blk w sb [.slice ao n cap, .map (some dm)] 77 → IsMapAt w dm Value.string D → Dead n (befB l) c l D → MdAt w b c m.s m.served F → ¬ F dm →
      Calls Tryz.prog 42 #[.pointer (some ⟨sb, 0, none⟩), .int .u64 (mask ord : Nat), .pointer (some ⟨b, 0, none⟩)] w (FromPost n (befB l) c l dm w (fnd n (befB l) (stepD c l) r ord m)) := by
  intro r
  induction r with
  | zero => intro ord m b F w D hr hv hg h hs hm hd hmd hF; exact from0_any c l sb dm ao n cap hn ord (by omega) m hv b w D h hs hm hd
  | succ r ih =>
  intro ord m b F w D hr hv hg h hs hm hd hmd hF
  have e1 : (((mask ord : Nat) : Int) == IntKind.u64.wrap (IntKind.u64.wrap (2 ^ n) - 1)) = false := by rw [full_eq hn hv.nodup hv.lt]; exact decide_eq_false (by omega)
  have CK := key_any b c m F (mask ord : Nat) w hmd hv.ok (mask_w64 hn hv) (by have := hg.ok.len; omega)
  have c0 : w.cell? ⟨sb, 0, none⟩ = some (.slice ao n cap) := hs.cell 0
  have slt := hs.lt
  have hrn : n - ord.length = r + 1 := by omega
  have HLOOK : Hid ((getM D (strOfNums (keyB (mask ord : Nat) m))).isSome = true → fnd n (befB l) (stepD c l) (r + 1) ord m = none) := Lib.hid (by rw [← hrn]; exact hd.look hv)
  have HPUT : Hid (∀ D', Dead n (befB l) c l D' → fnd n (befB l) (stepD c l) (r + 1) ord m = none → Dead n (befB l) c l (putM D' (strOfNums (keyB (mask ord : Nat) m)) (.int .i64 1))) := Lib.hid (by rw [← hrn]; exact fun D' h1 h2 => h1.put hn hv h2 _)
  have H1 := Lib.hid h
  have H2 := Lib.hid hs
  have H3 := Lib.hid hm
  have H4 := Lib.hid hd
  have H5 := Lib.hid hmd
  have HV := Lib.hid hv
  have HG := Lib.hid hg
  have HR := Lib.hid hr
  have IH := Lib.hid ih
  clear h hs hm hd hmd hv hg hr ih hrn
  generalize hKY : strOfNums (keyB (mask ord : Nat) m) = KY at *
  have HOR : Hid (∀ k, k < n → bits BinOp.or IntKind.u64 ((mask ord : Nat) : Int) (IntKind.u64.wrap (2 ^ k)) = ((mask (ord ++ [k]) : Nat) : Int)) := Lib.hid fun k hk => or_eq hn HV.out.lt hk
  have CR := fun (k : Nat) (hk : k < n) w' h1 h2 => linReady_any sb dm ao n cap l ord k hk hn HV.out.lt w' h1 h2
  generalize hM : mask ord = M at *
  clear hKY hM
  go_enter Tryz.func42, Tryz.ntmps42
  go_wp2_with fail
  refine CK.mono ?_
  rintro e w1 ⟨rfl, hb1⟩
  have hlk := run_lookup2 strKey under_mapS (zero_int w1) (H3.out.of_eq (hb1.block dm H3.out.lt)) KY
  have s1 : w1.cell? ⟨sb, 1, none⟩ = some (.map (some dm)) := (H2.out.below hb1).cell 1
  have s0 : w1.cell? ⟨sb, 0, none⟩ = some (.slice ao n cap) := (H2.out.below hb1).cell 0
  have slt1 := (H2.out.below hb1).lt
  clear c0 slt
  cases hgs : (getM D KY).isSome with
  | true =>
    have E := Lib.hid (HLOOK.out hgs)
    rw [hgs] at hlk
    clear hgs
    generalize (getM D KY).getD (Value.int .i64 0) = gv at *
    go_wp2
    go_ret2
    refine ⟨D, H3.out.of_eq (hb1.block dm H3.out.lt), H4.out, ?_, Fr.of_below hb1⟩
    rw [E.out]
    rfl
  | false =>
    rw [hgs] at hlk
    clear hgs
    generalize (getM D KY).getD (Value.int .i64 0) = gv at *
    have HFR1 := Lib.hid (Fr.of_below (S := fun k => k = dm) hb1)
    have HM1 := Lib.hid (H3.out.of_eq (hb1.block dm H3.out.lt))
    clear hb1
    go_wp2_with fail
    go_loopw [43] (fun v43 wr => ∃ (k : Nat) (D' : List (ByteArray × Value)), k ≤ n ∧ v43 = .int .i64 k ∧ IsMapAt wr dm Value.string D' ∧ Dead n (befB l) c l D' ∧ Fr (fun i => i = dm) w wr ∧ (∀ j, j < k → tri n (befB l) (stepD c l) r ord m j = none)) (fun v43 _ => n - (intOf v43).toNat)
    case atStart => exact ⟨0, D, Nat.zero_le _, rfl, HM1.out, H4.out, HFR1.out, fun j hj => absurd hj (Nat.not_lt_zero _)⟩
    case round =>
      obtain ⟨k, D', hk, rfl, hm', hd', hfr, htri⟩ := hrel
      have hS : ∀ b, b = dm → ∀ o, w.cell? ⟨b, o, none⟩ = none := fun b e o => by rw [e]; exact cell_map H3.out o
      have h' := RdD.frS H1.out hfr hS
      have hs' := Blk.frS H2.out hfr hS
      have hmd' := H5.out.fr hfr fun i hi e => hF (e ▸ hi)
      have hszr := hfr.size
      have hdmlt := H3.out.lt
      have H1' := Lib.hid h'
      have H2' := Lib.hid hs'
      have HM' := Lib.hid hm'
      have HD' := Lib.hid hd'
      have HFR := Lib.hid hfr
      have HT := Lib.hid htri
      have HMD' := Lib.hid hmd'
      clear hs' hm' hd' hfr htri hmd' hS
      by_cases hl : k < n
      · have i1 : (k : Int) < (n : Int) := by omega
        obtain ⟨hdok, hdk⟩ := h'.nth hl
        obtain ⟨pb, po, rfl, hplt, hpc⟩ := h'.cells hl
        obtain ⟨c0, c1, c2, c3, c4, c5, c6, c7, c8, c9, c10, c11⟩ := RdD.at12 (ao := none) (n := 0) (cap := 0) hpc (Below.refl _ _)
        have HDOK := Lib.hid hdok
        have HDK := Lib.hid hdk
        have HRS := Lib.hid (fun (s' : SfS) ev em hp => round_step (c := c) (l := l) (n := n) (m := m) HV.out.ids (s' := s') ev em hp k)
        clear h' hpc hdok hdk
        generalize nthD l k = d at *
        go_upto_region 10 with fail
        have BX := H.one_boxD wr d 42
        have hbX := below1 wr (.cells #[.int .i64 d.who, .int .i64 d.place, .int .i64 d.op, .int .i64 d.fl, .int .i64 d.a, .int .i64 d.b, .int .i64 d.e, .slice d.ao d.len d.cap, .int .i64 d.n, .int .u64 d.v, .int .i64 d.fr, .int .i64 d.to] 42)
        generalize wr.alloc (.cells #[.int .i64 d.who, .int .i64 d.place, .int .i64 d.op, .int .i64 d.fl, .int .i64 d.a, .int .i64 d.b, .int .i64 d.e, .slice d.ao d.len d.cap, .int .i64 d.n, .int .u64 d.v, .int .i64 d.fr, .int .i64 d.to] 42) = W at *
        have HBX := Lib.hid BX
        have HBW := Lib.hid hbX
        clear BX hbX c0 c1 c2 c3 c4 c5 c6 c7 c8 c9 c10 c11
        go_wp2_with fail
        refine (CR k hl W (H1'.out.below HBW.out) (H2'.out.below HBW.out)).mono ?_
        rintro e w2 ⟨rfl, hb2⟩
        have HB2 := Lib.hid (HBW.out.trans (hb2.mono HBW.out.size))
        have HBX2 := Lib.hid (HBX.out.below hb2)
        clear hb2
        cases hrd : rdy n (befB l) ord k with
        | false =>
          have HTK := Lib.hid (tri_rdy (step := stepD c l) (r := r) (m := m) hrd)
          clear hrd
          go_wp2
          go_roundw
          case rel => exact ⟨k + 1, D', by omega, by go_num, HM'.out.of_eq (HB2.out.block dm HM'.out.lt), HD'.out, HFR.out.then_below HB2.out, fun j hj => by
            by_cases hjk : j = k
            · subst hjk; exact HTK.out
            · exact HT.out j (by omega)⟩
          case measure => simp [intOf]; omega
        | true =>
          have HRD := Lib.hid hrd
          clear hrd
          go_wp2_with fail
          refine (copyM_any b c m.s m.served F w2 (HMD'.out.below HB2.out)).mono ?_
          rintro e w3 ⟨nb, s', rfl, hcp, ev, em, hp, hb3⟩
          have HB3 := Lib.hid (HB2.out.trans (hb3.mono HB2.out.size))
          have hBX3 := HBX2.out.below hb3
          have hz2 := HB2.out.size
          have hz3 := hb3.size
          have hBlt := HBX2.out.lt
          have HCP := Lib.hid (hcp.below (Below.refl w3.heap.size w3).drew)
          have HGX := Lib.hid (permS_good HG.out ev em hp)
          have HRS2 := Lib.hid (HRS.out s' ev em hp)
          have hBX3d := hBX3.drew
          obtain ⟨-, -, x2, x3, x4, x5, x6, x7, x8, x9, -, -⟩ := hBX3d.cells
          have hS3 : w3.drew.cell? ⟨wr.heap.size, 2, none⟩ = some (.int .i64 d.op) ∧ w3.drew.cell? ⟨wr.heap.size, 3, none⟩ = some (.int .i64 d.fl) ∧ w3.drew.cell? ⟨wr.heap.size, 4, none⟩ = some (.int .i64 d.a) ∧ w3.drew.cell? ⟨wr.heap.size, 5, none⟩ = some (.int .i64 d.b) ∧ w3.drew.cell? ⟨wr.heap.size, 6, none⟩ = some (.int .i64 d.e) ∧ w3.drew.cell? ⟨wr.heap.size, 7, none⟩ = some (.slice d.ao d.len d.cap) ∧ w3.drew.cell? ⟨wr.heap.size, 8, none⟩ = some (.int .i64 d.n) ∧ w3.drew.cell? ⟨wr.heap.size, 9, none⟩ = some (.int .u64 d.v) := ⟨x2, x3, x4, x5, x6, x7, x8, x9⟩
          have HBX3 := Lib.hid hBX3d
          clear hcp ev em hp hBX3 hb3 x2 x3 x4 x5 x6 x7 x8 x9 hBX3d
          have CDO := do_any nb c ⟨s', m.served⟩ (fun i => w2.heap.size ≤ i ∧ i < w3.heap.size) (callD d) w3.drew HCP.out (HGX.out.bat (by have := HR.out; omega)) (callD_ok HDOK.out) hc.unit hc.shards
          have hcd : callD d = ⟨d.op, d.fl, d.a, d.b⟩ := rfl
          rw [hcd] at CDO
          rw [hcd] at HRS2
          have HGY : Hid (((MdS.mk s' m.served).doo c ⟨d.op, d.fl, d.a, d.b⟩).1.Good (ord.length + 1)) := Lib.hid (HGX.out.doo hc.unit (callD_ok HDOK.out))
          generalize ((MdS.mk s' m.served).doo c ⟨d.op, d.fl, d.a, d.b⟩).1 = mx at *
          generalize ((MdS.mk s' m.served).doo c ⟨d.op, d.fl, d.a, d.b⟩).2 = rx at *
          go_wp2_with fail
          have hlenr := HR.out
          refine wp_region_held_drew (S := (fun w' => w'.cell? ⟨wr.heap.size, 2, none⟩ = some (.int .i64 d.op) ∧ w'.cell? ⟨wr.heap.size, 3, none⟩ = some (.int .i64 d.fl) ∧ w'.cell? ⟨wr.heap.size, 4, none⟩ = some (.int .i64 d.a) ∧ w'.cell? ⟨wr.heap.size, 5, none⟩ = some (.int .i64 d.b) ∧ w'.cell? ⟨wr.heap.size, 6, none⟩ = some (.int .i64 d.e) ∧ w'.cell? ⟨wr.heap.size, 7, none⟩ = some (.slice d.ao d.len d.cap) ∧ w'.cell? ⟨wr.heap.size, 8, none⟩ = some (.int .i64 d.n) ∧ w'.cell? ⟨wr.heap.size, 9, none⟩ = some (.int .u64 d.v))) (by kernel_rfl) ?_ (fun hHeld => ?_)
          · exact hS3
          refine wpAnyH_take (i := 0) (v := ?_) rfl (by kernel_rfl) (by kernel_rfl) (by kernel_rfl) (fun _ _ _ h => h) (Or.inl ⟨by rfl, ?_⟩) (by assumption) ?_
          rotate_left
          · intro w hSw
            (try dsimp only at hSw)
            first | (go_simp; done) | (go_simp; with_reducible rfl)
          try simp only [List.getElem_toArray, List.getElem_cons_succ, List.getElem_cons_zero, Act.put, List.setIfInBounds_toArray, List.set_cons_zero, List.set_cons_succ]
          refine wpAnyH_take (i := 1) (v := ?_) rfl (by kernel_rfl) (by kernel_rfl) (by kernel_rfl) (fun _ _ _ h => h) (Or.inl ⟨by rfl, ?_⟩) (by assumption) ?_
          rotate_left
          · intro w hSw
            (try dsimp only at hSw)
            first | (go_simp; done) | (go_simp; with_reducible rfl)
          try simp only [List.getElem_toArray, List.getElem_cons_succ, List.getElem_cons_zero, Act.put, List.setIfInBounds_toArray, List.set_cons_zero, List.set_cons_succ]
          refine wpAnyH_take (i := 2) (v := ?_) rfl (by kernel_rfl) (by kernel_rfl) (by kernel_rfl) (fun _ _ _ h => h) (Or.inl ⟨by rfl, ?_⟩) (by assumption) ?_
          rotate_left
          · intro w hSw
            (try dsimp only at hSw)
            first | (go_simp; done) | (go_simp; with_reducible rfl)
          try simp only [List.getElem_toArray, List.getElem_cons_succ, List.getElem_cons_zero, Act.put, List.setIfInBounds_toArray, List.set_cons_zero, List.set_cons_succ]
          refine wpAnyH_take (i := 4) (v := ?_) rfl (by kernel_rfl) (by kernel_rfl) (by kernel_rfl) (fun _ _ _ h => h) (Or.inl ⟨by rfl, ?_⟩) (by assumption) ?_
          rotate_left
          · intro w hSw
            (try dsimp only at hSw)
            first | (go_simp; done) | (go_simp; with_reducible rfl)
          try simp only [List.getElem_toArray, List.getElem_cons_succ, List.getElem_cons_zero, Act.put, List.setIfInBounds_toArray, List.set_cons_zero, List.set_cons_succ]
          refine wpAnyH_take (i := 5) (v := ?_) rfl (by kernel_rfl) (by kernel_rfl) (by kernel_rfl) (fun _ _ _ h => h) (Or.inl ⟨by rfl, ?_⟩) (by assumption) ?_
          rotate_left
          · intro w hSw
            (try dsimp only at hSw)
            first | (go_simp; done) | (go_simp; with_reducible rfl)
          try simp only [List.getElem_toArray, List.getElem_cons_succ, List.getElem_cons_zero, Act.put, List.setIfInBounds_toArray, List.set_cons_zero, List.set_cons_succ]
          refine wpAnyH_ready (rs := [3]) (by kernel_rfl) (by simp) ?_
          refine AllReadyH.cons rfl (fun K hK => ?_) AllReadyH.nil
          go_simp
          (go_at_call 38; refine CDO.mono ?_; rintro e w4 ⟨ra, rc, G, rfl, row, n3, mdx, hG, f⟩; have hBX4 : BoxD w4 wr.heap.size d 42 := (f.block wr.heap.size (BoxD.lt HBX3.out) (fun hk => by omega)).trans HBX3.out; have hS4 : w4.cell? ⟨wr.heap.size, 2, none⟩ = some (.int .i64 d.op) ∧ w4.cell? ⟨wr.heap.size, 3, none⟩ = some (.int .i64 d.fl) ∧ w4.cell? ⟨wr.heap.size, 4, none⟩ = some (.int .i64 d.a) ∧ w4.cell? ⟨wr.heap.size, 5, none⟩ = some (.int .i64 d.b) ∧ w4.cell? ⟨wr.heap.size, 6, none⟩ = some (.int .i64 d.e) ∧ w4.cell? ⟨wr.heap.size, 7, none⟩ = some (.slice d.ao d.len d.cap) ∧ w4.cell? ⟨wr.heap.size, 8, none⟩ = some (.int .i64 d.n) ∧ w4.cell? ⟨wr.heap.size, 9, none⟩ = some (.int .u64 d.v) := (by obtain ⟨-, -, x2, x3, x4, x5, x6, x7, x8, x9, -, -⟩ := BoxD.cells hBX4; exact ⟨x2, x3, x4, x5, x6, x7, x8, x9⟩); have HBX4 := Lib.hid hBX4; have hz4 := f.size; have HB4 := Lib.hid ((HB3.out.drew).trans (f.below (B := wr.heap.size) (fun i hi => by omega) (show wr.heap.size ≤ w3.heap.size by omega))); have hDK4 := RdK.pks (HDK.out.below HB4.out); have HROW := Lib.hid (owns_rdS row (pks_one _)); have HN3 := Lib.hid n3; have HMX := Lib.hid mdx; have HHG := Lib.hid hG; clear hBX4 row n3 mdx hG f)
          refine hK.out _ _ ?_ (fun hHeld => ?_)
          · first | with_reducible exact hS5 | with_reducible exact hS4
          clear hK K
          try simp only [List.getElem_toArray, List.getElem_cons_succ, List.getElem_cons_zero, Act.put, List.setIfInBounds_toArray, List.set_cons_zero, List.set_cons_succ]
          refine wpAnyH_ready (rs := [6]) (by kernel_rfl) (by simp) ?_
          refine AllReadyH.cons rfl (fun K hK => ?_) AllReadyH.nil
          go_simp
          (go_at_call 37; refine (linSame_any rx.e rx.n rx.v d.e d.n d.v ra d.ao rx.ps.length rc d.len d.cap rx.ps (pkL d.l) _ HROW.out hDK4.1 rfl hDK4.2).mono ?_; rintro e w5 ⟨rfl, hb5⟩; have hS5 : w5.cell? ⟨wr.heap.size, 2, none⟩ = some (.int .i64 d.op) ∧ w5.cell? ⟨wr.heap.size, 3, none⟩ = some (.int .i64 d.fl) ∧ w5.cell? ⟨wr.heap.size, 4, none⟩ = some (.int .i64 d.a) ∧ w5.cell? ⟨wr.heap.size, 5, none⟩ = some (.int .i64 d.b) ∧ w5.cell? ⟨wr.heap.size, 6, none⟩ = some (.int .i64 d.e) ∧ w5.cell? ⟨wr.heap.size, 7, none⟩ = some (.slice d.ao d.len d.cap) ∧ w5.cell? ⟨wr.heap.size, 8, none⟩ = some (.int .i64 d.n) ∧ w5.cell? ⟨wr.heap.size, 9, none⟩ = some (.int .u64 d.v) := (by obtain ⟨-, -, x2, x3, x4, x5, x6, x7, x8, x9, -, -⟩ := (HBX4.out.below hb5).cells; exact ⟨x2, x3, x4, x5, x6, x7, x8, x9⟩); have HB5 := Lib.hid (HB4.out.trans (hb5.mono HB4.out.size)); have HMX5 := Lib.hid (HMX.out.below hb5); clear hb5)
          refine hK.out _ _ ?_ (fun hHeld => ?_)
          · first | with_reducible exact hS5 | with_reducible exact hS4
          clear hK K
          try simp only [List.getElem_toArray, List.getElem_cons_succ, List.getElem_cons_zero, Act.put, List.setIfInBounds_toArray, List.set_cons_zero, List.set_cons_succ]
          refine wpAnyH_take (i := 7) (v := ?_) rfl (by kernel_rfl) (by kernel_rfl) (by kernel_rfl) (fun _ _ _ h => h) (Or.inl ⟨by rfl, ?_⟩) (by assumption) ?_
          rotate_left
          · intro w hSw
            (try dsimp only at hSw)
            first | (go_simp; done) | (go_simp; with_reducible rfl)
          try simp only [List.getElem_toArray, List.getElem_cons_succ, List.getElem_cons_zero, Act.put, List.setIfInBounds_toArray, List.set_cons_zero, List.set_cons_succ]
          refine wpAnyH_done (by kernel_rfl) ?_ _
          generalize hX : retEq rx.e rx.n rx.v d.e d.n d.v rx.ps (pkL d.l) = X at *
          have hXB : retB rx d = X := hX
          rw [hXB] at HRS2
          have hM5 := HM'.out.of_eq (HB5.out.block dm HM'.out.lt)
          clear hX hXB hHeld hS3 hS4 hS5 HROW HDK
          cases X with
          | false =>
            have HTK := Lib.hid (tri_step (n := n) (bef := befB l) (r := r) (ord := ord) (HRS2.out.1 rfl))
            go_wp2
            go_roundw
            case rel => exact ⟨k + 1, D', by omega, by go_num, hM5, HD'.out, HFR.out.then_below HB5.out, fun j hj => by
              by_cases hjk : j = k
              · subst hjk; exact HTK.out
              · exact HT.out j (by omega)⟩
            case measure => simp [intOf]; omega
          | true =>
            obtain ⟨x, hx1, hx2⟩ := HRS2.out.2 rfl
            have HTK := Lib.hid (tri_fnd (r := r) HRD.out hx1)
            rw [hx2 (befB l) r (ord ++ [k])] at HTK
            obtain ⟨ho1, ho2⟩ := ords_snoc HV.out.nodup HV.out.lt hl HRD.out
            have hol : (ord ++ [k]).length = ord.length + 1 := by simp
            have hgy := HGY.out
            rw [← hol] at hgy
            have CI := IH.out (ord ++ [k]) mx nb _ w5 D' (by omega) (Val.of ho1 ho2 hgy (by omega)) hgy (H1'.out.below HB5.out) (H2'.out.below HB5.out) hM5 HD'.out HMX5.out (fun hg => by rcases HHG.out dm hg with h9 | h9 <;> first | omega | (have h8 : w3.heap.size ≤ dm := h9.1; omega))
            have hor := HOR.out k hl
            have HCI := Lib.hid CI
            clear hx1 hx2 ho1 ho2 hol hgy CI HRS2 HGY HGX CDO HMX HMX5 HHG HN3
            have HOL : Hid (∀ q, fnd n (befB l) (stepD c l) r (ord ++ [k]) mx = some q → q.length ≤ n) := Lib.hid fun q hq => by have := fnd_length hq; omega
            generalize fnd n (befB l) (stepD c l) r (ord ++ [k]) mx = O at *
            go_wp2_with fail
            refine HCI.out.mono ?_
            rintro e w6 ⟨D6, hm6, hd6, hret, hfr6⟩
            have HFR6 := Lib.hid ((HFR.out.then_below HB5.out).trans hfr6 fun i _ h => h)
            cases O with
            | none =>
              have he : e = .returned (.tuple #[.slice none 0 0, .bool false]) := hret
              subst he
              have HM6 := Lib.hid hm6
              have HD6 := Lib.hid hd6
              clear hret hm6 hd6 hfr6 HCI hor
              go_wp2
              go_roundw
              case rel => exact ⟨k + 1, D6, by omega, by go_num, HM6.out, HD6.out, HFR6.out, fun j hj => by
                by_cases hjk : j = k
                · subst hjk; exact HTK.out
                · exact HT.out j (by omega)⟩
              case measure => simp [intOf]; omega
            | some rest =>
              obtain ⟨ra2, rc2, rfl, hrow6⟩ := hret
              have E : Hid (fnd n (befB l) (stepD c l) (r + 1) ord m = some (k :: rest)) := Lib.hid (by rw [fnd_succ]; exact range_find_some hl HTK.out HT.out)
              have hrl := HOL.out rest rfl
              have HM6 := Lib.hid hm6
              have HD6 := Lib.hid hd6
              have HROW6 := Lib.hid hrow6
              have hz6 := HFR6.out.size
              have hlit := World.ownsRow_lit (e := 3) (size := 1) (base := w6.heap.size) w6 #[.int .i64 k] 1 (Nat.le_refl _) (by unfold maxLen; omega) (by simp)
              have HLIT : Hid ((w6.alloc (.cells #[.int .i64 k] 3)).ownsRow w6.heap.size 3 1 (.slice (some ⟨w6.heap.size, 0, none⟩) 1 1) 1 [.int .i64 k]) := Lib.hid (by simpa using hlit)
              have hb7 := below1 w6 (.cells #[.int .i64 k] 3)
              have HB7 := Lib.hid hb7
              have hones : ∀ u ∈ ints (toI rest), u.oneCell' = true := by
                intro u hu
                simp only [ints, List.mem_map] at hu
                obtain ⟨z, _, rfl⟩ := hu
                rfl
              have hlenI : (ints (toI rest)).length = rest.length * 1 := by rw [ints_length]; simp [toI]
              have HNEWS : Hid (∀ j u, (ints (toI rest))[j]? = some u → ∃ b off, ra2 = some ⟨b, off, none⟩ ∧ (w6.alloc (.cells #[.int .i64 k] 3)).cell? ⟨b, off + j, none⟩ = some u) := Lib.hid fun j u hu => by obtain ⟨g, h1, -, -, h2⟩ := owns_at (owns_below (B := 0) HROW6.out HB7.out) hu; exact ⟨g, 0, h1, h2⟩
              have HNIL : Hid (ra2 = none → rest.length = 0 ∧ rc2 = 0) := Lib.hid fun h => (owns_cap HROW6.out).2.2.2 h
              have HONE := Lib.hid hones
              have HLI := Lib.hid hlenI
              clear hm6 hd6 hrow6 hlit hb7 hones hlenI hfr6 HCI hor HT HTK HOL
              go_wp2_with ((at_builtin; refine ap_src (w6.alloc (.cells #[.int .i64 k] 3)) EIh rfl _ _ rfl w6.heap.size _ 1 _ rfl HLIT.out (by simp) ra2 rest.length rc2 (ints (toI rest)) rfl HNIL.out HLI.out HNEWS.out HONE.out (by omega) ?_; intro v8 w8 hown8 hg8 hb8 hfr8; obtain ⟨a8, c8, rfl⟩ := owns_slice hown8))
              go_ret2
              have hB8 := HB7.out.trans hb8
              refine ⟨D6, HM6.out.of_eq (hB8.block dm HM6.out.lt), HD6.out, ?_, HFR6.out.then_below hB8⟩
              rw [E.out]
              have hl1 : (k :: rest).length = 1 + rest.length := by rw [List.length_cons]; omega
              refine ⟨a8, c8, ?_, ?_⟩
              · rw [hl1]; rfl
              · rw [hl1]
                exact owns_base hown8 hz6
      · obtain rfl : k = n := by omega
        have E : Hid (fnd k (befB l) (stepD c l) (r + 1) ord m = none) := Lib.hid (by rw [fnd_succ]; exact range_find_none.2 HT.out)
        obtain ⟨w9, hup, hm9, hg9⟩ := run_update strKey under_mapS HM'.out KY (.int .i64 1)
        have x1 : wr.cell? ⟨sb, 1, none⟩ = some (.map (some dm)) := H2'.out.cell 1
        have xl := H2'.out.lt
        have HM9 := Lib.hid hm9
        have HG9 := Lib.hid (HFR.out.grown hg9 fun i e => by cases e; exact .inl rfl)
        clear hm9 hg9 h'
        go_wp2
        go_ret2
        refine ⟨_, HM9.out, HPUT.out D' HD'.out E.out, ?_, HG9.out⟩
        rw [E.out]
        rfl
end Go.Proofs.YtdjooacjjnjfmaaGreat
end

-- lin.Search: the first order that explains calls.
section
namespace Go.Proofs.YtdjooacjjnjfmaaGreat
set_option linter.unusedVariables false
set_option linter.unusedSimpArgs false
set_option maxRecDepth 20000
open Go.RowKit Go.Proofs.YtdjooacjjnjfmaaGreatMem Go.Proofs.YtdjooacjjnjfmaaGreatMapK Go.Proofs.YtdjooacjjnjfmaaGreatLin H

theorem RetO.base {w w4 w' : World} {o : Option (List Nat)} {e : Ending} (h : RetO w4 o e w') (hb : w.heap.size ≤ w4.heap.size) : RetO w o e w' := by
  cases o with
  | none => exact h
  | some l =>
    obtain ⟨ao, cap, h1, h2⟩ := h
    exact ⟨ao, cap, h1, owns_base h2 hb⟩
theorem right_cfg {c : Cfg} (hu : W64 c.unit) (h : c.right = true) : c.Ok ∧ (1 ≤ c.unit ∧ c.unit ≤ 4611686018427387904) ∧ c.shards ≠ 0 := by
  unfold Cfg.right inB at h
  simp only [Bool.and_eq_true, decide_eq_true_eq] at h
  refine ⟨⟨hu, ?_⟩, ?_, ?_⟩ <;> omega
/-- The parts, in memory of their own. -/
theorem parts_bare {c : Cfg} {PD l' : List DoneS} (h : l'.map DoneS.bare = PD) : l'.length = PD.length ∧ befB l' = befB PD ∧ stepD c l' = stepD c PD ∧ stepR c l' = stepR c PD :=
  ⟨by rw [← h, List.length_map], by rw [← h, befB_bare], by rw [← h, stepD_bare], by rw [← h, stepR_bare]⟩
def ParOk (n : Nat) (l : List DoneS) : Prop := n ≤ 1000 ∧ ∀ d ∈ l, d.len ≤ 100
theorem ParOk.big {n : Nat} {l : List DoneS} (h : ParOk n l) : ∀ d ∈ l, d.len ≤ 1048576 := fun d hd => Nat.le_trans (h.2 d hd) (by decide)
set_option maxHeartbeats 4000000 in
theorem linSearch_any (c : Cfg) (hu : W64 c.unit) (ao : Option Addr) (n cap : Nat) (l : List DoneS) (w : World) (h : RdD w ao n cap l) (hp : ParOk n l) :
    Calls Tryz.prog 17 #[.agg #[.int .i64 c.shards, .int .i64 c.slots, .int .i64 c.workers, .int .i64 c.width, .int .u64 c.unit], .slice ao n cap] w fun e w' => RetO w (foundB c l) e w' ∧ Below w.heap.size w w' := by
  have B := Blk.new w c.cells 24
  have hb := below1 w (.cells #[.int .i64 c.shards, .int .i64 c.slots, .int .i64 c.workers, .int .i64 c.width, .int .u64 c.unit] 24)
  have HB := Lib.hid hb
  have HRD := Lib.hid (fun w' (hb : Below w.heap.size w w') => h.below hb)
  have HBX : Hid (Blk (w.alloc (.cells #[.int .i64 c.shards, .int .i64 c.slots, .int .i64 c.workers, .int .i64 c.width, .int .u64 c.unit] 24)) w.heap.size c.cells 24) := Lib.hid B
  have CP := fun w' (hb : Below w.heap.size w w') => H.histParts_any ao n cap l w' (HRD.out w' hb) hp.1 hp.big
  have CM := fun w' (hb : Below w.heap.size w w') => linMay_any c ao n cap l w' (HRD.out w' hb)
  have CN := new11_any c
  have HF : Hid (foundB c l = if mayB c l = true ∧ (partsD l).length ≤ 12 then fnd (partsD l).length (befB (partsD l)) (stepD c (partsD l)) (partsD l).length [] .new else none) := Lib.hid rfl
  have HMB : Hid (mayB c l = true → c.right = true) := Lib.hid fun h => by unfold mayB at h; simp only [Bool.and_eq_true] at h; exact h.1
  clear B hb h hp
  generalize foundB c l = FB at *
  generalize mayB c l = MB at *
  generalize hPD : partsD l = PD at *
  go_enter Tryz.func17, Tryz.ntmps17
  go_upto_region 1 with fail
  generalize (w.alloc (.cells #[.int .i64 c.shards, .int .i64 c.slots, .int .i64 c.workers, .int .i64 c.width, .int .u64 c.unit] 24)) = W at *
  go_wp2_with fail
  refine (CP _ HB.out).mono ?_
  rintro e w1 ⟨v, l', rfl, hmap, hown, hb1⟩
  obtain ⟨pa, pc, rfl⟩ := hown.slice
  have HB1 := Lib.hid (HB.out.trans (hb1.mono HB.out.size))
  have HBX1 := Lib.hid (HBX.out.below hb1)
  have HOWN := Lib.hid hown.rd
  obtain ⟨q1, q2, q3, -⟩ := parts_bare (c := c) hmap
  have Q2 := Lib.hid q2
  have Q3 := Lib.hid q3
  clear q2 q3 hmap hown hb1 hPD
  generalize hLN : l'.length = N at *
  have a0 : w1.cell? ⟨w.heap.size, 0, none⟩ = some (.int .i64 c.shards) := HBX1.out.cell 0
  have a1 : w1.cell? ⟨w.heap.size, 1, none⟩ = some (.int .i64 c.slots) := HBX1.out.cell 1
  have a2 : w1.cell? ⟨w.heap.size, 2, none⟩ = some (.int .i64 c.workers) := HBX1.out.cell 2
  have a3 : w1.cell? ⟨w.heap.size, 3, none⟩ = some (.int .i64 c.width) := HBX1.out.cell 3
  have a4 : w1.cell? ⟨w.heap.size, 4, none⟩ = some (.int .u64 c.unit) := HBX1.out.cell 4
  have al := HBX1.out.lt
  have HQ1 := Lib.hid q1
  clear q1 hLN
  go_wp2_with fail
  refine (CM _ HB1.out).mono ?_
  rintro e w2 ⟨rfl, hb2⟩
  have HB2 := Lib.hid (HB1.out.trans (hb2.mono HB1.out.size))
  have HBX2 := Lib.hid (HBX1.out.below hb2)
  have HOWN2 := Lib.hid (HOWN.out.below hb2)
  clear hb2 a0 a1 a2 a3 a4 al
  cases MB with
  | false =>
    have E : Hid (FB = none) := Lib.hid (by rw [HF.out, if_neg (by simp)])
    go_wp2
    go_ret2
    exact ⟨by rw [E.out]; rfl, HB2.out⟩
  | true =>
    by_cases h12 : N ≤ 12
    · have n12 : ¬ (12 : Int) < (N : Int) := by omega
      have E : Hid (FB = fnd N (befB l') (stepD c l') N [] .new) := Lib.hid (by rw [HF.out, if_pos ⟨rfl, by rw [← HQ1.out]; exact h12⟩, ← HQ1.out, Q2.out, Q3.out])
      have hrt := HMB.out rfl
      obtain ⟨hcOk, -, -⟩ := right_cfg hu hrt
      have a0 : w2.cell? ⟨w.heap.size, 0, none⟩ = some (.int .i64 c.shards) := HBX2.out.cell 0
      have a1 : w2.cell? ⟨w.heap.size, 1, none⟩ = some (.int .i64 c.slots) := HBX2.out.cell 1
      have a2 : w2.cell? ⟨w.heap.size, 2, none⟩ = some (.int .i64 c.workers) := HBX2.out.cell 2
      have a3 : w2.cell? ⟨w.heap.size, 3, none⟩ = some (.int .i64 c.width) := HBX2.out.cell 3
      have a4 : w2.cell? ⟨w.heap.size, 4, none⟩ = some (.int .u64 c.unit) := HBX2.out.cell 4
      have al := HBX2.out.lt
      go_wp2_with fail
      refine (CN _).mono ?_
      rintro e w3 hnew
      unfold NewPost at hnew
      rw [if_pos hrt] at hnew
      obtain ⟨mb, rfl, hmd, hb3⟩ := hnew
      have HB3 := Lib.hid (HB2.out.trans (hb3.mono HB2.out.size))
      have HOWN3 := Lib.hid (HOWN2.out.below hb3)
      have HMD := Lib.hid hmd
      have hz2 := HB2.out.size
      have hz3 := hb3.size
      clear hmd hb3 a0 a1 a2 a3 a4 al HBX HBX1 HBX2 HOWN HOWN2
      have hb4 : Below w3.heap.size w3 ((w3.alloc (.map #[] 0)).alloc (.cells #[.slice pa N pc, .map (some w3.heap.size)] 77)) := ((Below.refl _ _).alloc (Nat.le_refl _) _).alloc (by simp) _
      have HS4 : Hid (Blk ((w3.alloc (.map #[] 0)).alloc (.cells #[.slice pa N pc, .map (some w3.heap.size)] 77)) (w3.heap.size + 1) [.slice pa N pc, .map (some w3.heap.size)] 77) := Lib.hid (by
        have := Blk.new (w3.alloc (.map #[] 0)) [.slice pa N pc, .map (some w3.heap.size)] 77
        rwa [show (w3.alloc (.map #[] 0)).heap.size = w3.heap.size + 1 by simp] at this)
      have HM4 : Hid (IsMapAt ((w3.alloc (.map #[] 0)).alloc (.cells #[.slice pa N pc, .map (some w3.heap.size)] 77)) w3.heap.size Value.string []) := Lib.hid (by
        have h1 := IsMapAt.made w3 Value.string
        exact h1.of_eq ((below1 (w3.alloc (.map #[] 0)) _).block w3.heap.size h1.lt))
      have HB4 := Lib.hid hb4
      clear hb4
      have hmm : (Instr.makeMap 75 none).run Tryz.prog w3 = .ok (.map (some w3.heap.size)) (w3.alloc (.map #[] 0)) := rfl
      have hz4 := HB4.out.size
      have CF := from_any c hcOk l' (w3.heap.size + 1) w3.heap.size pa N pc h12 N [] .new mb _ _ [] (by simp) (Val.of List.nodup_nil (fun k hk => by cases hk) MdS.Good.new (by omega)) MdS.Good.new (HOWN3.out.below HB4.out) HS4.out HM4.out (Dead.nil _ _ _ _) (HMD.out.below HB4.out) (fun h => by have := h.2; omega)
      rw [← E.out] at CF
      have CF2 : Calls Tryz.prog 42 #[.pointer (some ⟨w3.heap.size + 1, 0, none⟩), .int .u64 0, .pointer (some ⟨mb, 0, none⟩)] ((w3.alloc (.map #[] 0)).alloc (.cells #[.slice pa N pc, .map (some w3.heap.size)] 77)) (FromPost N (befB l') c l' w3.heap.size ((w3.alloc (.map #[] 0)).alloc (.cells #[.slice pa N pc, .map (some w3.heap.size)] 77)) FB) := CF
      clear CF HM4 HMD HOWN3
      go_wp2_with fail
      refine CF2.mono ?_
      rintro e w5 ⟨D5, -, -, hret, hfr⟩
      have hB5 := HB3.out.trans ((HB4.out.mono HB3.out.size).trans (hfr.below (B := w.heap.size) (fun i e => by rw [e]; omega) (by omega)))
      have hret2 := hret.base (w := w) (by omega)
      clear hret hfr CF2
      cases FB with
      | none =>
        have he : e = .returned (.tuple #[.slice none 0 0, .bool false]) := hret2
        subst he
        go_wp2
        go_ret2
        exact ⟨rfl, hB5⟩
      | some o =>
        obtain ⟨ra, rc, rfl, hrow⟩ := hret2
        go_wp2
        go_ret2
        exact ⟨⟨ra, rc, rfl, hrow⟩, hB5⟩
    · have n12 : (12 : Int) < (N : Int) := by omega
      have E : Hid (FB = none) := Lib.hid (by rw [HF.out, if_neg (by rw [← HQ1.out]; omega)])
      go_wp2
      go_ret2
      exact ⟨by rw [E.out]; rfl, HB2.out⟩
end Go.Proofs.YtdjooacjjnjfmaaGreat
end
