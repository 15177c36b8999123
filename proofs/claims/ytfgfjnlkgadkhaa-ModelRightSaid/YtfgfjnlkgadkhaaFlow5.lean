/- A flow of the program, next: cloning its packets, dropping the first, serving, a copy. -/
import Derived.Test.YtfgfjnlkgadkhaaFlow4
import Derived.Lib.SliceRun
namespace Go.Proofs.Ytfgfjnlkgadkhaa
set_option linter.unusedVariables false
set_option maxRecDepth 20000
set_option linter.unusedSimpArgs false
open Go.RowKit Go.Proofs.YtfgfjnlkgadkhaaMem

theorem FlowPost.trans {b : Nat} {x1 x2 : FlS} {F : Nat → Prop} {w w1 w2 : World} (h : FlowPost b x1 F w w1) (k : FlowPost b x2 (Ext F w w1) w1 w2) : FlowPost b x2 F w w2 := by
  have s1 := h.2.size
  have s2 := k.2.size
  refine ⟨?_, ?_⟩
  · have hF : ∀ i, Ext (Ext F w w1) w1 w2 i → Ext F w w2 i := by
      intro i hi
      rcases hi with (hi | hi) | hi
      · exact .inl hi
      · exact .inr ⟨hi.1, by omega⟩
      · exact .inr ⟨by omega, hi.2⟩
    refine k.1.mono hF ?_
    obtain ⟨ao, cap, -, -, -, -, hlt⟩ := k.1
    have hl1 : Lt (Ext F w w1) w1 := by obtain ⟨ao, cap, -, -, -, -, hlt⟩ := h.1; exact hlt
    intro i hi
    rcases hi with hi | hi
    · have := hl1 i (.inl hi); omega
    · exact hi.2
  · exact h.2.trans k.2 fun i hi s => by
      rcases s with s | s
      · exact s
      · omega
theorem FlowPost.of_below {b : Nat} {x : FlS} {F : Nat → Prop} {w w1 : World} (h : FlowAt w b x F) (hb : Below w.heap.size w w1) : FlowPost b x F w w1 := by
  have hlt : Lt F w := by obtain ⟨ao, cap, -, -, -, -, hlt⟩ := h; exact hlt
  exact ⟨(h.below hb).mono (fun k hk => .inl hk) (hlt.ext hb.size), Fr.of_below hb⟩
theorem FlowPost.then_below {b : Nat} {x : FlS} {F : Nat → Prop} {w w1 w2 : World} (h : FlowPost b x F w w1) (hb : Below w1.heap.size w1 w2) : FlowPost b x F w w2 := h.trans (FlowPost.of_below h.1 hb)

theorem FlowPost.refl {b : Nat} {x : FlS} {F : Nat → Prop} {w : World} (h : FlowAt w b x F) : FlowPost b x F w w := FlowPost.of_below h (Below.refl _ _)
theorem FlowPost.after_below {b : Nat} {x : FlS} {F : Nat → Prop} {w w1 w2 : World} (hF : Lt F w) (hb : Below w.heap.size w w1) (h : FlowPost b x F w1 w2) : FlowPost b x F w w2 := by
  have s1 := hb.size
  have s2 := h.2.size
  refine ⟨h.1.mono (fun k hk => ?_) (hF.ext (by omega)), Fr.after_below hb h.2⟩
  rcases hk with hk | hk
  · exact .inl hk
  · exact .inr ⟨by omega, hk.2⟩
theorem l_post {w w1 : World} {b : Nat} {x : FlS} {F : Nat → Prop} {l' : List Pk} {v' : Value} (h : FlowAt w b x F) (hb : Below w.heap.size w w1) (hown : w1.ownsRow w.heap.size 55 3 v' l'.length (pks l')) :
    FlowPost b { x with l := l' } F w (w1.setCell ⟨b, 2, none⟩ v') := by
  have hltF : Lt F w := by obtain ⟨ao, cap, -, -, -, -, hlt⟩ := h; exact hlt
  obtain ⟨ao, cap, hB, ho, h1, h2, -⟩ := h.below hb
  obtain ⟨a', c', rfl⟩ := owns_slice hown
  have hbl := hltF b h1
  have hne : ∀ a, a' = some a → (w.heap.size ≤ a.block ∧ a.block < w1.heap.size) := fun a ha => by subst ha; exact hown.lt a.block rfl
  have hs : (w1.setCell ⟨b, 2, none⟩ (.slice a' l'.length c')).heap.size = w1.heap.size := by simp [World.setCell]
  refine ⟨⟨a', c', ?_, ?_, .inl h1, ?_, hltF.ext (by rw [hs]; exact hb.size)⟩, (Fr.of_below hb).setCell (.inl h1) _⟩
  · simpa using hB.set 2 (.slice a' l'.length c')
  · refine owns_base (owns_fr (S := fun k => k = b) hown (Fr.setCell (S := fun k => k = b) (a := ⟨b, 2, none⟩) (Fr.refl _ _) (.inl rfl) _) fun k hk => ?_) (Nat.zero_le _)
    cases a' with
    | none => cases hk
    | some a => cases hk; intro e; have := hne a rfl; omega
  · intro a ha
    have := hne a ha
    exact ⟨.inr ⟨this.1, by rw [hs]; exact this.2⟩, by omega⟩

/-- The rest of a row of packets, behind its first one. -/
theorem owns_rest {w : World} {e : TypeId} {g cap : Nat} {p : Pk} {rest : List Pk} (h : w.ownsRow 0 e 3 (.slice (some ⟨g, 0, none⟩) (rest.length + 1) cap) (rest.length + 1) (p.cells ++ pks rest)) : RdS w (some ⟨g, 3, none⟩) rest.length (cap - 1) 3 (pks rest) := by
  have hc := owns_cap h
  refine ⟨pks_length _, by omega, (fun h => by cases h), by have := hc.2.2.1; unfold maxLen at this; omega, pks_one _, fun j u hu => ?_⟩
  obtain ⟨g', e, _, hlt, hcell⟩ := owns_at (j := 3 + j) h (u := u) (by rw [List.getElem?_append_right (by simp [Pk.cells])]; simpa [Pk.cells] using hu)
  simp only [Option.some.injEq, Addr.mk.injEq] at e
  obtain ⟨rfl, -⟩ := e
  exact ⟨g, 3, rfl, hlt, by rw [← hcell]; congr 2; omega⟩

theorem owns_empty3 (w : World) (base e : Nat) (hb : base ≤ w.heap.size) : (w.alloc (.cells #[] e)).ownsRow base e 3 (.slice (some ⟨w.heap.size, 0, none⟩) 0 0) 0 [] := owns_empty w base e 3 hb

set_option maxHeartbeats 1000000 in
theorem cloneP_any (ao : Option Addr) (n cap : Nat) (l : List Pk) (w : World) (h : RdS w ao n cap 3 (pks l)) (hl : l.length = n) (hn : n ≤ 549755813888) :
    Calls Try.prog 89 #[.slice ao n cap] w (RetRow w 55 3 n (pks l)) := by
  have hse := fun w a n c => Lib.run_eql_slice_nil (P := Try.prog) w 35 55 a n c 0 0 Try.underlying35
  cases ao with
  | none =>
    obtain ⟨rfl, rfl⟩ := h.nil rfl
    have e : l = [] := List.eq_nil_of_length_eq_zero hl
    subst e
    go_enter Try.func89, Try.ntmps89
    go_wp2
    go_ret
    exact ⟨_, rfl, World.ownsRow_nil _ _ _ _, Below.refl _ _⟩
  | some ad =>
    have hl2 : (pks l).length = n * 3 := by rw [pks_length, hl]
    have hc : ∀ j u, (pks l)[j]? = some u → ∃ b off, some ad = some ⟨b, off, none⟩ ∧ (w.alloc (.cells #[] 55)).cell? ⟨b, off + j, none⟩ = some u := by
      intro j u hu
      obtain ⟨b, off, e, hlt, hc⟩ := (h.below ((Below.refl _ _).alloc (Nat.le_refl _) (.cells #[] 55))).at_ j u hu
      exact ⟨b, off, e, hc⟩
    have h1 : ∀ u ∈ pks l, u.oneCell' = true := pks_one l
    have hn2 : 0 + n ≤ 1099511627776 := by omega
    have HC := Lib.hid hc
    have H1 := Lib.hid h1
    have HL := Lib.hid hl2
    clear hc h1 hl2 hl
    go_enter Try.func89, Try.ntmps89
    go_wp2_with ((at_builtin; refine ap_src (w.alloc (.cells #[] 55)) EP rfl _ _ rfl w.heap.size _ 0 _ rfl (owns_empty w w.heap.size 55 3 (Nat.le_refl _)) (by simp) (some ad) n cap (pks l) rfl (fun h => by cases h) HL.out HC.out H1.out hn2 ?_; intro v' w3 hown3 hg3 hb3 hfr3))
    go_ret
    exact ⟨_, rfl, by simpa using hown3, ((Below.refl _ _).alloc (Nat.le_refl _) _).trans hb3⟩

set_option maxHeartbeats 1000000 in
theorem drop_any (b : Nat) (x : FlS) (F : Nat → Prop) (w : World) (p : Pk) (rest : List Pk) (h : FlowAt w b x F) (ok : x.Ok) (hl : x.l = p :: rest) :
    Calls Try.prog 71 #[.pointer (some ⟨b, 0, none⟩)] w fun e w' => e = .returned (.tuple #[]) ∧ FlowPost b { x with l := rest } F w w' := by
  have P := Lib.hid fun w1 v' (hb : Below w.heap.size w w1) (hown : w1.ownsRow w.heap.size 55 3 v' rest.length (pks rest)) => l_post h hb hown
  have hr8 : rest.length + 1 ≤ 8 := by have h1 := ok.m8; have h2 := ok.len; rw [hl] at h2; simp at h2; omega
  obtain ⟨g, cap, hb, ho, hFb, hFg, hne, hF, hcap, f0, f1, f2⟩ := h.first hl
  have R := Lib.hid (owns_rest ho)
  have hlt := hb.lt
  have hlg : g < w.heap.size := hF g hFg
  have c2 := hb.cell 2
  simp only [List.getElem?_cons_succ, List.getElem?_cons_zero] at c2
  have HB := Lib.hid hb
  clear hb ho hl h ok
  rcases (show cap = 1 ∨ 2 ≤ cap by omega) with hcp | hcp
  · subst hcp
    have e : rest = [] := List.eq_nil_of_length_eq_zero (by omega)
    subst e
    have R0 : RdS w (some ⟨g, 0, none⟩) 0 0 3 (pks []) := ⟨rfl, by omega, (fun h => by cases h), by omega, pks_one _, fun j u hu => by cases hu⟩
    go_enter Try.func71, Try.ntmps71
    go_wp2_with (go_at_call 89; refine (cloneP_any (some ⟨g, 0, none⟩) 0 0 [] _ R0 rfl (by omega)).mono ?_; rintro e w1 ⟨v, rfl, hown, hb⟩; obtain ⟨a', c', rfl⟩ := owns_slice hown; have d2 := (HB.out.below hb).cell 2; have fz := (HB.out.below hb).frozen 2; simp only [List.getElem?_cons_succ, List.getElem?_cons_zero] at d2)
    go_end0
    exact ⟨rfl, P.out _ _ hb hown⟩
  · go_enter Try.func71, Try.ntmps71
    go_wp2_with (go_at_call 89; refine (cloneP_any (some ⟨g, 3, none⟩) rest.length (cap - 1) rest _ R.out rfl (by omega)).mono ?_; rintro e w1 ⟨v, rfl, hown, hb⟩; obtain ⟨a', c', rfl⟩ := owns_slice hown; have d2 := (HB.out.below hb).cell 2; have fz := (HB.out.below hb).frozen 2; simp only [List.getElem?_cons_succ, List.getElem?_cons_zero] at d2)
    go_end0
    exact ⟨rfl, P.out _ _ hb hown⟩

/-- The flow behind the first steps of serving. -/
def FlS.stepped (x : FlS) (p : Pk) (rest : List Pk) : Nat → FlS
  | 0 => x
  | 1 => { x with finish := x.fin p }
  | 2 => { x with finish := x.fin p, l := rest }
  | _ => { x with finish := x.fin p, start := x.fin p, l := rest }

set_option maxHeartbeats 1000000 in
theorem serve_none (b : Nat) (x : FlS) (F : Nat → Prop) (w : World) (h : FlowAt w b x F) (hl : x.l = []) :
    Calls Try.prog 59 #[.pointer (some ⟨b, 0, none⟩)] w fun e w' => e = .returned (.tuple #[Pk.zero.val, .int .u64 0, .bool false]) ∧ Below w.heap.size w w' := by
  have H : ∀ w', Below w.heap.size w w' → FlowAt w' b x F := fun w' hb => h.below hb
  have hh : x.has = false := by unfold FlS.has; rw [hl]; rfl
  have hd : x.head = Pk.zero := by unfold FlS.head; rw [hl]
  have HH := Lib.hid H
  have HD := Lib.hid hd
  clear H hd h hl
  go_enter Try.func59, Try.ntmps59
  go_wp2_with (go_at_call 69; refine (head_any b x F _ (HH.out _ (below1 _ _))).mono ?_; rw [hh, HD.out]; rintro e w1 ⟨rfl, hb1⟩; simp only [Pk.val, Pk.zero]; have B := (Blk.new w [.int .i64 0, .int .i64 0, .int .i64 0] 55).below hb1; have t0 := B.cell 0; have t1 := B.cell 1; have t2 := B.cell 2; have tf := B.frozen; have tl := B.lt; simp only [List.getElem?_cons_succ, List.getElem?_cons_zero] at t0 t1 t2)
  refine bodyPost_ret (v := .tuple #[.agg #[.int .i64 0, .int .i64 0, .int .i64 0], .int .u64 0, .bool false]) (by simp [results, Try.results59, go_sem, t0, t1, t2, tl, World.cell?_alloc_past]) rfl ⟨rfl, ?_⟩
  have hbb : Below w.heap.size w w1 := (below1 w _).trans (hb1.mono (by simp))
  repeat (first | exact hbb | refine Below.setCell ?_ (by simp) _ | refine Below.alloc ?_ (by first | exact hbb.size | (simp; exact hbb.size)) _)

theorem FlS.head_cons {x : FlS} {p : Pk} {rest : List Pk} (hl : x.l = p :: rest) : x.head = p := by unfold FlS.head; rw [hl]

theorem idx3_0 (a b c : Value) (wx : World) : (Instr.index 116 (.agg #[a, b, c]) (.int .i64 0)).run Try.prog wx = .ok a wx := rfl
theorem idx3_1 (a b c : Value) (wx : World) : (Instr.index 116 (.agg #[a, b, c]) (.int .i64 1)).run Try.prog wx = .ok b wx := rfl
theorem idx3_2 (a b c : Value) (wx : World) : (Instr.index 116 (.agg #[a, b, c]) (.int .i64 2)).run Try.prog wx = .ok c wx := rfl
def ServePost (b : Nat) (x : FlS) (F : Nat → Prop) (w : World) (p : Pk) (rest : List Pk) (en : Ending) (w' : World) : Prop :=
  en = .returned (.tuple #[p.val, .int .u64 (x.fin p), .bool true]) ∧ FlowPost b (x.stepped p rest 3) F w w'

theorem serve_end {b : Nat} {x : FlS} {F : Nat → Prop} {w W2 wr : World} {a c d : Value} {t : Nat} (hb2 : Below w.heap.size w W2) (hF : Lt F w) (h1 : t = w.heap.size) (h2 : w.heap.size < W2.heap.size) (h : FlowPost b x F W2 wr) :
    FlowPost b x F w (((wr.drew.setCell ⟨t, 0, none⟩ a).setCell ⟨t, 1, none⟩ c).setCell ⟨t, 2, none⟩ d) := by
  subst h1
  have hn : ∀ k, Ext F W2 wr k → ¬ (k = w.heap.size) := by
    intro k hk e
    rcases hk with hk | hk
    · have := hF k hk; omega
    · omega
  have f0 : Fr (fun k => k = w.heap.size) wr wr.drew := (Fr.refl _ _).drew
  have f1 : Fr (fun k => k = w.heap.size) wr (wr.drew.setCell ⟨w.heap.size, 0, none⟩ a) := f0.setCell (.inl rfl) a
  have f2 : Fr (fun k => k = w.heap.size) wr ((wr.drew.setCell ⟨w.heap.size, 0, none⟩ a).setCell ⟨w.heap.size, 1, none⟩ c) := f1.setCell (.inl rfl) c
  have hf : Fr (fun k => k = w.heap.size) wr (((wr.drew.setCell ⟨w.heap.size, 0, none⟩ a).setCell ⟨w.heap.size, 1, none⟩ c).setCell ⟨w.heap.size, 2, none⟩ d) := f2.setCell (.inl rfl) d
  have hh := FlowPost.after_below hF hb2 h
  refine ⟨(h.1.fr hf hn).mono (fun k hk => ?_) (hF.ext ?_), ?_⟩
  · have := hf.size
    have := hb2.size
    rcases hk with hk | hk
    · exact .inl hk
    · exact .inr ⟨by omega, by omega⟩
  · exact Nat.le_trans (Nat.le_trans hb2.size h.2.size) hf.size
  · exact hh.2.trans hf fun i hi e => by omega

set_option maxHeartbeats 2000000 in
theorem serve_some (b : Nat) (x : FlS) (F : Nat → Prop) (w : World) (p : Pk) (rest : List Pk) (h : FlowAt w b x F) (ok : x.Ok) (hl : x.l = p :: rest) :
    Calls Try.prog 59 #[.pointer (some ⟨b, 0, none⟩)] w (ServePost b x F w p rest) := by
  have H : ∀ w', Below w.heap.size w w' → FlowAt w' b x F := fun w' hb => h.below hb
  have H0 : ∀ w', Below w.heap.size w w' → FlowPost b (x.stepped p rest 0) F w' w' := fun w' hb => FlowPost.refl (h.below hb)
  have hh : x.has = true := by unfold FlS.has; rw [hl]; rfl
  have hd : x.head = p := FlS.head_cons hl
  have hbF : b < w.heap.size ∧ (∀ k, F k → k < w.heap.size) := by obtain ⟨ao, cap, hb, -, -, -, hlt⟩ := h; exact ⟨hb.lt, hlt⟩
  have ok1 : (x.stepped p rest 1).Ok := ⟨ok.r, ok.start, FlS.fin_w64 ok p, ok.m1, ok.m8, ok.len, ok.pk⟩
  have C0 := fun W wr (hr : FlowPost b (x.stepped p rest 0) F W wr) => charge_any b x (Ext F W wr) wr p rest hr.1 ok hl
  have C1 := fun W wr (hr : FlowPost b (x.stepped p rest 1) F W wr) => drop_any b (x.stepped p rest 1) (Ext F W wr) wr p rest hr.1 ok1 hl
  have C2 := fun W wr (hr : FlowPost b (x.stepped p rest 2) F W wr) => turn_any b (x.stepped p rest 2) (Ext F W wr) wr hr.1
  have HH := Lib.hid H
  have HH0 := Lib.hid H0
  have HC0 := Lib.hid C0
  have HC1 := Lib.hid C1
  have HC2 := Lib.hid C2
  have HD := Lib.hid hd
  have hix0 := fun a b c wx => idx3_0 a b c wx
  have hix1 := fun a b c wx => idx3_1 a b c wx
  have hix2 := fun a b c wx => idx3_2 a b c wx
  have hmf : ∀ fn first cap w, (Instr.makeFunc fn first cap).run Try.prog w = .ok (.func fn first cap) w := fun _ _ _ _ => rfl
  clear H H0 C0 C1 C2 hd h hl ok ok1
  go_enter Try.func59, Try.ntmps59
  go_wp2_with (go_at_call 69; refine (head_any b x F _ (HH.out _ (below1 _ _))).mono ?_; rw [hh, HD.out]; rintro e w1 ⟨rfl, hb1⟩; simp only [Pk.val, Pk.zero]; have B := (Blk.new w [.int .i64 0, .int .i64 0, .int .i64 0] 55).below hb1; have t0 := B.cell 0; have t1 := B.cell 1; have t2 := B.cell 2; have tf := B.frozen; have tl := B.lt; simp only [List.getElem?_cons_succ, List.getElem?_cons_zero] at t0 t1 t2)
  have hb2 : Below w.heap.size w (w1.alloc (.cells #[.int .i64 p.flow, .int .i64 p.len, .int .i64 p.mark] 55)) := ((below1 w _).trans (hb1.mono (by simp))).alloc (by have := hb1.size; simp at this; omega) _
  have q0 := Blk.new w1 [.int .i64 p.flow, .int .i64 p.len, .int .i64 p.mark] 55
  have z0 := B.alloc (.cells #[.int .i64 p.flow, .int .i64 p.len, .int .i64 p.mark] 55)
  have hn1 : ¬ F w1.heap.size := fun h => by have := hbF.2 _ h; omega
  have hn2 : ¬ F w.heap.size := fun h => by have := hbF.2 _ h; omega
  have S0 := HH0.out _ hb2
  generalize hW : w1.alloc (.cells #[.int .i64 p.flow, .int .i64 p.len, .int .i64 p.mark] 55) = W2 at *
  go_loopw [24] (fun v wr => ∃ k : Nat, k ≤ 3 ∧ v = .int .i64 k ∧ FlowPost b (x.stepped p rest k) F W2 wr) (fun v _ => (3 - intOf v).toNat)
  case atStart => exact ⟨0, by omega, rfl, S0⟩
  case round =>
    obtain ⟨k, hk, rfl, hr⟩ := hrel
    have hk2 : k = 0 ∨ k = 1 ∨ k = 2 ∨ k = 3 := by omega
    rcases hk2 with rfl | rfl | rfl | rfl
    · go_wp2_with (go_at_call 70; refine (HC0.out _ _ hr).mono ?_; rintro e w' ⟨rfl, hp⟩)
      go_roundw
      case rel => exact ⟨1, by omega, rfl, hr.trans hp⟩
      case measure => simp [intOf]
    · go_wp2_with (go_at_call 71; refine (HC1.out _ _ hr).mono ?_; rintro e w' ⟨rfl, hp⟩)
      go_roundw
      case rel => exact ⟨2, by omega, rfl, hr.trans hp⟩
      case measure => simp [intOf]
    · go_wp2_with (go_at_call 72; refine (HC2.out _ _ hr).mono ?_; rintro e w' ⟨rfl, hp⟩)
      go_roundw
      case rel => exact ⟨3, by omega, rfl, hr.trans hp⟩
      case measure => simp [intOf]
    · have qf := q0.fr hr.2 hn1
      have zf := z0.fr hr.2 hn2
      have q1 := qf.cell 0
      have q2 := qf.cell 1
      have q3 := qf.cell 2
      have z1 := zf.cell 0
      have z2 := zf.cell 1
      have z3 := zf.cell 2
      have zz := zf.frozen
      have hfin : wr.cell? ⟨b, 4, none⟩ = some (.int .u64 (x.fin p)) := by
        obtain ⟨ao, cap, hb, -⟩ := hr.1
        have := hb.cell 4
        simpa [FlS.stepped] using this
      have hne : b ≠ w.heap.size := by omega
      have hne2 : w1.heap.size ≠ w.heap.size := by omega
      simp only [List.getElem?_cons_succ, List.getElem?_cons_zero] at q1 q2 q3 z1 z2 z3
      have HR := Lib.hid hr
      clear hr qf zf
      have hlw := HR.out.2.size
      have hlb : b < wr.heap.size := by have := hb2.size; omega
      go_wp2_with fail
      go_region
      all_goals
        go_wp2
        refine bodyPost_ret (v := .tuple #[.agg #[.int .i64 p.flow, .int .i64 p.len, .int .i64 p.mark], .int .u64 (x.fin p), .bool true]) (by simp [results, Try.results59, go_sem, z1, z2, z3]) rfl ⟨rfl, ?_⟩
        exact serve_end hb2 hbF.2 rfl z0.lt HR.out
end Go.Proofs.Ytfgfjnlkgadkhaa
