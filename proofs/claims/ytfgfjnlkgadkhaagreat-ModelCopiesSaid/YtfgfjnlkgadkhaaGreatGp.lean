/- Several texts in one: Got Looks11 Recs CallsL ModelPlays0. -/
import Derived.Test.YtfgfjnlkgadkhaaGreatGg
import Derived.Test.YtfgfjnlkgadkhaaGreatGl
import Derived.Test.YtfgfjnlkgadkhaaGreatGo
import Derived.Test.YtfgfjnlkgadkhaaGreatGh
import Derived.Test.YtfgfjnlkgadkhaaGreatGa
import Derived.Test.YtfgfjnlkgadkhaaGreatGf
import Derived.Test.YtfgfjnlkgadkhaaGreatGi
-- New rows of items and of numbers, as laws read them.
section
namespace Go.Proofs.YtfgfjnlkgadkhaaGreat
set_option linter.unusedVariables false
set_option linter.unusedSimpArgs false
set_option maxRecDepth 20000
open Go.RowKit Go.Proofs.YtfgfjnlkgadkhaaGreatMem Go.Proofs.YtfgfjnlkgadkhaaGreatMapK

section
variable {w : World} {b c : Nat} {s t : SfS} {F : Nat → Prop}
theorem one_ints (l : List Int) : ∀ u ∈ l.map (Value.int .i64), u.oneCell' = true := by
  intro u hu
  obtain ⟨z, -, rfl⟩ := List.mem_map.1 hu
  rfl
/-- A new row of items, or of numbers. -/
def GotE (L : List (Int × Int)) (n : Nat) (w : World) (e : Ending) (w' : World) : Prop := ∃ ao cap, e = .returned (.slice ao n cap) ∧ RdS w' ao n cap 2 (entC L) ∧ Below w.heap.size w w'
def GotZ (L : List Int) (n : Nat) (w : World) (e : Ending) (w' : World) : Prop := ∃ ao cap, e = .returned (.slice ao n cap) ∧ RdS w' ao n cap 1 (L.map (Value.int .i64)) ∧ Below w.heap.size w w'
theorem gotE {L : List (Int × Int)} {n : Nat} (hn : L.length = n) {f : FuncId} {args : Array Value} (h : Calls Tryz.prog f args w fun e w' => ∃ v, e = .returned v ∧ w'.ownsRow w.heap.size 47 2 v L.length (entC L) ∧ Below w.heap.size w w') : Calls Tryz.prog f args w (GotE L n w) := by
  subst hn
  refine h.mono ?_
  rintro e w' ⟨v, rfl, h1, h2⟩
  obtain ⟨ao, cap, rfl⟩ := owns_slice h1
  exact ⟨ao, cap, rfl, owns_rdS h1 (entC_one _), h2⟩
theorem gotZ {L : List Int} {n : Nat} {f : FuncId} {args : Array Value} (h : Calls Tryz.prog f args w fun e w' => ∃ v, e = .returned v ∧ w'.ownsRow w.heap.size 3 1 v n (L.map (Value.int .i64)) ∧ Below w.heap.size w w') : Calls Tryz.prog f args w (GotZ L n w) := by
  refine h.mono ?_
  rintro e w' ⟨v, rfl, h1, h2⟩
  obtain ⟨ao, cap, rfl⟩ := owns_slice h1
  exact ⟨ao, cap, rfl, owns_rdS h1 (one_ints _), h2⟩
theorem starts_eq (sim : Sim s t) : s.starts = t.starts := sortE_congr sim.ent
end
end Go.Proofs.YtfgfjnlkgadkhaaGreat
end

-- law11's looks: both tell the same.
section
namespace Go.Proofs.YtfgfjnlkgadkhaaGreat
set_option linter.unusedVariables false
set_option linter.unusedSimpArgs false
set_option maxRecDepth 20000
open Go.RowKit Go.Proofs.YtfgfjnlkgadkhaaGreatMem Go.Proofs.YtfgfjnlkgadkhaaGreatMapK

theorem SfS.len_sim {s t : SfS} (h : Sim s t) (id : Int) : s.len id = t.len id := by unfold SfS.len; rw [h.get]
set_option maxHeartbeats 2000000 in
theorem looks11_any {w wx : World} {b x : Nat} {c : Cfg} {m y : MdS} {k : Nat} (h : TwoM w wx b x c m y) (hs : MSim m y) (gm : m.Good k) (hk : k ≤ 1000000) (f : Int) :
    Calls Tryz.prog 21 #[.pointer (some ⟨b, 0, none⟩), .pointer (some ⟨x, 0, none⟩), .int .i64 f] wx fun e w' => e = .returned (.bool true) ∧ Below wx.heap.size wx w' := by
  have sim := hs.s
  have gy := hs.good gm
  have hn : m.s.fs.length ≤ 1000000 := Nat.le_trans gm.ok.len hk
  have hnt : y.s.fs.length ≤ 1000000 := Nat.le_trans gy.ok.len hk
  obtain ⟨F, G, h1, ⟨sb, Gs, R⟩, h3, h4, h5, h6⟩ := h
  obtain ⟨L, hL⟩ : ∃ L, y.s.starts = L := ⟨_, rfl⟩
  obtain ⟨Z, hZ⟩ : ∃ Z, y.s.ids = Z := ⟨_, rfl⟩
  obtain ⟨n, hn1⟩ : ∃ n, L.length = n := ⟨_, rfl⟩
  obtain ⟨mm, hm1⟩ : ∃ mm, y.s.fs.length = mm := ⟨_, rfl⟩
  have hZm : Z.length = mm := by rw [← hZ, ← hm1]; unfold SfS.ids; simp
  have CV : Hid (∀ w', Below wx.heap.size wx w' → Calls Tryz.prog 17 #[.pointer (some ⟨b, 0, none⟩)] w' fun e w2 => e = .returned (.int .u64 y.s.v) ∧ w' = w2) := Lib.hid fun w' hb => by rw [← sim.v]; exact mdV_any b c m.s m.served F w' (h1.below hb)
  have CD : Hid (∀ w', Below wx.heap.size wx w' → Calls Tryz.prog 18 #[.pointer (some ⟨b, 0, none⟩)] w' fun e w2 => e = .returned (.int .i64 y.served) ∧ w' = w2) := Lib.hid fun w' hb => by rw [← hs.served]; exact mdServed_any b c m.s m.served F w' (h1.below hb)
  have CN : Hid (∀ w', Below wx.heap.size wx w' → Calls Tryz.prog 23 #[.pointer (some ⟨b, 0, none⟩), .int .i64 f] w' fun e w2 => e = .returned (.int .i64 (y.s.len f)) ∧ w' = w2) := Lib.hid fun w' hb => by rw [← SfS.len_sim sim]; exact mdLen_any b c m.s m.served F f w' (h1.below hb)
  have CNR : Hid (∀ w', Below wx.heap.size wx w' → Calls Tryz.prog 49 #[.pointer (some ⟨x, 0, none⟩), .int .i64 f] w' fun e w2 => e = .returned (.int .i64 (y.s.len f)) ∧ w' = w2) := Lib.hid fun w' hb => rmLen_any x c y.s y.served G f w' ⟨sb, Gs, R.below hb⟩
  have CS : Hid (∀ w', Below wx.heap.size wx w' → Calls Tryz.prog 20 #[.pointer (some ⟨b, 0, none⟩)] w' (GotE L n w')) := Lib.hid fun w' hb => gotE hn1 (by rw [← hL, ← starts_eq sim]; exact mdStarts_any b c m.s m.served F w' (h1.below hb) hn)
  have CSR : Hid (∀ w', Below wx.heap.size wx w' → Calls Tryz.prog 50 #[.pointer (some ⟨sb, 0, none⟩)] w' (GotE L n w')) := Lib.hid fun w' hb => gotE hn1 (by
    rw [← hL]; exact startsR_any sb y.s Gs w' (R.below hb).sfq hnt)
  have CF : Hid (∀ w', Below wx.heap.size wx w' → Calls Tryz.prog 22 #[.pointer (some ⟨b, 0, none⟩)] w' (GotZ Z mm w')) := Lib.hid fun w' hb => gotZ (by
    have := mdFlows_any b c m.s m.served F w' (h1.below hb) gm.ok.s.ids hn
    rw [sim.idsE, sim.len, hm1, hZ] at this
    exact this)
  have CFR : Hid (∀ w', Below wx.heap.size wx w' → Calls Tryz.prog 51 #[.pointer (some ⟨sb, 0, none⟩)] w' (GotZ Z mm w')) := Lib.hid fun w' hb => gotZ (by
    have := flowsR_any sb y.s Gs w' (R.below hb).sfq hnt
    rw [hm1, hZ] at this
    exact this)
  have CC : Hid (∀ w', Below wx.heap.size wx w' → w'.cell? ⟨x, 5, none⟩ = some (.pointer (some ⟨sb, 0, none⟩)) ∧ w'.cell? ⟨x, 6, none⟩ = some (.int .i64 y.served) ∧ w'.cell? ⟨sb, 1, none⟩ = some (.int .u64 y.s.v)) := Lib.hid fun w' hb => by
    have R' := R.below hb
    obtain ⟨l, hl, RR⟩ := R'.sfq
    obtain ⟨ao, cap, c0, c1, c2, -⟩ := RR.cells
    obtain ⟨-, -, -, q5, q6, -⟩ := R'.cells
    exact ⟨q5, q6, c1⟩
  have HN1 := Lib.hid hn1
  have HM1 := Lib.hid hZm
  have Td : Below wx.heap.size wx wx.drew := (Below.refl _ _).drew
  generalize y.s.v = tv at *
  generalize y.served = ts at *
  generalize y.s.len f = tn at *
  have q1 : (tv == tv) = true := by simp
  have q2 : (ts == ts) = true := by simp
  have q3 : (tn == tn) = true := by simp
  clear hn1 hZm hm1 hZ hL hnt h1 R h3 h4 h5 h6 sim hn hs gm gy
  have S0 := CC.out _ Td
  go_enter Tryz.func21, Tryz.ntmps21
  go_wp2_with fail
  go_region_held3 (fun w' => w'.cell? ⟨x, 5, none⟩ = some (.pointer (some ⟨sb, 0, none⟩)) ∧ w'.cell? ⟨x, 6, none⟩ = some (.int .i64 ts) ∧ w'.cell? ⟨sb, 1, none⟩ = some (.int .u64 tv)) (exact CC.out _ Td)
    (first
      | (go_at_call 17; refine (CV.out _ Td).mono ?_; rintro e w1 ⟨rfl, rfl⟩)
      | (go_at_call 18; refine (CD.out _ Td).mono ?_; rintro e w1 ⟨rfl, rfl⟩)
      | (go_at_call 23; refine (CN.out _ Td).mono ?_; rintro e w1 ⟨rfl, rfl⟩)
      | (go_at_call 49; refine (CNR.out _ Td).mono ?_; rintro e w1 ⟨rfl, rfl⟩)
      | (go_at_call 20; refine (CS.out _ Td).mono ?_; rintro e w1 ⟨a1, k1, rfl, rd1, hb1⟩; replace Td := Td.trans (hb1.mono Td.size))
      | (go_at_call 50; refine (CSR.out _ Td).mono ?_; rintro e w2 ⟨a2, k2, rfl, rd2, hb2⟩; replace rd1 := rd1.below hb2; replace Td := Td.trans (hb2.mono Td.size))
      | (go_at_call 19; refine (plainE_any _ _ _ _ _ L _ rd1 rd2 HN1.out).mono ?_; rintro e w3 ⟨rfl, hb3⟩; replace Td := Td.trans (hb3.mono Td.size))
      | (go_at_call 22; refine (CF.out _ Td).mono ?_; rintro e w4 ⟨a4, k4, rfl, rd4, hb4⟩; replace Td := Td.trans (hb4.mono Td.size))
      | (go_at_call 51; refine (CFR.out _ Td).mono ?_; rintro e w5 ⟨a5, k5, rfl, rd5, hb5⟩; replace rd4 := rd4.below hb5; replace Td := Td.trans (hb5.mono Td.size))
      | (go_at_call 25; refine (plainZ_any _ _ _ _ _ Z _ rd4 rd5 HM1.out).mono ?_; rintro e w6 ⟨rfl, hb6⟩; replace Td := Td.trans (hb6.mono Td.size)))
  go_wp2
  go_ret
  exact ⟨by simp [Act.eval], Td⟩
end Go.Proofs.YtfgfjnlkgadkhaaGreat
end

-- Slices of records of plain cells: how the k-th one reads.
section
namespace Go.Proofs.YtfgfjnlkgadkhaaGreatMem
set_option linter.unusedVariables false
set_option linter.unusedSimpArgs false
open Go Go.RowKit Go.Proofs.YtfgfjnlkgadkhaaGreatFlat

theorem recs_at {α : Type} {f : α → List Value} {s : Nat} (hf : ∀ x, (f x).length = s) : ∀ (l : List α) (k : Nat) (x : α), l[k]? = some x → ∀ i u, (f x)[i]? = some u → (l.flatMap f)[k * s + i]? = some u := by
  intro l
  induction l with
  | nil => intro k x h; simp at h
  | cons y l ih =>
    intro k x h i u hu
    rw [List.flatMap_cons]
    cases k with
    | zero =>
      simp at h; subst h
      have hi : i < (f y).length := (List.getElem?_eq_some_iff.1 hu).1
      rw [Nat.zero_mul, Nat.zero_add, List.getElem?_append_left hi]; exact hu
    | succ k =>
      simp at h
      rw [List.getElem?_append_right (by rw [hf, Nat.succ_mul]; omega), hf, show (k + 1) * s + i - s = k * s + i by rw [Nat.succ_mul]; omega]
      exact ih k x h i u hu
theorem recs_length {α : Type} {f : α → List Value} {s : Nat} (hf : ∀ x, (f x).length = s) (l : List α) : (l.flatMap f).length = l.length * s := by
  induction l with
  | nil => simp
  | cons x l ih => rw [List.flatMap_cons, List.length_append, hf, ih, List.length_cons, Nat.succ_mul]; omega

theorem rds_rec {α : Type} {f : α → List Value} {s : Nat} (hf : ∀ x, (f x).length = s) (hs : 0 < s) {w : World} {ao : Option Addr} {n cap : Nat} {l : List α} (h : RdS w ao n cap s (l.flatMap f)) {k : Nat} {x : α} (hx : l[k]? = some x) :
    ∃ b off, ao = some ⟨b, off, none⟩ ∧ b < w.heap.size ∧ ∀ w', Below w.heap.size w w' → ∀ i u, (f x)[i]? = some u → w'.cell? ⟨b, off + k * s + i, none⟩ = some u := by
  have h0 : ∃ u, (f x)[0]? = some u := ⟨(f x)[0]'(by rw [hf]; exact hs), by simp [hf, hs]⟩
  obtain ⟨u0, h0⟩ := h0
  obtain ⟨b, off, e, hb, _⟩ := h.at_ _ _ (recs_at hf l k x hx 0 u0 h0)
  refine ⟨b, off, e, hb, fun w' hbl i u hu => ?_⟩
  obtain ⟨b', off', e', hb', hc⟩ := h.at_ _ _ (recs_at hf l k x hx i u hu)
  rw [e] at e'
  simp only [Option.some.injEq, Addr.mk.injEq, and_true] at e'
  obtain ⟨rfl, rfl⟩ := e'
  have h2 := hbl.cell (p := ⟨b, off + (k * s + i), none⟩) hb
  rw [← Nat.add_assoc] at h2 hc
  exact h2.trans hc

theorem kd_one {k : Kd} {v : Value} (h : KdOk k v) : v.oneCell' = true := by
  cases k with
  | bool => obtain ⟨b, rfl⟩ := h; rfl
  | int q => obtain ⟨n, rfl, _⟩ := h; rfl
theorem flat_one : ∀ {ks : List Kd} {cs : List Value}, FlatOk ks cs → ∀ u ∈ cs, u.oneCell' = true
  | [], cs, h, u, hu => by cases h; cases hu
  | k :: ks, cs, h, u, hu => by
    obtain ⟨c, r, rfl, hc, hr⟩ := h
    rcases List.mem_cons.1 hu with rfl | hu
    · exact kd_one hc
    · exact flat_one hr u hu
theorem flatten_at {s : Nat} : ∀ (L : List (List Value)), (∀ l ∈ L, l.length = s) → 0 < s → ∀ j u, L.flatten[j]? = some u → ∃ i r l, j = i * s + r ∧ L[i]? = some l ∧ l[r]? = some u := by
  intro L
  induction L with
  | nil => intro _ _ j u h; simp at h
  | cons l L ih =>
    intro hL hs j u h
    have hl : l.length = s := hL l (List.mem_cons_self ..)
    rw [List.flatten_cons] at h
    by_cases hj : j < s
    · rw [List.getElem?_append_left (by omega)] at h
      exact ⟨0, j, l, by omega, rfl, h⟩
    · rw [List.getElem?_append_right (by omega), hl] at h
      obtain ⟨i, r, l', e1, e2, e3⟩ := ih (fun l' h' => hL l' (List.mem_cons_of_mem _ h')) hs _ u h
      exact ⟨i + 1, r, l', by rw [Nat.succ_mul]; omega, by simpa using e2, e3⟩
theorem isRows_rdS {w : World} {ks : List Kd} {ao : Option Addr} {n cap : Nat} {L : List (List Value)} (hk : 0 < ks.length) (h : IsRows w ks ao n cap L) : RdS w ao n cap ks.length L.flatten := by
  obtain ⟨hl, hc, hm, hn, hf, hat⟩ := h
  have hlen : ∀ l ∈ L, l.length = ks.length := fun l h => (hf l h).length
  refine ⟨?_, hc, hn, by unfold maxLen at hm; omega, ?_, ?_⟩
  · have : L.flatten = L.flatMap id := by simp [List.flatMap]
    rw [← hl]
    clear hat hf hn hl
    induction L with
    | nil => simp
    | cons l L ih =>
      rw [List.flatten_cons, List.length_append, List.length_cons, Nat.succ_mul, hlen l (List.mem_cons_self ..), ih (fun l' h' => hlen l' (List.mem_cons_of_mem _ h')) (by simp)]
      omega
  · intro u hu
    obtain ⟨l, hl, hu⟩ := List.mem_flatten.1 hu
    exact flat_one (hf l hl) u hu
  · intro j u hu
    obtain ⟨i, r, l, e1, e2, e3⟩ := flatten_at L hlen hk j u hu
    have hi : i < L.length := (List.getElem?_eq_some_iff.1 e2).1
    obtain ⟨b, off, he, hb, hcell⟩ := hat (by omega)
    exact ⟨b, off, he, hb, by rw [e1]; exact hcell i l e2 r u e3⟩
end Go.Proofs.YtfgfjnlkgadkhaaGreatMem
end

-- An argument that is a slice of calls.
section
namespace Go.Proofs.YtfgfjnlkgadkhaaGreat
set_option linter.unusedVariables false
set_option linter.unusedSimpArgs false
set_option maxRecDepth 20000
open Go.RowKit Go.Proofs.YtfgfjnlkgadkhaaGreatMem Go.Proofs.YtfgfjnlkgadkhaaGreatFlat Go.Proofs.YtfgfjnlkgadkhaaGreatMapK

theorem call_of {cs : List Value} (h : FlatOk [.int .i64, .int .i64, .int .i64, .int .i64] cs) : ∃ d : CallS, cs = d.cells ∧ d.Ok := by
  obtain ⟨_, _, rfl, ⟨a, rfl, ha⟩, _, _, rfl, ⟨b, rfl, hb⟩, _, _, rfl, ⟨c, rfl, hc⟩, _, _, rfl, ⟨d, rfl, hd⟩, rfl⟩ := h
  exact ⟨⟨a, b, c, d⟩, rfl, i64_of_wf ha, i64_of_wf hb, i64_of_wf hc, i64_of_wf hd⟩
theorem rows_calls {L : List (List Value)} (h : ∀ l ∈ L, FlatOk [.int .i64, .int .i64, .int .i64, .int .i64] l) : ∃ ls : List CallS, L.flatten = callsC ls ∧ L.length = ls.length ∧ ∀ a ∈ ls, a.Ok := by
  induction L with
  | nil => exact ⟨[], rfl, rfl, fun a ha => by cases ha⟩
  | cons c L ih =>
    obtain ⟨d, hd, ho⟩ := call_of (h c List.mem_cons_self)
    obtain ⟨ls, h1, h2, h3⟩ := ih fun l hl => h l (List.mem_cons_of_mem _ hl)
    refine ⟨d :: ls, ?_, by simp [h2], fun a ha => ?_⟩
    · rw [List.flatten_cons, hd, h1]; rfl
    · rcases List.mem_cons.1 ha with rfl | ha
      · exact ho
      · exact h3 a ha
theorem isRows_rdC {w : World} {ao : Option Addr} {n cap : Nat} {L : List (List Value)} (h : IsRows w [.int .i64, .int .i64, .int .i64, .int .i64] ao n cap L) : ∃ l, RdC w ao n cap l := by
  have hr := isRows_rdS (by decide) h
  obtain ⟨hl, -, -, -, hf, -⟩ := h
  obtain ⟨ls, h1, h2, h3⟩ := rows_calls hf
  rw [h1] at hr
  exact ⟨ls, hr, by rw [← h2]; exact hl, h3⟩
end Go.Proofs.YtfgfjnlkgadkhaaGreat
end

-- Both models under way, alike.
section
namespace Go.Proofs.YtfgfjnlkgadkhaaGreat
set_option linter.unusedVariables false
set_option linter.unusedSimpArgs false
set_option maxRecDepth 20000
open Go.RowKit Go.Proofs.YtfgfjnlkgadkhaaGreatMem Go.Proofs.YtfgfjnlkgadkhaaGreatFlat Go.Proofs.YtfgfjnlkgadkhaaGreatMapK

/-- Both, of whatever they are, alike. -/
structure Run11 (w wr : World) (b x : Nat) (c : Cfg) (k : Nat) : Prop where
  ex : ∃ m y, TwoM w wr b x c m y ∧ MSim m y ∧ m.Good k
theorem TwoM.base {w w1 wx : World} {b x : Nat} {c : Cfg} {m y : MdS} (h : TwoM w1 wx b x c m y) (hb : Below w.heap.size w w1) : TwoM w wx b x c m y :=
  let ⟨F, G, h1, h2, h3, h4, h5, h6⟩ := h
  ⟨F, G, h1, h2, h3, fun k hk => Nat.le_trans hb.size (h4 k hk), fun k hk => Nat.le_trans hb.size (h5 k hk), hb.trans (h6.mono hb.size)⟩
theorem RdC.at {w w' : World} {ao : Option Addr} {n cap k : Nat} {l : List CallS} (h : RdC w ao n cap l) (hk : k < n) (hb : Below w.heap.size w w') :
    ∃ b o, ao = some ⟨b, o, none⟩ ∧ b < w'.heap.size ∧ w'.cell? ⟨b, o + k * 4, none⟩ = some (.int .i64 (nthC l k).op) ∧ w'.cell? ⟨b, o + k * 4 + 1, none⟩ = some (.int .i64 (nthC l k).flow) ∧ w'.cell? ⟨b, o + k * 4 + 2, none⟩ = some (.int .i64 (nthC l k).a) ∧ w'.cell? ⟨b, o + k * 4 + 3, none⟩ = some (.int .i64 (nthC l k).b) := by
  obtain ⟨b, o, e, hlt, hc⟩ := h.cells hk
  exact ⟨b, o, e, Nat.lt_of_lt_of_le hlt hb.size, hc w' (hb.block b hlt)⟩
theorem Run11.below {w wr wy : World} {b x : Nat} {c : Cfg} {k : Nat} (h : Run11 w wr b x c k) (hb : Below wr.heap.size wr wy) : Run11 w wy b x c k := let ⟨m, y, t, s, g⟩ := h.ex; ⟨m, y, t.below hb, s, g⟩
end Go.Proofs.YtfgfjnlkgadkhaaGreat
end
