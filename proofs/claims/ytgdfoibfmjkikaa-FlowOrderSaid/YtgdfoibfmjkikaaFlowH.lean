/- The helpers of the laws on flows: an act's time and packet, the two that are made. -/
import Derived.Test.YtgdfoibfmjkikaaRef3
import Derived.Test.YtgdfoibfmjkikaaPlayMod
namespace Go.Proofs.Ytgdfoibfmjkikaa
set_option linter.unusedVariables false
set_option linter.unusedSimpArgs false
open Go.RowKit Go.Proofs.YtgdfoibfmjkikaaMem

theorem refServe_any (b : Nat) (id : Int) (x : FlS) (F : Nat → Prop) (w : World) (h : RefAt w b id x F) (ok : x.Ok) :
    Calls Try.prog 35 #[.pointer (some ⟨b, 0, none⟩)] w fun e w' => e = .returned (.tuple #[x.head.val, .int .u64 x.out, .bool x.has]) ∧ RefPost b id x.serve F w w' := by
  cases hl : x.l with
  | nil =>
    have e1 : x.head = Pk.zero := by unfold FlS.head; rw [hl]
    have e2 : x.out = 0 := by unfold FlS.out; rw [hl]
    have e3 : x.has = false := by unfold FlS.has; rw [hl]; rfl
    have e4 : x.serve = x := by unfold FlS.serve; rw [hl]
    rw [e1, e2, e3, e4]
    exact (refServe_none b id x F w h hl).mono fun e w' hh => ⟨hh.1, RefPost.of_below h hh.2⟩
  | cons p rest =>
    have e1 : x.head = p := by unfold FlS.head; rw [hl]
    have e2 : x.out = x.fin p := by unfold FlS.out; rw [hl]
    have e3 : x.has = true := by unfold FlS.has; rw [hl]; rfl
    have e4 : x.serve = x.stepped p rest 3 := by unfold FlS.serve; rw [hl]; rfl
    rw [e1, e2, e3, e4]
    exact (refServe_some b id x F w p rest h ok hl).mono fun e w' hh => hh

/-- An act as plain data. -/
structure ActS where
  kind : Int
  v : Int
  p : Pk
def ActS.cells (a : ActS) : List Value := [.int .i64 a.kind, .int .u64 a.v, .int .i64 a.p.flow, .int .i64 a.p.len, .int .i64 a.p.mark]
structure ActS.Ok (a : ActS) : Prop where
  kind : I64 a.kind
  v : W64 a.v
  p : a.p.Ok
def ActS.time (a : ActS) : Int := if a.v % 5 = 4 then a.v else a.v % 300
def ActS.pk (a : ActS) : Pk := if modZ a.p.len 9 = 8 then a.p else { a.p with len := modZ a.p.len 40 }
theorem ActS.time_w64 {a : ActS} (h : a.Ok) : W64 a.time := by
  have := h.v; unfold W64 at *; unfold ActS.time; split <;> omega
theorem ActS.pk_ok {a : ActS} (h : a.Ok) : a.pk.Ok := by
  have hp := h.p
  unfold ActS.pk
  split
  · exact hp
  · have := modZ_bd a.p.len (n := 40) (by omega)
    exact ⟨hp.1, by show I64 (modZ a.p.len 40); unfold I64; omega, hp.2.2⟩

set_option maxHeartbeats 400000 in
theorem v_any (a : ActS) (ok : a.Ok) (w : World) :
    Calls Try.prog 19 #[.agg #[.int .i64 a.kind, .int .u64 a.v, .int .i64 a.p.flow, .int .i64 a.p.len, .int .i64 a.p.mark]] w fun e w' => e = .returned (.int .u64 a.time) ∧ Below w.heap.size w w' := by
  have hv := ok.v
  obtain ⟨h1, h2⟩ := hv
  by_cases hc : a.v % 5 = 4
  · have E : Hid (a.time = a.v) := by unfold Hid ActS.time; rw [if_pos hc]
    have e1 : (a.v % 5 == 4) = true := by rw [hc]; rfl
    clear hc
    go_enter Try.func19, Try.ntmps19
    go_wp2
    go_ret
    exact ⟨by rw [E.out]; rfl, below1 _ _⟩
  · have E : Hid (a.time = a.v % 300) := by unfold Hid ActS.time; rw [if_neg hc]
    have e1 : (a.v % 5 == 4) = false := by simpa using hc
    clear hc
    go_enter Try.func19, Try.ntmps19
    go_wp2
    go_ret
    exact ⟨by rw [E.out]; rfl, below1 _ _⟩

set_option maxHeartbeats 1000000 in
theorem packet_any (a : ActS) (ok : a.Ok) (w : World) :
    Calls Try.prog 20 #[.agg #[.int .i64 a.kind, .int .u64 a.v, .int .i64 a.p.flow, .int .i64 a.p.len, .int .i64 a.p.mark]] w fun e w' => e = .returned a.pk.val ∧ Below w.heap.size w w' := by
  by_cases hc : modZ a.p.len 9 = 8
  · have E : Hid (a.pk = a.p) := by unfold Hid ActS.pk; rw [if_pos hc]
    have e1 : (modZ a.p.len 9 != 8) = false := by rw [hc]; rfl
    clear hc
    go_enter Try.func20, Try.ntmps20
    go_wp2_with (go_at_call 15; refine (mod_any _ _ (by omega) (by omega) _).mono ?_; rintro e w' ⟨rfl, rfl⟩)
    refine bodyPost_ret (v := .agg #[.int .i64 a.p.flow, .int .i64 a.p.len, .int .i64 a.p.mark]) (by simp [results, Try.results20, go_sem]) rfl ⟨by rw [E.out]; rfl, ?_⟩
    repeat (first | exact Below.refl _ _ | refine Below.setCell ?_ (by simp <;> omega) _ | refine Below.alloc ?_ (by simp <;> omega) _)
  · have E : Hid (a.pk = { a.p with len := modZ a.p.len 40 }) := by unfold Hid ActS.pk; rw [if_neg hc]
    have e1 : (modZ a.p.len 9 != 8) = true := by simpa using hc
    clear hc
    go_enter Try.func20, Try.ntmps20
    go_wp2_with (go_at_call 15; refine (mod_any _ _ (by omega) (by omega) _).mono ?_; rintro e w' ⟨rfl, rfl⟩)
    refine bodyPost_ret (v := .agg #[.int .i64 a.p.flow, .int .i64 (modZ a.p.len 40), .int .i64 a.p.mark]) (by simp [results, Try.results20, go_sem]) rfl ⟨by rw [E.out]; rfl, ?_⟩
    repeat (first | exact Below.refl _ _ | refine Below.setCell ?_ (by simp <;> omega) _ | refine Below.alloc ?_ (by simp <;> omega) _)

/-- The two flows, as they lie. -/
def TwoAt (w : World) (bf bx : Nat) (x : FlS) (F : Nat → Prop) : Prop :=
  ∃ Ff Fx, FlowAt w bf x Ff ∧ RefAt w bx 0 x Fx ∧ (∀ k, Ff k → ¬ Fx k) ∧ (∀ k, Ff k → F k) ∧ (∀ k, Fx k → F k) ∧ Lt F w
theorem TwoAt.fr {w w' : World} {bf bx : Nat} {x : FlS} {F S : Nat → Prop} (h : TwoAt w bf bx x F) (hf : Fr S w w') (hn : ∀ k, F k → ¬ S k) : TwoAt w' bf bx x F := by
  obtain ⟨Ff, Fx, h1, h2, h3, h4, h5, h6⟩ := h
  exact ⟨Ff, Fx, h1.fr hf fun k hk => hn k (h4 k hk), h2.fr hf fun k hk => hn k (h5 k hk), h3, h4, h5, h6.mono hf.size⟩
theorem TwoAt.below {w w' : World} {bf bx : Nat} {x : FlS} {F : Nat → Prop} (h : TwoAt w bf bx x F) (hb : Below w.heap.size w w') : TwoAt w' bf bx x F := h.fr (Fr.of_below (S := fun _ => False) hb) (fun _ _ f => f)
theorem TwoAt.mono {w : World} {bf bx : Nat} {x : FlS} {F G : Nat → Prop} (h : TwoAt w bf bx x F) (hF : ∀ k, F k → G k) (hG : Lt G w) : TwoAt w bf bx x G := by
  obtain ⟨Ff, Fx, h1, h2, h3, h4, h5, h6⟩ := h
  exact ⟨Ff, Fx, h1, h2, h3, fun k hk => hF k (h4 k hk), fun k hk => hF k (h5 k hk), hG⟩
def TwoPost (bf bx : Nat) (x' : FlS) (F : Nat → Prop) (w w' : World) : Prop := TwoAt w' bf bx x' (Ext F w w') ∧ Fr F w w'
/-- Both are turned, the one after the other. -/
theorem two_both {w w1 w2 w3 : World} {bf bx : Nat} {x' : FlS} {F Ff Fx : Nat → Prop} (hd : ∀ k, Ff k → ¬ Fx k) (h4 : ∀ k, Ff k → F k) (h5 : ∀ k, Fx k → F k) (h6 : Lt F w)
    (p : FlowPost bf x' Ff w w1) (hb : Below w1.heap.size w1 w2) (q : RefPost bx 0 x' Fx w2 w3) (hx : Lt Fx w) : TwoPost bf bx x' F w w3 := by
  have s1 := p.2.size
  have s2 := hb.size
  have s3 := q.2.size
  have f1 : Fr F w w1 := p.2.mono fun i _ hi => h4 i hi
  have f3 : Fr F w2 w3 := q.2.mono fun i _ hi => h5 i hi
  have f : Fr F w w3 := (f1.then_below hb).trans f3 fun _ _ s => s
  have hF := h6.ext (w' := w3) f.size
  refine ⟨⟨Ext Ff w w1, Ext Fx w2 w3, ?_, q.1, ?_, ?_, ?_, hF⟩, f⟩
  · refine (p.1.below hb).fr q.2 fun k hk hx' => ?_
    rcases hk with hk | hk
    · exact hd k hk hx'
    · have := hx k hx'; omega
  · intro k hk hk2
    rcases hk with hk | hk
    · rcases hk2 with hk2 | hk2
      · exact hd k hk hk2
      · have := h6 k (h4 k hk); omega
    · rcases hk2 with hk2 | hk2
      · have := hx k hk2; omega
      · omega
  · intro k hk
    rcases hk with hk | hk
    · exact .inl (h4 k hk)
    · exact .inr ⟨hk.1, by omega⟩
  · intro k hk
    rcases hk with hk | hk
    · exact .inl (h5 k hk)
    · exact .inr ⟨by omega, hk.2⟩
end Go.Proofs.Ytgdfoibfmjkikaa
