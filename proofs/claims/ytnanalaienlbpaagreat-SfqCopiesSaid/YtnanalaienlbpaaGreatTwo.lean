/- Both kinds of flows side by side in memory: each operation turns but its own. -/
import Derived.Test.YtnanalaienlbpaaGreatRfs5
import Derived.Test.YtnanalaienlbpaaGreatRfs6
import Derived.Test.YtnanalaienlbpaaGreatSim
import Derived.Test.YtnanalaienlbpaaGreatSfq12
import Derived.Test.YtnanalaienlbpaaGreatPlayMod
import Derived.Test.YtnanalaienlbpaaGreatSfq11
namespace Go.Proofs.YtnanalaienlbpaaGreat
set_option linter.unusedVariables false
set_option linter.unusedSimpArgs false
set_option maxRecDepth 20000
open Go.RowKit Go.Proofs.YtnanalaienlbpaaGreatMem Go.Proofs.YtnanalaienlbpaaGreatMapK

def TwoAt (w : World) (b c : Nat) (s t : SfS) (F : Nat → Prop) : Prop :=
  ∃ Fs Fr', SfsAt w b s Fs ∧ RfsAt w c t Fr' ∧ (∀ k, Fs k → ¬ Fr' k) ∧ (∀ k, Fs k → F k) ∧ (∀ k, Fr' k → F k) ∧ Lt F w
def TwoPost (b c : Nat) (s t : SfS) (F : Nat → Prop) (w w' : World) : Prop := TwoAt w' b c s t (Ext F w w') ∧ Fr F w w'
section
variable {w w1 w2 : World} {b c : Nat} {s t s' t' s2 t2 : SfS} {F : Nat → Prop}
theorem TwoAt.lt (h : TwoAt w b c s t F) : Lt F w := let ⟨_, _, _, _, _, _, _, h⟩ := h; h
theorem TwoAt.fr {S : Nat → Prop} (h : TwoAt w b c s t F) (hf : Fr S w w1) (hn : ∀ k, F k → ¬ S k) : TwoAt w1 b c s t F :=
  let ⟨Fs, Gs, h1, h2, h3, h4, h5, h6⟩ := h; ⟨Fs, Gs, h1.fr hf fun k hk => hn k (h4 k hk), h2.fr hf fun k hk => hn k (h5 k hk), h3, h4, h5, h6.mono hf.size⟩
theorem TwoAt.below (h : TwoAt w b c s t F) (hb : Below w.heap.size w w1) : TwoAt w1 b c s t F := h.fr (Fr.of_below (S := fun _ => False) hb) fun _ _ f => f
theorem TwoAt.mono {G : Nat → Prop} (h : TwoAt w b c s t F) (hF : ∀ k, F k → G k) (hG : Lt G w) : TwoAt w b c s t G :=
  let ⟨Fs, Gs, h1, h2, h3, h4, h5, _⟩ := h; ⟨Fs, Gs, h1, h2, h3, fun k hk => hF k (h4 k hk), fun k hk => hF k (h5 k hk), hG⟩
theorem TwoAt.still (h : TwoAt w b c s t F) (hb : Below w.heap.size w w1) : TwoPost b c s t F w w1 := ⟨(h.below hb).mono (fun k hk => .inl hk) (h.lt.ext hb.size), Fr.of_below hb⟩
theorem TwoPost.trans (h : TwoPost b c s t F w w1) (k : TwoPost b c s2 t2 (Ext F w w1) w1 w2) : TwoPost b c s2 t2 F w w2 := by
  have s1 := h.2.size
  have s2 := k.2.size
  refine ⟨k.1.mono (ext_trans s1 s2) ?_, fr_trans h.2 k.2⟩
  have hl1 : Lt (Ext F w w1) w1 := h.1.lt
  intro i hi
  rcases hi with hi | hi
  · have := hl1 i (.inl hi); omega
  · exact hi.2
theorem TwoPost.then_below (h : TwoPost b c s t F w w1) (hb : Below w1.heap.size w1 w2) : TwoPost b c s t F w w2 := h.trans (h.1.still hb)
theorem TwoPost.after_below (hF : Lt F w) (hb : Below w.heap.size w w1) (h : TwoPost b c s t F w1 w2) : TwoPost b c s t F w w2 := by
  have f := Fr.after_below hb h.2
  refine ⟨h.1.mono (fun k hk => ?_) (hF.ext f.size), f⟩
  have := hb.size
  rcases hk with hk | hk
  · exact .inl hk
  · exact .inr ⟨by omega, hk.2⟩
theorem two_s {Fs Gs : Nat → Prop} (hd : ∀ k, Fs k → ¬ Gs k) (h4 : ∀ k, Fs k → F k) (h5 : ∀ k, Gs k → F k) (hF : Lt F w) (h2 : RfsAt w c t Gs) (p : SfsPost b s' Fs w w1) : TwoPost b c s' t F w w1 := by
  have hs := p.2.size
  have f : Fr F w w1 := p.2.mono fun k _ hk => h4 k hk
  refine ⟨⟨_, Gs, p.1, h2.fr p.2 fun k hk hk2 => hd k hk2 hk, fun k hk hk2 => ?_, fun k hk => ?_, fun k hk => .inl (h5 k hk), hF.ext hs⟩, f⟩
  · rcases hk with hk | hk
    · exact hd k hk hk2
    · have := hF k (h5 k hk2); omega
  · exact hk.imp (h4 k) id
theorem two_r {Fs Gs : Nat → Prop} (hd : ∀ k, Fs k → ¬ Gs k) (h4 : ∀ k, Fs k → F k) (h5 : ∀ k, Gs k → F k) (hF : Lt F w) (h1 : SfsAt w b s Fs) (p : RfsPost c t' Gs w w1) : TwoPost b c s t' F w w1 := by
  have hs := p.2.size
  have f : Fr F w w1 := p.2.mono fun k _ hk => h5 k hk
  refine ⟨⟨Fs, _, h1.fr p.2 fun k hk hk2 => hd k hk hk2, p.1, fun k hk hk2 => ?_, fun k hk => .inl (h4 k hk), fun k hk => ?_, hF.ext hs⟩, f⟩
  · rcases hk2 with hk2 | hk2
    · exact hd k hk hk2
    · have := hF k (h4 k hk); omega
  · exact hk.imp (h5 k) id
theorem twoAdd (h : TwoAt w b c s t F) (id r most : Int) (hr : W64 r) :
    Calls Tryz.prog 15 #[.pointer (some ⟨b, 0, none⟩), .int .i64 id, .int .u64 r, .int .i64 most] w fun e w' => e = .returned (.bool (!(getF s.fs id).isSome)) ∧ TwoPost b c (s.add id r most) t F w w' := by
  obtain ⟨Fs, Gs, h1, h2, h3, h4, h5, h6⟩ := h
  exact (addS_any b s Fs id r most w h1 hr).mono fun e w' hh => ⟨hh.1, two_s h3 h4 h5 h6 h2 hh.2⟩
theorem twoAddR (h : TwoAt w b c s t F) (hn : t.fs.length ≤ 1000000) (id r most : Int) (hr : W64 r) :
    Calls Tryz.prog 21 #[.pointer (some ⟨c, 0, none⟩), .int .i64 id, .int .u64 r, .int .i64 most] w fun e w' => e = .returned (.bool (!(getF t.fs id).isSome)) ∧ TwoPost b c s (t.addR id r most) F w w' := by
  obtain ⟨Fs, Gs, h1, h2, h3, h4, h5, h6⟩ := h
  exact (addR_any c t Gs id r most w h2 hn hr).mono fun e w' hh => ⟨hh.1, two_r h3 h4 h5 h6 h1 hh.2⟩
theorem twoRemove (h : TwoAt w b c s t F) (id : Int) :
    Calls Tryz.prog 16 #[.pointer (some ⟨b, 0, none⟩), .int .i64 id] w fun e w' => e = .returned (.int .i64 (s.removeE id)) ∧ TwoPost b c (s.remove id) t F w w' := by
  obtain ⟨Fs, Gs, h1, h2, h3, h4, h5, h6⟩ := h
  exact (removeS_any b s Fs id w h1).mono fun e w' hh => ⟨hh.1, two_s h3 h4 h5 h6 h2 hh.2⟩
theorem twoRemoveR (h : TwoAt w b c s t F) (hn : t.fs.length ≤ 1000000) (id : Int) :
    Calls Tryz.prog 24 #[.pointer (some ⟨c, 0, none⟩), .int .i64 id] w fun e w' => e = .returned (.int .i64 (t.removeE id)) ∧ TwoPost b c s (t.remove id) F w w' := by
  obtain ⟨Fs, Gs, h1, h2, h3, h4, h5, h6⟩ := h
  exact (removeR_any c t Gs id w h2 hn).mono fun e w' hh => ⟨hh.1, two_r h3 h4 h5 h6 h1 hh.2⟩
theorem twoArrive (h : TwoAt w b c s t F) (ok : s.Ok) (p : Pk) (hp : p.Ok) :
    Calls Tryz.prog 17 #[.pointer (some ⟨b, 0, none⟩), .agg #[.int .i64 p.flow, .int .i64 p.len, .int .i64 p.mark]] w fun e w' => e = .returned (.int .i64 (s.arriveE p)) ∧ TwoPost b c (s.arrive p) t F w w' := by
  obtain ⟨Fs, Gs, h1, h2, h3, h4, h5, h6⟩ := h
  exact (arriveS_any b s Fs p w h1 ok hp).mono fun e w' hh => ⟨hh.1, two_s h3 h4 h5 h6 h2 hh.2⟩
theorem twoArriveR (h : TwoAt w b c s t F) (hv : W64 t.v) (p : Pk) (hp : p.Ok) :
    Calls Tryz.prog 25 #[.pointer (some ⟨c, 0, none⟩), .agg #[.int .i64 p.flow, .int .i64 p.len, .int .i64 p.mark]] w fun e w' => e = .returned (.int .i64 (t.arriveE p)) ∧ TwoPost b c s (t.arrive p) F w w' := by
  obtain ⟨Fs, Gs, h1, h2, h3, h4, h5, h6⟩ := h
  exact (arriveR_any c t Gs p w h2 hv hp).mono fun e w' hh => ⟨hh.1, two_r h3 h4 h5 h6 h1 hh.2⟩
theorem twoServe (h : TwoAt w b c s t F) (ok : s.Ok) (hn : s.fs.length ≤ 1000000) :
    Calls Tryz.prog 18 #[.pointer (some ⟨b, 0, none⟩)] w fun e w' => e = .returned (.tuple #[s.head.val, .bool s.has]) ∧ TwoPost b c s.serve t F w w' := by
  obtain ⟨Fs, Gs, h1, h2, h3, h4, h5, h6⟩ := h
  exact (serveS_any b s Fs w h1 ok hn).mono fun e w' hh => ⟨hh.1, two_s h3 h4 h5 h6 h2 hh.2⟩
theorem twoServeR (h : TwoAt w b c s t F) :
    Calls Tryz.prog 26 #[.pointer (some ⟨c, 0, none⟩)] w fun e w' => e = .returned (.tuple #[t.head.val, .bool t.has]) ∧ TwoPost b c s t.serve F w w' := by
  obtain ⟨Fs, Gs, h1, h2, h3, h4, h5, h6⟩ := h
  exact (serveR_any c t Gs w h2).mono fun e w' hh => ⟨hh.1, two_r h3 h4 h5 h6 h1 hh.2⟩
theorem twoV (h : TwoAt w b c s t F) : Calls Tryz.prog 20 #[.pointer (some ⟨b, 0, none⟩)] w fun e w' => e = .returned (.int .u64 s.v) ∧ w = w' := by
  obtain ⟨Fs, Gs, ⟨mb, l, hl, h1⟩, -⟩ := h
  exact sfqV_any b s.v s.most l Fs w ⟨mb, h1⟩
theorem twoMost (h : TwoAt w b c s t F) : Calls Tryz.prog 19 #[.pointer (some ⟨b, 0, none⟩)] w fun e w' => e = .returned (.int .u64 s.most) ∧ w = w' := by
  obtain ⟨Fs, Gs, ⟨mb, l, hl, h1⟩, -⟩ := h
  exact sfqMost_any b s.v s.most l Fs w ⟨mb, h1⟩
theorem twoStarts (h : TwoAt w b c s t F) (hn : s.fs.length ≤ 1000000) :
    Calls Tryz.prog 9 #[.pointer (some ⟨b, 0, none⟩)] w fun e w' => ∃ v, e = .returned v ∧ w'.ownsRow w.heap.size 39 2 v s.starts.length (entC s.starts) ∧ Below w.heap.size w w' := by
  obtain ⟨Fs, Gs, h1, -⟩ := h
  exact startsS_any b s Fs w h1 hn
end
end Go.Proofs.YtnanalaienlbpaaGreat
