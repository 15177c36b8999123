/- ModelBatch: what a batch is; the memory of its loop. -/
import Derived.Test.YtfgfjnlkgadkhaaGreatCopyM
import Derived.Test.YtfgfjnlkgadkhaaGreatGi
import Derived.Test.YtfgfjnlkgadkhaaGreatGp
namespace Go.Proofs.YtfgfjnlkgadkhaaGreat
set_option linter.unusedVariables false
set_option linter.unusedSimpArgs false
set_option maxRecDepth 20000
open Go.RowKit Go.Proofs.YtfgfjnlkgadkhaaGreatMem Go.Proofs.YtfgfjnlkgadkhaaGreatFlat Go.Proofs.YtfgfjnlkgadkhaaGreatMapK

/-- A batch under way, told by one's own calls: what came lies in the row that the variable at X holds. -/
structure BatL (w wr : World) (X b : Nat) (c : Cfg) (m : MdS) (F : Nat → Prop) (e : Int) (acc : List Pk) (ao : Option Addr) (cap : Nat) : Prop where
  md : ∃ G : Nat → Prop, MdAt wr b c m.s m.served G ∧ (∀ k, G k → F k ∨ (X < k ∧ k < wr.heap.size)) ∧ ∀ a, ao = some a → ¬ G a.block
  fr : Fr F w wr
  out : Blk wr X [.int .i64 e, .slice ao acc.length cap, .int .i64 0, .int .u64 0] 40
  row : wr.ownsRow (X + 1) 60 3 (.slice ao acc.length cap) acc.length (pks acc)
  old : Lt F w
  hX : w.heap.size ≤ X
section
variable {w wr w' : World} {X b : Nat} {c : Cfg} {m : MdS} {F : Nat → Prop} {e : Int} {acc : List Pk} {ao : Option Addr} {cap : Nat}
theorem BatL.below (h : BatL w wr X b c m F e acc ao cap) (hb : Below wr.heap.size wr w') : BatL w w' X b c m F e acc ao cap := by
  obtain ⟨G, h1, h2, h3⟩ := h.md
  have z := hb.size
  exact ⟨⟨G, h1.below hb, fun k hk => (h2 k hk).imp id fun hk => ⟨hk.1, by omega⟩, h3⟩, h.fr.then_below hb, h.out.below hb, owns_below (B := 0) h.row hb, h.old, h.hX⟩
theorem BatL.served {G G' : Nat → Prop} {m' : MdS} (h : BatL w wr X b c m F e acc ao cap) (h2 : ∀ k, G k → F k ∨ (X < k ∧ k < wr.heap.size)) (h3 : ∀ a, ao = some a → ¬ G a.block)
    (p : MdAt w' b c m'.s m'.served G') (hG : ∀ k, G' k → Ext G wr w' k) (f : Fr G wr w') : BatL w w' X b c m' F e acc ao cap := by
  have z := f.size
  have hlX := h.out.lt
  have hX := h.hX
  have hn : ∀ k, k ≤ X → w.heap.size ≤ k → ¬ G k := fun k hk hk1 hk2 => by
    rcases h2 k hk2 with hk2 | hk2
    · have := h.old k hk2; omega
    · omega
  refine ⟨⟨G', p, fun k hk => ?_, fun a ha hk => ?_⟩, ?_, h.out.fr f (hn _ (by omega) (by omega)), owns_fr h.row f fun k hk => ?_, h.old, h.hX⟩
  · rcases hG k hk with hk | hk
    · exact (h2 k hk).imp id fun hk => ⟨hk.1, by omega⟩
    · exact .inr ⟨by omega, hk.2⟩
  · rcases hG _ hk with hk | hk
    · exact h3 a ha hk
    · have := (h.row.lt a.block (by rw [ha]; rfl)).2; omega
  · refine h.fr.trans f fun i hi hk => ?_
    rcases h2 i hk with hk | hk
    · exact hk
    · omega
  · cases ao with
    | none => cases hk
    | some a => cases hk; exact h3 a rfl
/-- The variable's number was written. -/
theorem BatL.setE (h : BatL w wr X b c m F e acc ao cap) (e' : Int) : BatL w (wr.setCell ⟨X, 0, none⟩ (.int .i64 e')) X b c m F e' acc ao cap := by
  obtain ⟨G, h1, h2, h3⟩ := h.md
  have hX := h.hX
  have hs : (wr.setCell ⟨X, 0, none⟩ (.int .i64 e')).heap.size = wr.heap.size := by simp [World.setCell]
  have f : Fr (fun k => k = X) wr (wr.setCell ⟨X, 0, none⟩ (.int .i64 e')) := Fr.setCell (S := fun k => k = X) (Fr.refl _ _) (a := ⟨X, 0, none⟩) (.inl rfl) _
  have hn : ¬ G X := fun hk => by
    rcases h2 X hk with hk | hk
    · have := h.old X hk; omega
    · omega
  refine ⟨⟨G, h1.fr f fun k hk e => by subst e; exact hn hk, fun k hk => by rw [hs]; exact h2 k hk, h3⟩, ?_, h.out.set 0 _, owns_fr h.row f fun k hk e => ?_, h.old, h.hX⟩
  · refine h.fr.trans f fun i hi hk => ?_
    omega
  · have := (h.row.lt k hk).1; omega
/-- The row was appended to. -/
theorem BatL.grow (h : BatL w wr X b c m F e acc ao cap) {ao' : Option Addr} {cap' : Nat} {acc' : List Pk} (row : w'.ownsRow (X + 1) 60 3 (.slice ao' acc'.length cap') acc'.length (pks acc'))
    (hg : wr.grownBy w' (Value.slice ao acc.length cap).ownBlock) (hf : FreshOr wr (.slice ao acc.length cap) (.slice ao' acc'.length cap')) :
    BatL w (w'.setCell ⟨X, 1, none⟩ (.slice ao' acc'.length cap')) X b c m F e acc' ao' cap' := by
  obtain ⟨G, h1, h2, h3⟩ := h.md
  have hX := h.hX
  have hlX := h.out.lt
  have hs : (w'.setCell ⟨X, 1, none⟩ (.slice ao' acc'.length cap')).heap.size = w'.heap.size := by simp [World.setCell]
  have hro : ∀ k, (Value.slice ao acc.length cap).ownBlock = some k → X + 1 ≤ k ∧ k < wr.heap.size := h.row.lt
  have hG : ∀ k, G k → k ≠ X ∧ (Value.slice ao acc.length cap).ownBlock ≠ some k := fun k hk => by
    refine ⟨fun e => ?_, fun e => ?_⟩
    · subst e
      rcases h2 k hk with hk | hk
      · have := h.old k hk; omega
      · omega
    · cases ao with
      | none => cases e
      | some a => cases e; exact h3 a rfl hk
  have f1 : Fr (fun k => (Value.slice ao acc.length cap).ownBlock = some k) wr w' := (Fr.refl _ _).grown hg fun k e => .inl e
  have f2 : Fr (fun k => (Value.slice ao acc.length cap).ownBlock = some k ∨ k = X) wr (w'.setCell ⟨X, 1, none⟩ (.slice ao' acc'.length cap')) := Fr.setCell (S := fun k => (Value.slice ao acc.length cap).ownBlock = some k ∨ k = X) (f1.mono fun k _ hk => .inl hk) (a := ⟨X, 1, none⟩) (.inl (.inr rfl)) _
  have hz := f1.size
  have hB : ∀ k, k < X → ¬ ((Value.slice ao acc.length cap).ownBlock = some k ∨ k = X) := fun k hk h => by
    rcases h with h | h
    · have := (hro k h).1; omega
    · omega
  have f3 : Fr (fun k => k = X) w' (w'.setCell ⟨X, 1, none⟩ (.slice ao' acc'.length cap')) := Fr.setCell (S := fun k => k = X) (Fr.refl _ _) (a := ⟨X, 1, none⟩) (.inl rfl) _
  refine ⟨⟨G, h1.fr f2 fun k hk h => ?_, fun k hk => by rw [hs]; exact (h2 k hk).imp id fun hk => ⟨hk.1, by omega⟩, fun a ha hk => ?_⟩, ?_, (h.out.fr f1 fun e => by have := (hro X e).1; omega).set 1 _, owns_fr row f3 fun k hk e => ?_, h.old, h.hX⟩
  · rcases h with h | h
    · exact (hG k hk).2 h
    · exact (hG k hk).1 h
  · rcases hf with hf | hf
    · exact (hG _ hk).2 (by rw [← hf, ha]; rfl)
    · have h4 := hf a.block (by rw [ha]; rfl)
      have := h1.lt _ hk
      omega
  · refine h.fr.trans f2 fun i hi hk => ?_
    rcases hk with hk | hk
    · have := (hro i hk).1; omega
    · omega
  · have := (row.lt k hk).1; omega
end
def deqD : CallS := ⟨4, 0, 0, 0⟩
def batD (n : Int) : CallS := ⟨5, 0, n, 0⟩
theorem deqD_ok : deqD.Ok := ⟨by show I64 4; unfold I64; omega, by show I64 0; unfold I64; omega, by show I64 0; unfold I64; omega, by show I64 0; unfold I64; omega⟩
theorem batD_ok {n : Int} (h : I64 n) : (batD n).Ok := ⟨by show I64 5; unfold I64; omega, by show I64 0; unfold I64; omega, h, by show I64 0; unfold I64; omega⟩
theorem doo_deq (c : Cfg) (m : MdS) : m.doo c deqD = (m.one, m.oneRet) := by unfold MdS.doo deqD; simp
theorem doo_bat (c : Cfg) (m : MdS) (n : Int) : m.doo c (batD n) = if inB n 1 16 then m.bat n.toNat [] else (m, .code 1) := by unfold MdS.doo batD; simp
theorem MSim.permS {m y : MdS} (h : MSim m y) {s' : SfS} (ev : s'.v = m.s.v) (em : s'.most = m.s.most) (hp : s'.fs.Perm m.s.fs) : MSim ⟨s', m.served⟩ y := ⟨⟨ev.trans h.s.v, em.trans h.s.most, hp.trans h.s.perm, h.s.rise⟩, h.served⟩
theorem MdS.Good.permS {m : MdS} {k : Nat} (h : m.Good k) {s' : SfS} (ev : s'.v = m.s.v) (em : s'.most = m.s.most) (hp : s'.fs.Perm m.s.fs) : MdS.Good ⟨s', m.served⟩ k :=
  ⟨⟨⟨by rw [ev]; exact h.ok.s.v, by rw [em]; exact h.ok.s.most, fun e he => h.ok.s.ids e (hp.mem_iff.1 he), fun e he => h.ok.s.fs e (hp.mem_iff.1 he)⟩, by rw [hp.length_eq]; exact h.ok.len, h.ok.served, (hp.map (·.1)).nodup_iff.2 h.ok.nodup⟩, fun e he => h.tag e (hp.mem_iff.1 he)⟩
theorem bat_served : ∀ (k : Nat) (m : MdS) (ps : List Pk), (m.bat k ps).1.served + ps.length = m.served + (m.bat k ps).2.ps.length
  | 0, m, ps => rfl
  | k + 1, m, ps => by
    rw [bat_succ]
    cases h : m.s.has with
    | true =>
      have := bat_served k m.one (ps ++ [m.s.head])
      have e : m.one.served = m.served + 1 := by unfold MdS.one; rw [h]; rfl
      rw [e, List.length_append] at this
      simp at this ⊢
      omega
    | false =>
      have e : m.one.served = m.served := by unfold MdS.one; rw [h]; rfl
      simp [e]
/-- Where the dequeues stand against the batch. -/
def BatAt (n k : Nat) (mb mk : MdS) (e : Int) (acc : List Pk) : Prop := (e = 0 ∧ mk.bat (n - k) acc = mb.bat n []) ∨ (e = 10 ∧ (mk, (⟨10, acc, 0, 0⟩ : RetS)) = mb.bat n [])
theorem BatAt.start (n : Nat) (mb : MdS) : BatAt n 0 mb mb 0 [] := .inl ⟨rfl, rfl⟩
theorem BatAt.next {n k : Nat} {mb mk : MdS} {acc : List Pk} (h : BatAt n k mb mk 0 acc) (hk : k < n) : BatAt n (k + 1) mb mk.one mk.oneRet.e (acc ++ mk.oneRet.ps) := by
  rcases h with ⟨-, h⟩ | ⟨h, -⟩
  · rw [show n - k = (n - (k + 1)) + 1 by omega, bat_succ] at h
    unfold MdS.oneRet
    cases hh : mk.s.has with
    | true => rw [hh] at h; exact .inl ⟨rfl, h⟩
    | false => rw [hh] at h; refine .inr ⟨rfl, ?_⟩; simpa [RetS.code] using h
  · cases h
theorem BatAt.fin {n k : Nat} {mb mk : MdS} {e : Int} {acc : List Pk} (h : BatAt n k mb mk e acc) (hk : k ≤ n) (hd : ¬ (k < n ∧ e = 0)) : mb.bat n [] = (mk, ⟨e, acc, 0, 0⟩) := by
  rcases h with ⟨rfl, h⟩ | ⟨rfl, h⟩
  · obtain rfl : k = n := by
      by_cases h1 : k < n
      · exact absurd ⟨h1, rfl⟩ hd
      · omega
    rw [Nat.sub_self] at h
    exact h.symm
  · exact h.symm
theorem oneRet_len (m : MdS) : m.oneRet.ps.length ≤ 1 := by unfold MdS.oneRet; split <;> simp [RetS.code]
/-- Behind the batch: the model, its two copies (the one of them has done the batch), the answer. -/
structure BatA (w w4 : World) (bm ba bb R : Nat) (c : Cfg) (m ma mb : MdS) (Fb : Nat → Prop) (r : RetS) (ao : Option Addr) (cap B : Nat) : Prop where
  two : ∃ Fm Fa : Nat → Prop, MdAt w4 bm c m.s m.served Fm ∧ MdAt w4 ba c ma.s ma.served Fa ∧ (∀ k, Fm k → w.heap.size ≤ k) ∧ (∀ k, Fa k → w.heap.size ≤ k) ∧ ∀ k, Fb k → ¬ Fm k ∧ ¬ Fa k
  md : MdAt w4 bb c mb.s mb.served Fb
  hb : ∀ k, Fb k → w.heap.size ≤ k
  rb : Blk w4 R [.int .i64 r.e, .slice ao r.ps.length cap, .int .i64 r.n, .int .u64 r.v] 40
  hR : ¬ Fb R
  row : w4.ownsRow B 60 3 (.slice ao r.ps.length cap) r.ps.length (pks r.ps)
  hrow : ∀ k, (Value.slice ao r.ps.length cap).ownBlock = some k → ¬ Fb k
  bel : Below w.heap.size w w4
section
variable {w w0 w1 w2 w3 w4 wr : World} {bm ba bb R x X : Nat} {c : Cfg} {m ma mb mk y : MdS} {sa sb : SfS} {Fb G : Nat → Prop} {r : RetS} {ao ao' : Option Addr} {cap cap' B : Nat} {e : Int} {acc : List Pk}
theorem BatA.after (h : BatA w w4 bm ba bb R c m ma mb Fb r ao cap B) (hf : Fr Fb w4 wr) :
    OwnM w wr bm c m ∧ OwnM w wr ba c ma ∧ Blk wr R [.int .i64 r.e, .slice ao r.ps.length cap, .int .i64 r.n, .int .u64 r.v] 40 ∧ wr.ownsRow B 60 3 (.slice ao r.ps.length cap) r.ps.length (pks r.ps) ∧ Below w.heap.size w wr := by
  obtain ⟨Fm, Fa, h1, h2, h3, h4, h5⟩ := h.two
  have hb := h.bel.trans (hf.below h.hb h.bel.size)
  exact ⟨⟨Fm, h1.fr hf fun k hk hk2 => (h5 k hk2).1 hk, h3, hb⟩, ⟨Fa, h2.fr hf fun k hk hk2 => (h5 k hk2).2 hk, h4, hb⟩, h.rb.fr hf h.hR, owns_fr h.row hf h.hrow, hb⟩
theorem BatA.loop (h : BatA w w4 bm ba bb R c m ma mb Fb r ao cap B) : BatL w4 (w4.alloc (.cells #[.int .i64 0, .slice none 0 0, .int .i64 0, .int .u64 0] 40)) w4.heap.size bb c mb Fb 0 [] none 0 :=
  ⟨⟨Fb, h.md.below (below1 _ _), fun k hk => .inl hk, fun a ha => by cases ha⟩, Fr.of_below (below1 _ _), Blk.new w4 [.int .i64 0, .slice none 0 0, .int .i64 0, .int .u64 0] 40, owns_nil _ _ _ _, h.md.lt, Nat.le_refl _⟩
theorem BatL.own (h : BatL w4 wr X bb c mk Fb e acc ao' cap') (hA : BatA w w4 bm ba bb R c m ma mb Fb r ao cap B) : OwnM w wr bb c mk := by
  obtain ⟨G, h1, h2, h3⟩ := h.md
  have hz := hA.bel.size
  have hX := h.hX
  refine ⟨G, h1, fun k hk => ?_, hA.bel.trans (h.fr.below hA.hb hz)⟩
  rcases h2 k hk with hk | hk
  · exact hA.hb k hk
  · omega
theorem batA_of (T : TwoM w w0 bm x c m y) (hb1 : Below w0.heap.size w0 w1) (hbb : MdAt w2 bb c sb m.served (fun k => w1.heap.size ≤ k ∧ k < w2.heap.size)) (hb2 : Below w1.heap.size w1 w2)
    (row : w3.ownsRow w2.heap.size 60 3 (.slice ao r.ps.length cap) r.ps.length (pks r.ps)) (md : MdAt w3 ba c ma.s ma.served G) (hG : ∀ k, G k → Ext (fun k => w0.heap.size ≤ k ∧ k < w1.heap.size) w2 w3 k) (f : Fr (fun k => w0.heap.size ≤ k ∧ k < w1.heap.size) w2 w3) :
    BatA w (w3.alloc (.cells #[.int .i64 r.e, .slice ao r.ps.length cap, .int .i64 r.n, .int .u64 r.v] 40)) bm ba bb w3.heap.size c m ma ⟨sb, m.served⟩ (fun k => w1.heap.size ≤ k ∧ k < w2.heap.size) r ao cap w2.heap.size := by
  obtain ⟨Fm, Gx, h1, -, -, h4, -, h6⟩ := T
  have z0 := h6.size
  have z1 := hb1.size
  have z2 := hb2.size
  have z3 := f.size
  have hb4 := below1 w3 (.cells #[.int .i64 r.e, .slice ao r.ps.length cap, .int .i64 r.n, .int .u64 r.v] 40)
  have hl := h1.lt
  have hm2 : MdAt w2 bm c m.s m.served Fm := (h1.below hb1).below hb2
  refine ⟨⟨Fm, G, (hm2.fr f fun k hk hk2 => ?_).below hb4, md.below hb4, h4, fun k hk => ?_, fun k hk => ⟨fun hk2 => ?_, fun hk2 => ?_⟩⟩, (hbb.fr f fun k hk hk2 => ?_).below hb4, fun k hk => ?_, Blk.new w3 [.int .i64 r.e, .slice ao r.ps.length cap, .int .i64 r.n, .int .u64 r.v] 40, fun hk => ?_, owns_below (B := 0) row hb4, fun k hk hk2 => ?_, ?_⟩
  · have := hl k hk; omega
  · rcases hG k hk with hk | hk
    · omega
    · omega
  · have := hl k hk2; omega
  · rcases hG k hk2 with hk2 | hk2
    · omega
    · omega
  · omega
  · omega
  · omega
  · have := (row.lt k hk).1; omega
  · have ha : Below w.heap.size w w2 := h6.trans ((hb1.trans (hb2.mono z1)).mono z0)
    exact (ha.trans (f.below (fun k hk => by omega) ha.size)).trans (hb4.mono (by omega))
end
theorem bat_out {c : Cfg} {m0 : MdS} {N : Int} (h : ¬ (1 ≤ N ∧ N ≤ 16)) : m0.doo c (batD N) = (m0, ⟨1, [], 0, 0⟩) := by
  rw [doo_bat, if_neg]
  · rfl
  · unfold inB
    intro h1
    simp only [Bool.and_eq_true, decide_eq_true_eq] at h1
    exact h h1
theorem bat_in {c : Cfg} {m0 m1 y : MdS} {N : Int} (h0 : MSim m0 y) (h1 : MSim m1 y) (h : 1 ≤ N ∧ N ≤ 16) :
    (m0.doo c (batD N)).2 = (m1.bat N.toNat []).2 ∧ (m0.doo c (batD N)).1.s.v = (m1.bat N.toNat []).1.s.v ∧ (m0.doo c (batD N)).1.served = (m1.bat N.toNat []).1.served ∧ (m0.doo c (batD N)).1.s.starts = (m1.bat N.toNat []).1.s.starts ∧
      (m0.doo c (batD N)).1.served = m0.served + (m1.bat N.toNat []).2.ps.length := by
  have hi : inB N 1 16 = true := by unfold inB; simp; exact h
  rw [doo_bat, if_pos hi]
  obtain ⟨a1, a2⟩ := h0.bat N.toNat []
  obtain ⟨b1, b2⟩ := h1.bat N.toNat []
  have hs := bat_served N.toNat m0 []
  refine ⟨a2.trans b2.symm, a1.s.v.trans b1.s.v.symm, a1.served.trans b1.served.symm, (starts_eq a1.s).trans (starts_eq b1.s).symm, ?_⟩
  rw [b2, ← a2]
  simpa using hs
end Go.Proofs.YtfgfjnlkgadkhaaGreat
