/- Several texts in one: Fls. -/
import Derived.Test.YtdjooacjjnjfmaaGreatGg
import Derived.Test.YtdjooacjjnjfmaaGreatShlf
import Derived.Shelf.SlIterI.Nil
import Derived.Shelf.SortM.Plain
import Derived.Shelf.SortM.SortNone
-- Which flows there are, rising: slices.Sorted(maps.Keys(..)) at the flows' map.
section
namespace Go.Proofs.YtdjooacjjnjfmaaGreat
set_option linter.unusedVariables false
set_option linter.unusedSimpArgs false
set_option maxRecDepth 20000
open Go.RowKit Go.Proofs.YtdjooacjjnjfmaaGreatMem Go.Proofs.YtdjooacjjnjfmaaGreatMapK Go.Sort Go.Shelf

/-- Whatever stands at a key: it is not read. -/
def RN : Value → Option (DataW Unit × List MemPlace) := fun _ => some (.nil, [])
def keyZ : Value → Int | .int _ a => a | _ => 0
theorem ownsMap_of {w : World} {mb : Nat} {m : List (Int × Value)} (h : IsMapAt w mb (Value.int .i64) m) (hk : ∀ e ∈ m, I64 e.1) (hn : m.length ≤ 1000000) :
    ∃ D : DataW Unit, w.ownsMap Tryz.prog 3 RN mb m.length D ∧ (intKeys D).Perm (m.map (·.1)) ∧ Maps.size D = m.length := by
  obtain ⟨es, clock, h⟩ := h
  have hlen : es.toList.length = m.length := by have := congrArg List.length h.ents; simpa using this
  have hkey := h.keyEq
  have hread : ∀ x ∈ es.toList, WideElems.rd Tryz.prog 3 RN x = some (.int .i64 (keyZ x.key), .nil) := by
    intro x hx
    have hx2 : x.key ∈ (m.map (·.1)).map (Value.int .i64) := by rw [← hkey]; exact List.mem_map.2 ⟨x, hx, rfl⟩
    obtain ⟨k, hk1, hk2⟩ := List.mem_map.1 hx2
    obtain ⟨e, he, rfl⟩ := List.mem_map.1 hk1
    have hb := hk e he
    have hw : (Lit.int .i64 e.1).wf = true := by unfold I64 at hb; simp [Lit.wf, IntKind.min, IntKind.max, IntKind.bits, IntKind.signed]; exact hb
    obtain ⟨key, val, born⟩ := x
    simp only at hk2
    subst hk2
    exact WideElems.rd_mk (R := RN) (yv := (.nil, [])) (Maps.keyOf_int_mk Tryz.underlying3 hw) rfl
  have hst : MapKept.Stamped es clock := by
    refine ⟨h.born, h.stamps, ?_⟩
    rw [hkey]
    exact List.pairwise_map.2 (h.keys.imp fun hne e => hne (by simpa using e))
  refine ⟨_, ⟨es, clock, h.heap, ⟨by rw [← Array.length_toList, hlen]; unfold maxLen; omega, hst, fun x hx => ⟨_, hread x hx⟩⟩, by rw [← Array.length_toList, hlen]; exact Nat.le_refl _, rfl⟩, ?_, ?_⟩
  · show (List.map (fun p : Lit × DataW Unit => Go.intOf p.1) _).Perm _
    have e1 : List.map (fun p : Lit × DataW Unit => Go.intOf p.1) (es.toList.map (WideElems.rg Tryz.prog 3 RN)) = m.map (·.1) := by
      rw [List.map_map]
      have e2 : List.map ((fun p : Lit × DataW Unit => Go.intOf p.1) ∘ WideElems.rg Tryz.prog 3 RN) es.toList = (es.toList.map (·.key)).map keyZ := by
        rw [List.map_map]
        refine List.map_congr_left fun x hx => ?_
        simp only [Function.comp, WideElems.rg_of (hread x hx)]
        rfl
      rw [e2, hkey, List.map_map]
      conv => rhs; rw [← List.map_id (m.map (·.1))]
      rfl
    rw [← e1]
    exact (WideShapes.sorted_perm _).map _
  · show (List.foldr DataW.insert [] _).length = _
    rw [(WideShapes.sorted_perm _).length_eq, List.length_map, hlen]

theorem sortsIn (n : Nat) : AnyZI.SortsIn Tryz.prog Tryz.sortedF_ren Fence.wide n :=
  ⟨fun blk off cap ss W hH hblk hsz => callsIn_wide.2 (AnyM.slices_Sort_int Tryz.sortF blk off cap ss W hH hblk hsz),
   fun p cap W => callsIn_wide.2 (AnyM.slices_Sort_int_none Tryz.sortF p cap W)⟩

theorem keysC (mb : Option Nat) (w : World) : Calls Tryz.prog 157 #[.map mb] w fun e w' => e = .returned (.func (.func 161) #[] #[.pointer (some ⟨w.heap.size, 0, none⟩)]) ∧ w' = w.alloc (.cells #[.map mb] 136) :=
  callsIn_wide.1 (AnyZI.keys_in Tryz.keysF Fence.wide 5 trivial rfl mb w)

theorem sortedC {mb : Nat} {m : List (Int × Value)} {w : World} (h : IsMapAt w mb (Value.int .i64) m) (hk : ∀ e ∈ m, I64 e.1) (hn : m.length ≤ 1000000) :
    Calls Tryz.prog 59 #[.func (.func 161) #[] #[.pointer (some ⟨w.heap.size, 0, none⟩)]] (w.alloc (.cells #[.map (some mb)] 136)) fun e w' => ∃ v, e = .returned v ∧
      w'.ownsRow w.heap.size 3 1 v m.length (((m.map (·.1)).mergeSort fun x y => decide (x ≤ y)).map (Value.int .i64)) ∧ Below w.heap.size w w' := by
  obtain ⟨D0, hown, hp, hsz⟩ := ownsMap_of h hk hn
  have hbl := hown.lt
  have hseq : SeqGives Fence.wide 2 Tryz.prog 161 #[.pointer (some ⟨w.heap.size, 0, none⟩)] encZ (fun ss => ss.Perm (intKeys D0)) (Maps.size D0) (w.alloc (.cells #[.map (some mb)] 136)) :=
    AnyZI.keys_gives (ρ := Tryz.keysF_ren) { Tryz.keysF with } Fence.wide _ trivial rfl (by omega) w.heap.size mb _ D0 _ (by simp) (by simp) (by
      obtain ⟨es, clock, hb, Ft, hs, hD⟩ := hown
      exact ⟨es, clock, (Below.heap_alloc _ _ mb hbl).trans hb, Ft, hs, hD⟩)
  have cS := AnyZI.sorted_in Tryz.sortedF Fence.wide 5 trivial trivial trivial trivial rfl (by omega) (sortsIn _) (enters_of Tryz.func94 (by kernel_rfl) rfl) 161 #[.pointer (some ⟨w.heap.size, 0, none⟩)] trivial (enters_of Tryz.func161 (by kernel_rfl) rfl) _ (Maps.size D0) (by rw [hsz]; unfold maxLen; omega) (by rw [hsz]; omega) _ hseq
  change CallsIn _ _ Tryz.prog 59 _ _ _ at cS
  refine (callsIn_wide.1 cS).mono ?_
  rintro e w' ⟨v, ss, rfl, hS, hrow, -, hb⟩
  have e1 : ss.length = m.length := by rw [(hS.trans hp).length_eq, List.length_map]
  have e2 : (ss.mergeSort fun x y => decide (x ≤ y)) = ((m.map (·.1)).mergeSort fun x y => decide (x ≤ y)) := mergeSort_of_perm_i (hS.trans hp)
  rw [e1, e2] at hrow
  exact ⟨v, rfl, ownsRow_base_a hrow (by simp), ((Below.refl _ w).alloc (Nat.le_refl _) _).trans (hb.mono (by simp))⟩

set_option maxHeartbeats 1000000 in
theorem flowsS_any (b : Nat) (s : SfS) (F : Nat → Prop) (w : World) (h : SfsAt w b s F) (hi : ∀ e ∈ s.fs, I64 e.1) (hn : s.fs.length ≤ 1000000) :
    Calls Tryz.prog 146 #[.pointer (some ⟨b, 0, none⟩)] w fun e w' => ∃ v, e = .returned v ∧ w'.ownsRow w.heap.size 3 1 v s.fs.length ((s.ids.mergeSort fun x y => decide (x ≤ y)).map (Value.int .i64)) ∧ Below w.heap.size w w' := by
  obtain ⟨mb, l, hl, R⟩ := h
  have c0 := R.blk.cell 0
  simp only [List.getElem?_cons_zero] at c0
  have hlt := R.blk.lt
  have hids : (l.map FlR.ent).map (·.1) = s.ids := by unfold SfS.ids; rw [← hl]; simp [FlR.ent, FlR.pl, Function.comp_def]
  have hlen : (l.map FlR.ent).length = s.fs.length := by rw [← hl]; simp
  have cS := sortedC R.map (fun e he => by
    obtain ⟨x, hx, rfl⟩ := List.mem_map.1 he
    exact hi x.pl (by rw [← hl]; exact List.mem_map.2 ⟨x, hx, rfl⟩)) (by rw [hlen]; exact hn)
  rw [hids, hlen] at cS
  clear R hids hlen hl
  go_enter Tryz.func146, Tryz.ntmps146
  go_wp2_with fail
  refine (keysC _ _).mono ?_
  rintro e w1 ⟨rfl, rfl⟩
  go_wp2_with fail
  refine cS.mono ?_
  rintro e w2 ⟨v, rfl, hrow, hb⟩
  obtain ⟨ao, cp, rfl⟩ := owns_slice hrow
  go_wp2
  go_ret
  exact ⟨_, rfl, hrow, hb⟩
end Go.Proofs.YtdjooacjjnjfmaaGreat
end
