/- weighbridgeplay.Mod: any number as one from 0 to n - 1. -/
import Derived.Test.YtfgfjnlkgadkhaaRows
import Derived.WalkKit
import Derived.WalkSpells
import Derived.WalkLawsBesides
import Derived.Lib.Hide
namespace Go.Proofs.Ytfgfjnlkgadkhaa
set_option linter.unusedVariables false
set_option linter.unusedSimpArgs false
open Go.RowKit
def modZ (v n : Int) : Int := IntKind.u64.wrap v % n
theorem modZ_bd (v : Int) {n : Int} (h : 1 ≤ n) : 0 ≤ modZ v n ∧ modZ v n < n := by
  unfold modZ; exact ⟨Int.emod_nonneg _ (by omega), Int.emod_lt_of_pos _ (by omega)⟩

set_option maxHeartbeats 400000 in
theorem mod_any (v n : Int) (h1 : 1 ≤ n) (h2 : n ≤ 9223372036854775807) (w : World) :
    Calls Try.prog 8 #[.int .i64 v, .int .i64 n] w fun e w' => e = .returned (.int .i64 (modZ v n)) ∧ w = w' := by
  have wb : 0 ≤ IntKind.u64.wrap v ∧ IntKind.u64.wrap v < 18446744073709551616 := by rw [IntKind.wrap_u64]; omega
  obtain ⟨wb1, wb2⟩ := wb
  have hnn : IntKind.u64.wrap n = n := by rw [IntKind.wrap_u64]; omega
  have hm := modZ_bd v h1
  have E : Hid (modZ v n = IntKind.u64.wrap v % n) := rfl
  have q1 : 0 ≤ IntKind.u64.wrap v % n := hm.1
  have q2 : IntKind.u64.wrap v % n < n := hm.2
  go_enter Try.func8, Try.ntmps8
  go_wp2
  go_ret
  exact ⟨by rw [E.out]; rfl, rfl⟩
end Go.Proofs.Ytfgfjnlkgadkhaa
