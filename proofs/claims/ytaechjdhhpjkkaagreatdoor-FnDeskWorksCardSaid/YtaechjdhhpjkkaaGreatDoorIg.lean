/- What the law reads of its argument: how long it is, its first byte. -/
import Derived.Test.YtaechjdhhpjkkaaGreatDoorProg
import Derived.WalkKit
set_option linter.unusedVariables false
set_option linter.unusedSimpArgs false
namespace Go.Proofs.YtaechjdhhpjkkaaGreatDoor
open Go.RowKit
theorem f4_calls (a : Option Addr) (len cap : Nat) (w : World) (hl : len ≤ 9223372036854775807) : Calls Tryz.prog 4 #[.slice a len cap] w fun e w' => e = .returned (.bool (decide (1048576 < (len : Int)))) ∧ w' = w := by
  have u22 := run_underlying Tryz.underlying22
  go_enter Tryz.func4, Tryz.ntmps4
  go_wp2
  go_ret
  first | exact ⟨rfl, rfl⟩ | simp
theorem f6_calls (b o len cap : Nat) (n : Nat) (w : World) (hl : 0 < len) (hc : w.cell? ⟨b, o, none⟩ = some (.int .u8 n)) (hn : n < 256) : Calls Tryz.prog 6 #[.slice (some ⟨b, o, none⟩) len cap, .int .i64 0] w fun e w' => e = .returned (.int .i64 n) ∧ w' = w := by
  have u22 := run_underlying Tryz.underlying22
  have hw : IntKind.i64.wrap (n : Int) = n := by rw [IntKind.wrap_i64]; omega
  have h0 : (0 : Int) < (len : Int) := by omega
  go_enter Tryz.func6, Tryz.ntmps6
  go_wp2
  go_ret
  first | exact ⟨rfl, rfl⟩ | simp [hw]
theorem f6_nil (a : Option Addr) (cap : Nat) (w : World) : Calls Tryz.prog 6 #[.slice a 0 cap, .int .i64 0] w fun e w' => e = .returned (.int .i64 0) ∧ w' = w := by
  have u22 := run_underlying Tryz.underlying22
  go_enter Tryz.func6, Tryz.ntmps6
  go_wp2
  go_ret
  first | exact ⟨rfl, rfl⟩ | simp
end Go.Proofs.YtaechjdhhpjkkaaGreatDoor
