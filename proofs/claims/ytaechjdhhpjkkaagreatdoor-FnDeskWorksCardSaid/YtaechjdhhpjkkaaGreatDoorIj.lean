/- Of a slice that is too long the law says true at once. -/
import Derived.Test.YtaechjdhhpjkkaaGreatDoorIg
set_option linter.unusedVariables false
set_option linter.unusedSimpArgs false
namespace Go.Proofs.YtaechjdhhpjkkaaGreatDoor
open Go.RowKit
theorem f3_big (a : Option Addr) (len cap : Nat) (w : World) (hl : 1048576 < len) (hm : len ≤ 9223372036854775807) : Calls Tryz.prog 3 #[.slice a len cap] w fun e w' => e = .returned (.bool true) ∧ w' = w := by
  have u22 := run_underlying Tryz.underlying22
  have h4 : ∀ w, Calls Tryz.prog 4 #[.slice a len cap] w fun e w' => e = .returned (.bool true) ∧ w' = w := fun w => by
    have := f4_calls a len cap w hm
    rw [decide_eq_true (show 1048576 < (len : Int) by omega)] at this
    exact this
  go_enter Tryz.func3, Tryz.ntmps3
  go_wp2_with ((with_reducible refine (h4 _).mono ?_); rintro _ _ ⟨rfl, rfl⟩)
  go_ret
  first | exact ⟨rfl, rfl⟩ | simp
end Go.Proofs.YtaechjdhhpjkkaaGreatDoor
