/-
  Part of the proof: an evaluator of the model's code, proved sound, and its run (PxWalk).
-/
import Derived.Test.YtpidolpoemlpjaaGreatRows
import Derived.WalkKit
import Derived.ProofKit
import Derived.OpenShut
set_option linter.unusedVariables false
set_option linter.unusedSimpArgs false
set_option linter.unnecessarySimpa false
set_option linter.unusedSectionVars false
namespace Go.Proofs.YtpidolpoemlpjaaGreat
open Go.ChangeShapes Go.WideShapes Go.ChangeAt Go.RowKit
theorem big_any (a : Option Addr) (len cap : Nat) (w : World) (hm : len ≤ 9223372036854775807) :
    Calls Tryz.prog 4 #[.slice a len cap] w fun e w' => e = .returned (.bool (decide (1048576 < len))) ∧ w' = w := by
  go_enter Tryz.func4, Tryz.ntmps4
  go_wp2
  go_ret
  exact ⟨by simp; omega, rfl⟩
theorem at_yes (a : Addr) (len cap : Nat) (z : Int) (w : World) (hm : len ≤ 9223372036854775807) (h0 : 0 < len) (hc : w.cell? a = some (.int .u8 z)) (hz : 0 ≤ z ∧ z ≤ 255) :
    Calls Tryz.prog 7 #[.slice (some a) len cap, .int .i64 0] w fun e w' => e = .returned (.int .i64 z) ∧ w' = w := by
  go_enter Tryz.func7, Tryz.ntmps7
  go_wp2
  go_ret
  exact ⟨by first | rfl | (congr 2; simp [IntKind.wrap, IntKind.bits]; omega) | (simp; omega), rfl⟩
theorem at_no (a : Option Addr) (cap : Nat) (w : World) :
    Calls Tryz.prog 7 #[.slice a 0 cap, .int .i64 0] w fun e w' => e = .returned (.int .i64 0) ∧ w' = w := by
  go_enter Tryz.func7, Tryz.ntmps7
  go_wp2
  go_ret
  exact ⟨by simp, rfl⟩
end Go.Proofs.YtpidolpoemlpjaaGreat
