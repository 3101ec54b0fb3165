/-
  Part of the proof: an evaluator of the model's code, proved sound, and its run (PxRunB).
-/
import Derived.Test.YtpidolpoemlpjaaGreatPxSound
set_option linter.unusedVariables false
set_option linter.unusedSimpArgs false
set_option linter.unnecessarySimpa false
set_option linter.unusedSectionVars false
namespace Go.PE
set_option maxRecDepth 100000000
theorem runB0 : runC true 0 = true := by kernel_rfl
theorem runB1 : runC true 1 = true := by kernel_rfl
theorem runB2 : runC true 2 = true := by kernel_rfl
end Go.PE
