/-
  Part of the proof: an evaluator of the model's code, proved sound, and its run (PxRun2).
-/
import Derived.Test.YtpidolpoemlpjaaGreatPxSound
set_option linter.unusedVariables false
set_option linter.unusedSimpArgs false
set_option linter.unnecessarySimpa false
set_option linter.unusedSectionVars false
namespace Go.PE
set_option maxRecDepth 100000000
theorem run2 : runC false 2 = true := by kernel_rfl
end Go.PE
