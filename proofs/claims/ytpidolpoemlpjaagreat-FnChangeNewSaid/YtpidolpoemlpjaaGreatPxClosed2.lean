/-
  Part of the proof: an evaluator of the model's code, proved sound, and its run (PxClosed2).
-/
import Derived.Test.YtpidolpoemlpjaaGreatPxClosed
set_option linter.unusedVariables false
set_option linter.unusedSimpArgs false
set_option linter.unnecessarySimpa false
set_option linter.unusedSectionVars false
namespace Go.Proofs.YtpidolpoemlpjaaGreat
set_option maxRecDepth 100000000
theorem closed : joinedFacts Tryz.prog 3 Tryz.f3 Rows.fnChangeNewSpec Rows.fnChangeNewRow = true := by
  unfold joinedFacts
  rw [closed0, closed1, closed2, closed3, closed4, closed5, closed6, closed7, closed8, closed9, closed10, closed11, closed12, closed13, closed14, closed15, closed16, closed17, closed18, closed19, closed20, closed21, closed22, closed23, closed24, closed25, closed26, closed27, closed29, closed30, closed31]
  simp only [Bool.true_and, Bool.and_true]
  exact closed28
end Go.Proofs.YtpidolpoemlpjaaGreat
