/-
  The evaluator's way through the first parts of the program's own law. No conditions.
-/
import Derived.Test.YtfgkhpoibfbnkaaGreatEvW
namespace Go.Proofs.YtfgkhpoibfbnkaaGreat
open Go.Ev

theorem stage1 : evTo env 20 (2980 + 20) c3.code .nil ⟨.nil, 0, []⟩ = some (t20, ⟨m20, 374, []⟩) := by kernel_rfl
end Go.Proofs.YtfgkhpoibfbnkaaGreat
