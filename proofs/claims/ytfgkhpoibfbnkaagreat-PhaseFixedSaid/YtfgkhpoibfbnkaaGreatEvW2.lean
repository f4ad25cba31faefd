/-
  The evaluator's way through one great part of the program's own law. No conditions.
-/
import Derived.Test.YtfgkhpoibfbnkaaGreatEvW
namespace Go.Proofs.YtfgkhpoibfbnkaaGreat
open Go.Ev

theorem stage2 : evTo env 1 (2979 + 1) (restOf 20 c3.code) t20 ⟨m20, 374, []⟩ = some (t21, ⟨m21, 776, []⟩) := by kernel_rfl
end Go.Proofs.YtfgkhpoibfbnkaaGreat
