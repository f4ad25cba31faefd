/-
  The evaluator's way through the last parts of the program's own law. No conditions.
-/
import Derived.Test.YtfgkhpoibfbnkaaGreatEvW
namespace Go.Proofs.YtfgkhpoibfbnkaaGreat
open Go.Ev

theorem stage3 : saysTrue (finish c3.res (ev env 2979 (restOf 1 (restOf 20 c3.code)) t21 ⟨m21, 776, []⟩)) = true := by kernel_rfl
end Go.Proofs.YtfgkhpoibfbnkaaGreat
