/-
  All runs of some shapes, printed by a program of ours. No conditions.
-/
import Derived.Test.YtepeiijjldpcpaaGreatSvYp
namespace Go.Sv.C
open Go.Sv

theorem rF143 : RuF 1 4 3 := by intro v u; kernel_rfl
theorem rG143 : RuG 1 4 3 := by intro v u; kernel_rfl
theorem rZ143 : RuZ 1 4 3 := by intro v u; kernel_rfl
theorem rP143 : RuP 1 4 3 := by intro v u; kernel_rfl
theorem rN143 : RuN 1 4 3 := by intro v u; kernel_rfl
theorem rO143 : RuO 1 4 3 := by unfold RuO; kernel_rfl
theorem rI143 : RuI 1 4 3 := by unfold RuI; kernel_rfl
theorem rS143 : RuS 1 4 3 := by intro v u; kernel_rfl
theorem rC143 : RuC 1 4 3 := by intro v u w; kernel_rfl
theorem rK143 : RuK 1 4 3 := by intro v u w; kernel_rfl
theorem rL143 : RuL 1 4 3 := by intro v u; kernel_rfl
theorem rW143 : RuW 1 4 3 := by unfold RuW; kernel_rfl
theorem rX143 : RuX 1 4 3 := by intro v u; kernel_rfl
theorem rY143 : RuY 1 4 3 := by intro v u; kernel_rfl
theorem rU143 : RuU 1 4 3 := by unfold RuU; kernel_rfl
theorem rV143 : RuV 1 4 3 := by intro v; kernel_rfl
theorem r0143 : RuT 1 4 3 0 := by intro v x y z s l; kernel_rfl
theorem r1143 : RuT 1 4 3 1 := by intro v x y z s l; kernel_rfl
theorem r2143 : RuT 1 4 3 2 := by intro v x y z s l; kernel_rfl
theorem r3143 : RuT 1 4 3 3 := by intro v x y z s l; kernel_rfl
theorem r4143 : RuT 1 4 3 4 := by intro v x y z s l; kernel_rfl
theorem r5143 : RuT 1 4 3 5 := by intro v x y z s l; kernel_rfl
theorem r9143 : RuQ 1 4 3 := by intro v x y z s l; kernel_rfl
theorem all143 : AllOK 1 4 3 := all_of rF143 rG143 rZ143 rP143 rN143 rO143 rI143 rS143 rC143 rK143 rL143 rW143 rX143 rY143 rU143 rV143 r0143 r1143 r2143 r3143 r4143 r5143 r9143

theorem rF243 : RuF 2 4 3 := by intro v u; kernel_rfl
theorem rG243 : RuG 2 4 3 := by intro v u; kernel_rfl
theorem rZ243 : RuZ 2 4 3 := by intro v u; kernel_rfl
theorem rP243 : RuP 2 4 3 := by intro v u; kernel_rfl
theorem rN243 : RuN 2 4 3 := by intro v u; kernel_rfl
theorem rO243 : RuO 2 4 3 := by unfold RuO; kernel_rfl
theorem rI243 : RuI 2 4 3 := by unfold RuI; kernel_rfl
theorem rS243 : RuS 2 4 3 := by intro v u; kernel_rfl
theorem rC243 : RuC 2 4 3 := by intro v u w; kernel_rfl
theorem rK243 : RuK 2 4 3 := by intro v u w; kernel_rfl
theorem rL243 : RuL 2 4 3 := by intro v u; kernel_rfl
theorem rW243 : RuW 2 4 3 := by unfold RuW; kernel_rfl
theorem rX243 : RuX 2 4 3 := by intro v u; kernel_rfl
theorem rY243 : RuY 2 4 3 := by intro v u; kernel_rfl
theorem rU243 : RuU 2 4 3 := by unfold RuU; kernel_rfl
theorem rV243 : RuV 2 4 3 := by intro v; kernel_rfl
theorem r0243 : RuT 2 4 3 0 := by intro v x y z s l; kernel_rfl
theorem r1243 : RuT 2 4 3 1 := by intro v x y z s l; kernel_rfl
theorem r2243 : RuT 2 4 3 2 := by intro v x y z s l; kernel_rfl
theorem r3243 : RuT 2 4 3 3 := by intro v x y z s l; kernel_rfl
theorem r4243 : RuT 2 4 3 4 := by intro v x y z s l; kernel_rfl
theorem r5243 : RuT 2 4 3 5 := by intro v x y z s l; kernel_rfl
theorem r9243 : RuQ 2 4 3 := by intro v x y z s l; kernel_rfl
theorem all243 : AllOK 2 4 3 := all_of rF243 rG243 rZ243 rP243 rN243 rO243 rI243 rS243 rC243 rK243 rL243 rW243 rX243 rY243 rU243 rV243 r0243 r1243 r2243 r3243 r4243 r5243 r9243

theorem rF312 : RuF 3 1 2 := by intro v u; kernel_rfl
theorem rG312 : RuG 3 1 2 := by intro v u; kernel_rfl
theorem rZ312 : RuZ 3 1 2 := by intro v u; kernel_rfl
theorem rP312 : RuP 3 1 2 := by intro v u; kernel_rfl
theorem rN312 : RuN 3 1 2 := by intro v u; kernel_rfl
theorem rO312 : RuO 3 1 2 := by unfold RuO; kernel_rfl
theorem rI312 : RuI 3 1 2 := by unfold RuI; kernel_rfl
theorem rS312 : RuS 3 1 2 := by intro v u; kernel_rfl
theorem rC312 : RuC 3 1 2 := by intro v u w; kernel_rfl
theorem rK312 : RuK 3 1 2 := by intro v u w; kernel_rfl
theorem rL312 : RuL 3 1 2 := by intro v u; kernel_rfl
theorem rW312 : RuW 3 1 2 := by unfold RuW; kernel_rfl
theorem rX312 : RuX 3 1 2 := by intro v u; kernel_rfl
theorem rY312 : RuY 3 1 2 := by intro v u; kernel_rfl
theorem rU312 : RuU 3 1 2 := by unfold RuU; kernel_rfl
theorem rV312 : RuV 3 1 2 := by intro v; kernel_rfl
theorem r0312 : RuT 3 1 2 0 := by intro v x y z s l; kernel_rfl
theorem r1312 : RuT 3 1 2 1 := by intro v x y z s l; kernel_rfl
theorem r2312 : RuT 3 1 2 2 := by intro v x y z s l; kernel_rfl
theorem r3312 : RuT 3 1 2 3 := by intro v x y z s l; kernel_rfl
theorem r4312 : RuT 3 1 2 4 := by intro v x y z s l; kernel_rfl
theorem r5312 : RuT 3 1 2 5 := by intro v x y z s l; kernel_rfl
theorem r9312 : RuQ 3 1 2 := by intro v x y z s l; kernel_rfl
theorem all312 : AllOK 3 1 2 := all_of rF312 rG312 rZ312 rP312 rN312 rO312 rI312 rS312 rC312 rK312 rL312 rW312 rX312 rY312 rU312 rV312 r0312 r1312 r2312 r3312 r4312 r5312 r9312

theorem rF313 : RuF 3 1 3 := by intro v u; kernel_rfl
theorem rG313 : RuG 3 1 3 := by intro v u; kernel_rfl
theorem rZ313 : RuZ 3 1 3 := by intro v u; kernel_rfl
theorem rP313 : RuP 3 1 3 := by intro v u; kernel_rfl
theorem rN313 : RuN 3 1 3 := by intro v u; kernel_rfl
theorem rO313 : RuO 3 1 3 := by unfold RuO; kernel_rfl
theorem rI313 : RuI 3 1 3 := by unfold RuI; kernel_rfl
theorem rS313 : RuS 3 1 3 := by intro v u; kernel_rfl
theorem rC313 : RuC 3 1 3 := by intro v u w; kernel_rfl
theorem rK313 : RuK 3 1 3 := by intro v u w; kernel_rfl
theorem rL313 : RuL 3 1 3 := by intro v u; kernel_rfl
theorem rW313 : RuW 3 1 3 := by unfold RuW; kernel_rfl
theorem rX313 : RuX 3 1 3 := by intro v u; kernel_rfl
theorem rY313 : RuY 3 1 3 := by intro v u; kernel_rfl
theorem rU313 : RuU 3 1 3 := by unfold RuU; kernel_rfl
theorem rV313 : RuV 3 1 3 := by intro v; kernel_rfl
theorem r0313 : RuT 3 1 3 0 := by intro v x y z s l; kernel_rfl
theorem r1313 : RuT 3 1 3 1 := by intro v x y z s l; kernel_rfl
theorem r2313 : RuT 3 1 3 2 := by intro v x y z s l; kernel_rfl
theorem r3313 : RuT 3 1 3 3 := by intro v x y z s l; kernel_rfl
theorem r4313 : RuT 3 1 3 4 := by intro v x y z s l; kernel_rfl
theorem r5313 : RuT 3 1 3 5 := by intro v x y z s l; kernel_rfl
theorem r9313 : RuQ 3 1 3 := by intro v x y z s l; kernel_rfl
theorem all313 : AllOK 3 1 3 := all_of rF313 rG313 rZ313 rP313 rN313 rO313 rI313 rS313 rC313 rK313 rL313 rW313 rX313 rY313 rU313 rV313 r0313 r1313 r2313 r3313 r4313 r5313 r9313

end Go.Sv.C
