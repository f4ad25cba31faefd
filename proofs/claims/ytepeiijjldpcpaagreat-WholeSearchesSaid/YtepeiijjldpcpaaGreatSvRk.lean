/-
  All runs of some shapes, printed by a program of ours. No conditions.
-/
import Derived.Test.YtepeiijjldpcpaaGreatSvYp
namespace Go.Sv.C
open Go.Sv

theorem rF111 : RuF 1 1 1 := by intro v u; kernel_rfl
theorem rG111 : RuG 1 1 1 := by intro v u; kernel_rfl
theorem rZ111 : RuZ 1 1 1 := by intro v u; kernel_rfl
theorem rP111 : RuP 1 1 1 := by intro v u; kernel_rfl
theorem rN111 : RuN 1 1 1 := by intro v u; kernel_rfl
theorem rO111 : RuO 1 1 1 := by unfold RuO; kernel_rfl
theorem rI111 : RuI 1 1 1 := by unfold RuI; kernel_rfl
theorem rS111 : RuS 1 1 1 := by intro v u; kernel_rfl
theorem rC111 : RuC 1 1 1 := by intro v u w; kernel_rfl
theorem rK111 : RuK 1 1 1 := by intro v u w; kernel_rfl
theorem rL111 : RuL 1 1 1 := by intro v u; kernel_rfl
theorem rW111 : RuW 1 1 1 := by unfold RuW; kernel_rfl
theorem rX111 : RuX 1 1 1 := by intro v u; kernel_rfl
theorem rY111 : RuY 1 1 1 := by intro v u; kernel_rfl
theorem rU111 : RuU 1 1 1 := by unfold RuU; kernel_rfl
theorem rV111 : RuV 1 1 1 := by intro v; kernel_rfl
theorem r0111 : RuT 1 1 1 0 := by intro v x y z s l; kernel_rfl
theorem r1111 : RuT 1 1 1 1 := by intro v x y z s l; kernel_rfl
theorem r2111 : RuT 1 1 1 2 := by intro v x y z s l; kernel_rfl
theorem r3111 : RuT 1 1 1 3 := by intro v x y z s l; kernel_rfl
theorem r4111 : RuT 1 1 1 4 := by intro v x y z s l; kernel_rfl
theorem r5111 : RuT 1 1 1 5 := by intro v x y z s l; kernel_rfl
theorem r9111 : RuQ 1 1 1 := by intro v x y z s l; kernel_rfl
theorem all111 : AllOK 1 1 1 := all_of rF111 rG111 rZ111 rP111 rN111 rO111 rI111 rS111 rC111 rK111 rL111 rW111 rX111 rY111 rU111 rV111 r0111 r1111 r2111 r3111 r4111 r5111 r9111

theorem rF231 : RuF 2 3 1 := by intro v u; kernel_rfl
theorem rG231 : RuG 2 3 1 := by intro v u; kernel_rfl
theorem rZ231 : RuZ 2 3 1 := by intro v u; kernel_rfl
theorem rP231 : RuP 2 3 1 := by intro v u; kernel_rfl
theorem rN231 : RuN 2 3 1 := by intro v u; kernel_rfl
theorem rO231 : RuO 2 3 1 := by unfold RuO; kernel_rfl
theorem rI231 : RuI 2 3 1 := by unfold RuI; kernel_rfl
theorem rS231 : RuS 2 3 1 := by intro v u; kernel_rfl
theorem rC231 : RuC 2 3 1 := by intro v u w; kernel_rfl
theorem rK231 : RuK 2 3 1 := by intro v u w; kernel_rfl
theorem rL231 : RuL 2 3 1 := by intro v u; kernel_rfl
theorem rW231 : RuW 2 3 1 := by unfold RuW; kernel_rfl
theorem rX231 : RuX 2 3 1 := by intro v u; kernel_rfl
theorem rY231 : RuY 2 3 1 := by intro v u; kernel_rfl
theorem rU231 : RuU 2 3 1 := by unfold RuU; kernel_rfl
theorem rV231 : RuV 2 3 1 := by intro v; kernel_rfl
theorem r0231 : RuT 2 3 1 0 := by intro v x y z s l; kernel_rfl
theorem r1231 : RuT 2 3 1 1 := by intro v x y z s l; kernel_rfl
theorem r2231 : RuT 2 3 1 2 := by intro v x y z s l; kernel_rfl
theorem r3231 : RuT 2 3 1 3 := by intro v x y z s l; kernel_rfl
theorem r4231 : RuT 2 3 1 4 := by intro v x y z s l; kernel_rfl
theorem r5231 : RuT 2 3 1 5 := by intro v x y z s l; kernel_rfl
theorem r9231 : RuQ 2 3 1 := by intro v x y z s l; kernel_rfl
theorem all231 : AllOK 2 3 1 := all_of rF231 rG231 rZ231 rP231 rN231 rO231 rI231 rS231 rC231 rK231 rL231 rW231 rX231 rY231 rU231 rV231 r0231 r1231 r2231 r3231 r4231 r5231 r9231

theorem rF323 : RuF 3 2 3 := by intro v u; kernel_rfl
theorem rG323 : RuG 3 2 3 := by intro v u; kernel_rfl
theorem rZ323 : RuZ 3 2 3 := by intro v u; kernel_rfl
theorem rP323 : RuP 3 2 3 := by intro v u; kernel_rfl
theorem rN323 : RuN 3 2 3 := by intro v u; kernel_rfl
theorem rO323 : RuO 3 2 3 := by unfold RuO; kernel_rfl
theorem rI323 : RuI 3 2 3 := by unfold RuI; kernel_rfl
theorem rS323 : RuS 3 2 3 := by intro v u; kernel_rfl
theorem rC323 : RuC 3 2 3 := by intro v u w; kernel_rfl
theorem rK323 : RuK 3 2 3 := by intro v u w; kernel_rfl
theorem rL323 : RuL 3 2 3 := by intro v u; kernel_rfl
theorem rW323 : RuW 3 2 3 := by unfold RuW; kernel_rfl
theorem rX323 : RuX 3 2 3 := by intro v u; kernel_rfl
theorem rY323 : RuY 3 2 3 := by intro v u; kernel_rfl
theorem rU323 : RuU 3 2 3 := by unfold RuU; kernel_rfl
theorem rV323 : RuV 3 2 3 := by intro v; kernel_rfl
theorem r0323 : RuT 3 2 3 0 := by intro v x y z s l; kernel_rfl
theorem r1323 : RuT 3 2 3 1 := by intro v x y z s l; kernel_rfl
theorem r2323 : RuT 3 2 3 2 := by intro v x y z s l; kernel_rfl
theorem r3323 : RuT 3 2 3 3 := by intro v x y z s l; kernel_rfl
theorem r4323 : RuT 3 2 3 4 := by intro v x y z s l; kernel_rfl
theorem r5323 : RuT 3 2 3 5 := by intro v x y z s l; kernel_rfl
theorem r9323 : RuQ 3 2 3 := by intro v x y z s l; kernel_rfl
theorem all323 : AllOK 3 2 3 := all_of rF323 rG323 rZ323 rP323 rN323 rO323 rI323 rS323 rC323 rK323 rL323 rW323 rX323 rY323 rU323 rV323 r0323 r1323 r2323 r3323 r4323 r5323 r9323

theorem rF422 : RuF 4 2 2 := by intro v u; kernel_rfl
theorem rG422 : RuG 4 2 2 := by intro v u; kernel_rfl
theorem rZ422 : RuZ 4 2 2 := by intro v u; kernel_rfl
theorem rP422 : RuP 4 2 2 := by intro v u; kernel_rfl
theorem rN422 : RuN 4 2 2 := by intro v u; kernel_rfl
theorem rO422 : RuO 4 2 2 := by unfold RuO; kernel_rfl
theorem rI422 : RuI 4 2 2 := by unfold RuI; kernel_rfl
theorem rS422 : RuS 4 2 2 := by intro v u; kernel_rfl
theorem rC422 : RuC 4 2 2 := by intro v u w; kernel_rfl
theorem rK422 : RuK 4 2 2 := by intro v u w; kernel_rfl
theorem rL422 : RuL 4 2 2 := by intro v u; kernel_rfl
theorem rW422 : RuW 4 2 2 := by unfold RuW; kernel_rfl
theorem rX422 : RuX 4 2 2 := by intro v u; kernel_rfl
theorem rY422 : RuY 4 2 2 := by intro v u; kernel_rfl
theorem rU422 : RuU 4 2 2 := by unfold RuU; kernel_rfl
theorem rV422 : RuV 4 2 2 := by intro v; kernel_rfl
theorem r0422 : RuT 4 2 2 0 := by intro v x y z s l; kernel_rfl
theorem r1422 : RuT 4 2 2 1 := by intro v x y z s l; kernel_rfl
theorem r2422 : RuT 4 2 2 2 := by intro v x y z s l; kernel_rfl
theorem r3422 : RuT 4 2 2 3 := by intro v x y z s l; kernel_rfl
theorem r4422 : RuT 4 2 2 4 := by intro v x y z s l; kernel_rfl
theorem r5422 : RuT 4 2 2 5 := by intro v x y z s l; kernel_rfl
theorem r9422 : RuQ 4 2 2 := by intro v x y z s l; kernel_rfl
theorem all422 : AllOK 4 2 2 := all_of rF422 rG422 rZ422 rP422 rN422 rO422 rI422 rS422 rC422 rK422 rL422 rW422 rX422 rY422 rU422 rV422 r0422 r1422 r2422 r3422 r4422 r5422 r9422

theorem rF431 : RuF 4 3 1 := by intro v u; kernel_rfl
theorem rG431 : RuG 4 3 1 := by intro v u; kernel_rfl
theorem rZ431 : RuZ 4 3 1 := by intro v u; kernel_rfl
theorem rP431 : RuP 4 3 1 := by intro v u; kernel_rfl
theorem rN431 : RuN 4 3 1 := by intro v u; kernel_rfl
theorem rO431 : RuO 4 3 1 := by unfold RuO; kernel_rfl
theorem rI431 : RuI 4 3 1 := by unfold RuI; kernel_rfl
theorem rS431 : RuS 4 3 1 := by intro v u; kernel_rfl
theorem rC431 : RuC 4 3 1 := by intro v u w; kernel_rfl
theorem rK431 : RuK 4 3 1 := by intro v u w; kernel_rfl
theorem rL431 : RuL 4 3 1 := by intro v u; kernel_rfl
theorem rW431 : RuW 4 3 1 := by unfold RuW; kernel_rfl
theorem rX431 : RuX 4 3 1 := by intro v u; kernel_rfl
theorem rY431 : RuY 4 3 1 := by intro v u; kernel_rfl
theorem rU431 : RuU 4 3 1 := by unfold RuU; kernel_rfl
theorem rV431 : RuV 4 3 1 := by intro v; kernel_rfl
theorem r0431 : RuT 4 3 1 0 := by intro v x y z s l; kernel_rfl
theorem r1431 : RuT 4 3 1 1 := by intro v x y z s l; kernel_rfl
theorem r2431 : RuT 4 3 1 2 := by intro v x y z s l; kernel_rfl
theorem r3431 : RuT 4 3 1 3 := by intro v x y z s l; kernel_rfl
theorem r4431 : RuT 4 3 1 4 := by intro v x y z s l; kernel_rfl
theorem r5431 : RuT 4 3 1 5 := by intro v x y z s l; kernel_rfl
theorem r9431 : RuQ 4 3 1 := by intro v x y z s l; kernel_rfl
theorem all431 : AllOK 4 3 1 := all_of rF431 rG431 rZ431 rP431 rN431 rO431 rI431 rS431 rC431 rK431 rL431 rW431 rX431 rY431 rU431 rV431 r0431 r1431 r2431 r3431 r4431 r5431 r9431

end Go.Sv.C
