/-
  All runs of some shapes, printed by a program of ours. No conditions.
-/
import Derived.Test.YtepeiijjldpcpaaGreatSvYp
namespace Go.Sv.C
open Go.Sv

theorem rF133 : RuF 1 3 3 := by intro v u; kernel_rfl
theorem rG133 : RuG 1 3 3 := by intro v u; kernel_rfl
theorem rZ133 : RuZ 1 3 3 := by intro v u; kernel_rfl
theorem rP133 : RuP 1 3 3 := by intro v u; kernel_rfl
theorem rN133 : RuN 1 3 3 := by intro v u; kernel_rfl
theorem rO133 : RuO 1 3 3 := by unfold RuO; kernel_rfl
theorem rI133 : RuI 1 3 3 := by unfold RuI; kernel_rfl
theorem rS133 : RuS 1 3 3 := by intro v u; kernel_rfl
theorem rC133 : RuC 1 3 3 := by intro v u w; kernel_rfl
theorem rK133 : RuK 1 3 3 := by intro v u w; kernel_rfl
theorem rL133 : RuL 1 3 3 := by intro v u; kernel_rfl
theorem rW133 : RuW 1 3 3 := by unfold RuW; kernel_rfl
theorem rX133 : RuX 1 3 3 := by intro v u; kernel_rfl
theorem rY133 : RuY 1 3 3 := by intro v u; kernel_rfl
theorem rU133 : RuU 1 3 3 := by unfold RuU; kernel_rfl
theorem rV133 : RuV 1 3 3 := by intro v; kernel_rfl
theorem r0133 : RuT 1 3 3 0 := by intro v x y z s l; kernel_rfl
theorem r1133 : RuT 1 3 3 1 := by intro v x y z s l; kernel_rfl
theorem r2133 : RuT 1 3 3 2 := by intro v x y z s l; kernel_rfl
theorem r3133 : RuT 1 3 3 3 := by intro v x y z s l; kernel_rfl
theorem r4133 : RuT 1 3 3 4 := by intro v x y z s l; kernel_rfl
theorem r5133 : RuT 1 3 3 5 := by intro v x y z s l; kernel_rfl
theorem r9133 : RuQ 1 3 3 := by intro v x y z s l; kernel_rfl
theorem all133 : AllOK 1 3 3 := all_of rF133 rG133 rZ133 rP133 rN133 rO133 rI133 rS133 rC133 rK133 rL133 rW133 rX133 rY133 rU133 rV133 r0133 r1133 r2133 r3133 r4133 r5133 r9133

theorem rF332 : RuF 3 3 2 := by intro v u; kernel_rfl
theorem rG332 : RuG 3 3 2 := by intro v u; kernel_rfl
theorem rZ332 : RuZ 3 3 2 := by intro v u; kernel_rfl
theorem rP332 : RuP 3 3 2 := by intro v u; kernel_rfl
theorem rN332 : RuN 3 3 2 := by intro v u; kernel_rfl
theorem rO332 : RuO 3 3 2 := by unfold RuO; kernel_rfl
theorem rI332 : RuI 3 3 2 := by unfold RuI; kernel_rfl
theorem rS332 : RuS 3 3 2 := by intro v u; kernel_rfl
theorem rC332 : RuC 3 3 2 := by intro v u w; kernel_rfl
theorem rK332 : RuK 3 3 2 := by intro v u w; kernel_rfl
theorem rL332 : RuL 3 3 2 := by intro v u; kernel_rfl
theorem rW332 : RuW 3 3 2 := by unfold RuW; kernel_rfl
theorem rX332 : RuX 3 3 2 := by intro v u; kernel_rfl
theorem rY332 : RuY 3 3 2 := by intro v u; kernel_rfl
theorem rU332 : RuU 3 3 2 := by unfold RuU; kernel_rfl
theorem rV332 : RuV 3 3 2 := by intro v; kernel_rfl
theorem r0332 : RuT 3 3 2 0 := by intro v x y z s l; kernel_rfl
theorem r1332 : RuT 3 3 2 1 := by intro v x y z s l; kernel_rfl
theorem r2332 : RuT 3 3 2 2 := by intro v x y z s l; kernel_rfl
theorem r3332 : RuT 3 3 2 3 := by intro v x y z s l; kernel_rfl
theorem r4332 : RuT 3 3 2 4 := by intro v x y z s l; kernel_rfl
theorem r5332 : RuT 3 3 2 5 := by intro v x y z s l; kernel_rfl
theorem r9332 : RuQ 3 3 2 := by intro v x y z s l; kernel_rfl
theorem all332 : AllOK 3 3 2 := all_of rF332 rG332 rZ332 rP332 rN332 rO332 rI332 rS332 rC332 rK332 rL332 rW332 rX332 rY332 rU332 rV332 r0332 r1332 r2332 r3332 r4332 r5332 r9332

theorem rF411 : RuF 4 1 1 := by intro v u; kernel_rfl
theorem rG411 : RuG 4 1 1 := by intro v u; kernel_rfl
theorem rZ411 : RuZ 4 1 1 := by intro v u; kernel_rfl
theorem rP411 : RuP 4 1 1 := by intro v u; kernel_rfl
theorem rN411 : RuN 4 1 1 := by intro v u; kernel_rfl
theorem rO411 : RuO 4 1 1 := by unfold RuO; kernel_rfl
theorem rI411 : RuI 4 1 1 := by unfold RuI; kernel_rfl
theorem rS411 : RuS 4 1 1 := by intro v u; kernel_rfl
theorem rC411 : RuC 4 1 1 := by intro v u w; kernel_rfl
theorem rK411 : RuK 4 1 1 := by intro v u w; kernel_rfl
theorem rL411 : RuL 4 1 1 := by intro v u; kernel_rfl
theorem rW411 : RuW 4 1 1 := by unfold RuW; kernel_rfl
theorem rX411 : RuX 4 1 1 := by intro v u; kernel_rfl
theorem rY411 : RuY 4 1 1 := by intro v u; kernel_rfl
theorem rU411 : RuU 4 1 1 := by unfold RuU; kernel_rfl
theorem rV411 : RuV 4 1 1 := by intro v; kernel_rfl
theorem r0411 : RuT 4 1 1 0 := by intro v x y z s l; kernel_rfl
theorem r1411 : RuT 4 1 1 1 := by intro v x y z s l; kernel_rfl
theorem r2411 : RuT 4 1 1 2 := by intro v x y z s l; kernel_rfl
theorem r3411 : RuT 4 1 1 3 := by intro v x y z s l; kernel_rfl
theorem r4411 : RuT 4 1 1 4 := by intro v x y z s l; kernel_rfl
theorem r5411 : RuT 4 1 1 5 := by intro v x y z s l; kernel_rfl
theorem r9411 : RuQ 4 1 1 := by intro v x y z s l; kernel_rfl
theorem all411 : AllOK 4 1 1 := all_of rF411 rG411 rZ411 rP411 rN411 rO411 rI411 rS411 rC411 rK411 rL411 rW411 rX411 rY411 rU411 rV411 r0411 r1411 r2411 r3411 r4411 r5411 r9411

theorem rF421 : RuF 4 2 1 := by intro v u; kernel_rfl
theorem rG421 : RuG 4 2 1 := by intro v u; kernel_rfl
theorem rZ421 : RuZ 4 2 1 := by intro v u; kernel_rfl
theorem rP421 : RuP 4 2 1 := by intro v u; kernel_rfl
theorem rN421 : RuN 4 2 1 := by intro v u; kernel_rfl
theorem rO421 : RuO 4 2 1 := by unfold RuO; kernel_rfl
theorem rI421 : RuI 4 2 1 := by unfold RuI; kernel_rfl
theorem rS421 : RuS 4 2 1 := by intro v u; kernel_rfl
theorem rC421 : RuC 4 2 1 := by intro v u w; kernel_rfl
theorem rK421 : RuK 4 2 1 := by intro v u w; kernel_rfl
theorem rL421 : RuL 4 2 1 := by intro v u; kernel_rfl
theorem rW421 : RuW 4 2 1 := by unfold RuW; kernel_rfl
theorem rX421 : RuX 4 2 1 := by intro v u; kernel_rfl
theorem rY421 : RuY 4 2 1 := by intro v u; kernel_rfl
theorem rU421 : RuU 4 2 1 := by unfold RuU; kernel_rfl
theorem rV421 : RuV 4 2 1 := by intro v; kernel_rfl
theorem r0421 : RuT 4 2 1 0 := by intro v x y z s l; kernel_rfl
theorem r1421 : RuT 4 2 1 1 := by intro v x y z s l; kernel_rfl
theorem r2421 : RuT 4 2 1 2 := by intro v x y z s l; kernel_rfl
theorem r3421 : RuT 4 2 1 3 := by intro v x y z s l; kernel_rfl
theorem r4421 : RuT 4 2 1 4 := by intro v x y z s l; kernel_rfl
theorem r5421 : RuT 4 2 1 5 := by intro v x y z s l; kernel_rfl
theorem r9421 : RuQ 4 2 1 := by intro v x y z s l; kernel_rfl
theorem all421 : AllOK 4 2 1 := all_of rF421 rG421 rZ421 rP421 rN421 rO421 rI421 rS421 rC421 rK421 rL421 rW421 rX421 rY421 rU421 rV421 r0421 r1421 r2421 r3421 r4421 r5421 r9421

theorem rF441 : RuF 4 4 1 := by intro v u; kernel_rfl
theorem rG441 : RuG 4 4 1 := by intro v u; kernel_rfl
theorem rZ441 : RuZ 4 4 1 := by intro v u; kernel_rfl
theorem rP441 : RuP 4 4 1 := by intro v u; kernel_rfl
theorem rN441 : RuN 4 4 1 := by intro v u; kernel_rfl
theorem rO441 : RuO 4 4 1 := by unfold RuO; kernel_rfl
theorem rI441 : RuI 4 4 1 := by unfold RuI; kernel_rfl
theorem rS441 : RuS 4 4 1 := by intro v u; kernel_rfl
theorem rC441 : RuC 4 4 1 := by intro v u w; kernel_rfl
theorem rK441 : RuK 4 4 1 := by intro v u w; kernel_rfl
theorem rL441 : RuL 4 4 1 := by intro v u; kernel_rfl
theorem rW441 : RuW 4 4 1 := by unfold RuW; kernel_rfl
theorem rX441 : RuX 4 4 1 := by intro v u; kernel_rfl
theorem rY441 : RuY 4 4 1 := by intro v u; kernel_rfl
theorem rU441 : RuU 4 4 1 := by unfold RuU; kernel_rfl
theorem rV441 : RuV 4 4 1 := by intro v; kernel_rfl
theorem r0441 : RuT 4 4 1 0 := by intro v x y z s l; kernel_rfl
theorem r1441 : RuT 4 4 1 1 := by intro v x y z s l; kernel_rfl
theorem r2441 : RuT 4 4 1 2 := by intro v x y z s l; kernel_rfl
theorem r3441 : RuT 4 4 1 3 := by intro v x y z s l; kernel_rfl
theorem r4441 : RuT 4 4 1 4 := by intro v x y z s l; kernel_rfl
theorem r5441 : RuT 4 4 1 5 := by intro v x y z s l; kernel_rfl
theorem r9441 : RuQ 4 4 1 := by intro v x y z s l; kernel_rfl
theorem all441 : AllOK 4 4 1 := all_of rF441 rG441 rZ441 rP441 rN441 rO441 rI441 rS441 rC441 rK441 rL441 rW441 rX441 rY441 rU441 rV441 r0441 r1441 r2441 r3441 r4441 r5441 r9441

end Go.Sv.C
