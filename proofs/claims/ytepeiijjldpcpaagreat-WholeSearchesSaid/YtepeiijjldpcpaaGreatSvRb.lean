/-
  All runs of some shapes, printed by a program of ours. No conditions.
-/
import Derived.Test.YtepeiijjldpcpaaGreatSvYp
namespace Go.Sv.C
open Go.Sv

theorem rF113 : RuF 1 1 3 := by intro v u; kernel_rfl
theorem rG113 : RuG 1 1 3 := by intro v u; kernel_rfl
theorem rZ113 : RuZ 1 1 3 := by intro v u; kernel_rfl
theorem rP113 : RuP 1 1 3 := by intro v u; kernel_rfl
theorem rN113 : RuN 1 1 3 := by intro v u; kernel_rfl
theorem rO113 : RuO 1 1 3 := by unfold RuO; kernel_rfl
theorem rI113 : RuI 1 1 3 := by unfold RuI; kernel_rfl
theorem rS113 : RuS 1 1 3 := by intro v u; kernel_rfl
theorem rC113 : RuC 1 1 3 := by intro v u w; kernel_rfl
theorem rK113 : RuK 1 1 3 := by intro v u w; kernel_rfl
theorem rL113 : RuL 1 1 3 := by intro v u; kernel_rfl
theorem rW113 : RuW 1 1 3 := by unfold RuW; kernel_rfl
theorem rX113 : RuX 1 1 3 := by intro v u; kernel_rfl
theorem rY113 : RuY 1 1 3 := by intro v u; kernel_rfl
theorem rU113 : RuU 1 1 3 := by unfold RuU; kernel_rfl
theorem rV113 : RuV 1 1 3 := by intro v; kernel_rfl
theorem r0113 : RuT 1 1 3 0 := by intro v x y z s l; kernel_rfl
theorem r1113 : RuT 1 1 3 1 := by intro v x y z s l; kernel_rfl
theorem r2113 : RuT 1 1 3 2 := by intro v x y z s l; kernel_rfl
theorem r3113 : RuT 1 1 3 3 := by intro v x y z s l; kernel_rfl
theorem r4113 : RuT 1 1 3 4 := by intro v x y z s l; kernel_rfl
theorem r5113 : RuT 1 1 3 5 := by intro v x y z s l; kernel_rfl
theorem r9113 : RuQ 1 1 3 := by intro v x y z s l; kernel_rfl
theorem all113 : AllOK 1 1 3 := all_of rF113 rG113 rZ113 rP113 rN113 rO113 rI113 rS113 rC113 rK113 rL113 rW113 rX113 rY113 rU113 rV113 r0113 r1113 r2113 r3113 r4113 r5113 r9113

theorem rF122 : RuF 1 2 2 := by intro v u; kernel_rfl
theorem rG122 : RuG 1 2 2 := by intro v u; kernel_rfl
theorem rZ122 : RuZ 1 2 2 := by intro v u; kernel_rfl
theorem rP122 : RuP 1 2 2 := by intro v u; kernel_rfl
theorem rN122 : RuN 1 2 2 := by intro v u; kernel_rfl
theorem rO122 : RuO 1 2 2 := by unfold RuO; kernel_rfl
theorem rI122 : RuI 1 2 2 := by unfold RuI; kernel_rfl
theorem rS122 : RuS 1 2 2 := by intro v u; kernel_rfl
theorem rC122 : RuC 1 2 2 := by intro v u w; kernel_rfl
theorem rK122 : RuK 1 2 2 := by intro v u w; kernel_rfl
theorem rL122 : RuL 1 2 2 := by intro v u; kernel_rfl
theorem rW122 : RuW 1 2 2 := by unfold RuW; kernel_rfl
theorem rX122 : RuX 1 2 2 := by intro v u; kernel_rfl
theorem rY122 : RuY 1 2 2 := by intro v u; kernel_rfl
theorem rU122 : RuU 1 2 2 := by unfold RuU; kernel_rfl
theorem rV122 : RuV 1 2 2 := by intro v; kernel_rfl
theorem r0122 : RuT 1 2 2 0 := by intro v x y z s l; kernel_rfl
theorem r1122 : RuT 1 2 2 1 := by intro v x y z s l; kernel_rfl
theorem r2122 : RuT 1 2 2 2 := by intro v x y z s l; kernel_rfl
theorem r3122 : RuT 1 2 2 3 := by intro v x y z s l; kernel_rfl
theorem r4122 : RuT 1 2 2 4 := by intro v x y z s l; kernel_rfl
theorem r5122 : RuT 1 2 2 5 := by intro v x y z s l; kernel_rfl
theorem r9122 : RuQ 1 2 2 := by intro v x y z s l; kernel_rfl
theorem all122 : AllOK 1 2 2 := all_of rF122 rG122 rZ122 rP122 rN122 rO122 rI122 rS122 rC122 rK122 rL122 rW122 rX122 rY122 rU122 rV122 r0122 r1122 r2122 r3122 r4122 r5122 r9122

theorem rF343 : RuF 3 4 3 := by intro v u; kernel_rfl
theorem rG343 : RuG 3 4 3 := by intro v u; kernel_rfl
theorem rZ343 : RuZ 3 4 3 := by intro v u; kernel_rfl
theorem rP343 : RuP 3 4 3 := by intro v u; kernel_rfl
theorem rN343 : RuN 3 4 3 := by intro v u; kernel_rfl
theorem rO343 : RuO 3 4 3 := by unfold RuO; kernel_rfl
theorem rI343 : RuI 3 4 3 := by unfold RuI; kernel_rfl
theorem rS343 : RuS 3 4 3 := by intro v u; kernel_rfl
theorem rC343 : RuC 3 4 3 := by intro v u w; kernel_rfl
theorem rK343 : RuK 3 4 3 := by intro v u w; kernel_rfl
theorem rL343 : RuL 3 4 3 := by intro v u; kernel_rfl
theorem rW343 : RuW 3 4 3 := by unfold RuW; kernel_rfl
theorem rX343 : RuX 3 4 3 := by intro v u; kernel_rfl
theorem rY343 : RuY 3 4 3 := by intro v u; kernel_rfl
theorem rU343 : RuU 3 4 3 := by unfold RuU; kernel_rfl
theorem rV343 : RuV 3 4 3 := by intro v; kernel_rfl
theorem r0343 : RuT 3 4 3 0 := by intro v x y z s l; kernel_rfl
theorem r1343 : RuT 3 4 3 1 := by intro v x y z s l; kernel_rfl
theorem r2343 : RuT 3 4 3 2 := by intro v x y z s l; kernel_rfl
theorem r3343 : RuT 3 4 3 3 := by intro v x y z s l; kernel_rfl
theorem r4343 : RuT 3 4 3 4 := by intro v x y z s l; kernel_rfl
theorem r5343 : RuT 3 4 3 5 := by intro v x y z s l; kernel_rfl
theorem r9343 : RuQ 3 4 3 := by intro v x y z s l; kernel_rfl
theorem all343 : AllOK 3 4 3 := all_of rF343 rG343 rZ343 rP343 rN343 rO343 rI343 rS343 rC343 rK343 rL343 rW343 rX343 rY343 rU343 rV343 r0343 r1343 r2343 r3343 r4343 r5343 r9343

end Go.Sv.C
