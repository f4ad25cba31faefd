/-
  All runs of some shapes, printed by a program of ours. No conditions.
-/
import Derived.Test.YtepeiijjldpcpaaGreatSvYp
namespace Go.Sv.C
open Go.Sv

theorem rF121 : RuF 1 2 1 := by intro v u; kernel_rfl
theorem rG121 : RuG 1 2 1 := by intro v u; kernel_rfl
theorem rZ121 : RuZ 1 2 1 := by intro v u; kernel_rfl
theorem rP121 : RuP 1 2 1 := by intro v u; kernel_rfl
theorem rN121 : RuN 1 2 1 := by intro v u; kernel_rfl
theorem rO121 : RuO 1 2 1 := by unfold RuO; kernel_rfl
theorem rI121 : RuI 1 2 1 := by unfold RuI; kernel_rfl
theorem rS121 : RuS 1 2 1 := by intro v u; kernel_rfl
theorem rC121 : RuC 1 2 1 := by intro v u w; kernel_rfl
theorem rK121 : RuK 1 2 1 := by intro v u w; kernel_rfl
theorem rL121 : RuL 1 2 1 := by intro v u; kernel_rfl
theorem rW121 : RuW 1 2 1 := by unfold RuW; kernel_rfl
theorem rX121 : RuX 1 2 1 := by intro v u; kernel_rfl
theorem rY121 : RuY 1 2 1 := by intro v u; kernel_rfl
theorem rU121 : RuU 1 2 1 := by unfold RuU; kernel_rfl
theorem rV121 : RuV 1 2 1 := by intro v; kernel_rfl
theorem r0121 : RuT 1 2 1 0 := by intro v x y z s l; kernel_rfl
theorem r1121 : RuT 1 2 1 1 := by intro v x y z s l; kernel_rfl
theorem r2121 : RuT 1 2 1 2 := by intro v x y z s l; kernel_rfl
theorem r3121 : RuT 1 2 1 3 := by intro v x y z s l; kernel_rfl
theorem r4121 : RuT 1 2 1 4 := by intro v x y z s l; kernel_rfl
theorem r5121 : RuT 1 2 1 5 := by intro v x y z s l; kernel_rfl
theorem r9121 : RuQ 1 2 1 := by intro v x y z s l; kernel_rfl
theorem all121 : AllOK 1 2 1 := all_of rF121 rG121 rZ121 rP121 rN121 rO121 rI121 rS121 rC121 rK121 rL121 rW121 rX121 rY121 rU121 rV121 r0121 r1121 r2121 r3121 r4121 r5121 r9121

theorem rF132 : RuF 1 3 2 := by intro v u; kernel_rfl
theorem rG132 : RuG 1 3 2 := by intro v u; kernel_rfl
theorem rZ132 : RuZ 1 3 2 := by intro v u; kernel_rfl
theorem rP132 : RuP 1 3 2 := by intro v u; kernel_rfl
theorem rN132 : RuN 1 3 2 := by intro v u; kernel_rfl
theorem rO132 : RuO 1 3 2 := by unfold RuO; kernel_rfl
theorem rI132 : RuI 1 3 2 := by unfold RuI; kernel_rfl
theorem rS132 : RuS 1 3 2 := by intro v u; kernel_rfl
theorem rC132 : RuC 1 3 2 := by intro v u w; kernel_rfl
theorem rK132 : RuK 1 3 2 := by intro v u w; kernel_rfl
theorem rL132 : RuL 1 3 2 := by intro v u; kernel_rfl
theorem rW132 : RuW 1 3 2 := by unfold RuW; kernel_rfl
theorem rX132 : RuX 1 3 2 := by intro v u; kernel_rfl
theorem rY132 : RuY 1 3 2 := by intro v u; kernel_rfl
theorem rU132 : RuU 1 3 2 := by unfold RuU; kernel_rfl
theorem rV132 : RuV 1 3 2 := by intro v; kernel_rfl
theorem r0132 : RuT 1 3 2 0 := by intro v x y z s l; kernel_rfl
theorem r1132 : RuT 1 3 2 1 := by intro v x y z s l; kernel_rfl
theorem r2132 : RuT 1 3 2 2 := by intro v x y z s l; kernel_rfl
theorem r3132 : RuT 1 3 2 3 := by intro v x y z s l; kernel_rfl
theorem r4132 : RuT 1 3 2 4 := by intro v x y z s l; kernel_rfl
theorem r5132 : RuT 1 3 2 5 := by intro v x y z s l; kernel_rfl
theorem r9132 : RuQ 1 3 2 := by intro v x y z s l; kernel_rfl
theorem all132 : AllOK 1 3 2 := all_of rF132 rG132 rZ132 rP132 rN132 rO132 rI132 rS132 rC132 rK132 rL132 rW132 rX132 rY132 rU132 rV132 r0132 r1132 r2132 r3132 r4132 r5132 r9132

theorem rF222 : RuF 2 2 2 := by intro v u; kernel_rfl
theorem rG222 : RuG 2 2 2 := by intro v u; kernel_rfl
theorem rZ222 : RuZ 2 2 2 := by intro v u; kernel_rfl
theorem rP222 : RuP 2 2 2 := by intro v u; kernel_rfl
theorem rN222 : RuN 2 2 2 := by intro v u; kernel_rfl
theorem rO222 : RuO 2 2 2 := by unfold RuO; kernel_rfl
theorem rI222 : RuI 2 2 2 := by unfold RuI; kernel_rfl
theorem rS222 : RuS 2 2 2 := by intro v u; kernel_rfl
theorem rC222 : RuC 2 2 2 := by intro v u w; kernel_rfl
theorem rK222 : RuK 2 2 2 := by intro v u w; kernel_rfl
theorem rL222 : RuL 2 2 2 := by intro v u; kernel_rfl
theorem rW222 : RuW 2 2 2 := by unfold RuW; kernel_rfl
theorem rX222 : RuX 2 2 2 := by intro v u; kernel_rfl
theorem rY222 : RuY 2 2 2 := by intro v u; kernel_rfl
theorem rU222 : RuU 2 2 2 := by unfold RuU; kernel_rfl
theorem rV222 : RuV 2 2 2 := by intro v; kernel_rfl
theorem r0222 : RuT 2 2 2 0 := by intro v x y z s l; kernel_rfl
theorem r1222 : RuT 2 2 2 1 := by intro v x y z s l; kernel_rfl
theorem r2222 : RuT 2 2 2 2 := by intro v x y z s l; kernel_rfl
theorem r3222 : RuT 2 2 2 3 := by intro v x y z s l; kernel_rfl
theorem r4222 : RuT 2 2 2 4 := by intro v x y z s l; kernel_rfl
theorem r5222 : RuT 2 2 2 5 := by intro v x y z s l; kernel_rfl
theorem r9222 : RuQ 2 2 2 := by intro v x y z s l; kernel_rfl
theorem all222 : AllOK 2 2 2 := all_of rF222 rG222 rZ222 rP222 rN222 rO222 rI222 rS222 rC222 rK222 rL222 rW222 rX222 rY222 rU222 rV222 r0222 r1222 r2222 r3222 r4222 r5222 r9222

theorem rF322 : RuF 3 2 2 := by intro v u; kernel_rfl
theorem rG322 : RuG 3 2 2 := by intro v u; kernel_rfl
theorem rZ322 : RuZ 3 2 2 := by intro v u; kernel_rfl
theorem rP322 : RuP 3 2 2 := by intro v u; kernel_rfl
theorem rN322 : RuN 3 2 2 := by intro v u; kernel_rfl
theorem rO322 : RuO 3 2 2 := by unfold RuO; kernel_rfl
theorem rI322 : RuI 3 2 2 := by unfold RuI; kernel_rfl
theorem rS322 : RuS 3 2 2 := by intro v u; kernel_rfl
theorem rC322 : RuC 3 2 2 := by intro v u w; kernel_rfl
theorem rK322 : RuK 3 2 2 := by intro v u w; kernel_rfl
theorem rL322 : RuL 3 2 2 := by intro v u; kernel_rfl
theorem rW322 : RuW 3 2 2 := by unfold RuW; kernel_rfl
theorem rX322 : RuX 3 2 2 := by intro v u; kernel_rfl
theorem rY322 : RuY 3 2 2 := by intro v u; kernel_rfl
theorem rU322 : RuU 3 2 2 := by unfold RuU; kernel_rfl
theorem rV322 : RuV 3 2 2 := by intro v; kernel_rfl
theorem r0322 : RuT 3 2 2 0 := by intro v x y z s l; kernel_rfl
theorem r1322 : RuT 3 2 2 1 := by intro v x y z s l; kernel_rfl
theorem r2322 : RuT 3 2 2 2 := by intro v x y z s l; kernel_rfl
theorem r3322 : RuT 3 2 2 3 := by intro v x y z s l; kernel_rfl
theorem r4322 : RuT 3 2 2 4 := by intro v x y z s l; kernel_rfl
theorem r5322 : RuT 3 2 2 5 := by intro v x y z s l; kernel_rfl
theorem r9322 : RuQ 3 2 2 := by intro v x y z s l; kernel_rfl
theorem all322 : AllOK 3 2 2 := all_of rF322 rG322 rZ322 rP322 rN322 rO322 rI322 rS322 rC322 rK322 rL322 rW322 rX322 rY322 rU322 rV322 r0322 r1322 r2322 r3322 r4322 r5322 r9322

theorem rF432 : RuF 4 3 2 := by intro v u; kernel_rfl
theorem rG432 : RuG 4 3 2 := by intro v u; kernel_rfl
theorem rZ432 : RuZ 4 3 2 := by intro v u; kernel_rfl
theorem rP432 : RuP 4 3 2 := by intro v u; kernel_rfl
theorem rN432 : RuN 4 3 2 := by intro v u; kernel_rfl
theorem rO432 : RuO 4 3 2 := by unfold RuO; kernel_rfl
theorem rI432 : RuI 4 3 2 := by unfold RuI; kernel_rfl
theorem rS432 : RuS 4 3 2 := by intro v u; kernel_rfl
theorem rC432 : RuC 4 3 2 := by intro v u w; kernel_rfl
theorem rK432 : RuK 4 3 2 := by intro v u w; kernel_rfl
theorem rL432 : RuL 4 3 2 := by intro v u; kernel_rfl
theorem rW432 : RuW 4 3 2 := by unfold RuW; kernel_rfl
theorem rX432 : RuX 4 3 2 := by intro v u; kernel_rfl
theorem rY432 : RuY 4 3 2 := by intro v u; kernel_rfl
theorem rU432 : RuU 4 3 2 := by unfold RuU; kernel_rfl
theorem rV432 : RuV 4 3 2 := by intro v; kernel_rfl
theorem r0432 : RuT 4 3 2 0 := by intro v x y z s l; kernel_rfl
theorem r1432 : RuT 4 3 2 1 := by intro v x y z s l; kernel_rfl
theorem r2432 : RuT 4 3 2 2 := by intro v x y z s l; kernel_rfl
theorem r3432 : RuT 4 3 2 3 := by intro v x y z s l; kernel_rfl
theorem r4432 : RuT 4 3 2 4 := by intro v x y z s l; kernel_rfl
theorem r5432 : RuT 4 3 2 5 := by intro v x y z s l; kernel_rfl
theorem r9432 : RuQ 4 3 2 := by intro v x y z s l; kernel_rfl
theorem all432 : AllOK 4 3 2 := all_of rF432 rG432 rZ432 rP432 rN432 rO432 rI432 rS432 rC432 rK432 rL432 rW432 rX432 rY432 rU432 rV432 r0432 r1432 r2432 r3432 r4432 r5432 r9432

end Go.Sv.C
