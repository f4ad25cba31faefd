/-
  All runs of some shapes, printed by a program of ours. No conditions.
-/
import Derived.Test.YtepeiijjldpcpaaGreatSvYp
namespace Go.Sv.C
open Go.Sv

theorem rF112 : RuF 1 1 2 := by intro v u; kernel_rfl
theorem rG112 : RuG 1 1 2 := by intro v u; kernel_rfl
theorem rZ112 : RuZ 1 1 2 := by intro v u; kernel_rfl
theorem rP112 : RuP 1 1 2 := by intro v u; kernel_rfl
theorem rN112 : RuN 1 1 2 := by intro v u; kernel_rfl
theorem rO112 : RuO 1 1 2 := by unfold RuO; kernel_rfl
theorem rI112 : RuI 1 1 2 := by unfold RuI; kernel_rfl
theorem rS112 : RuS 1 1 2 := by intro v u; kernel_rfl
theorem rC112 : RuC 1 1 2 := by intro v u w; kernel_rfl
theorem rK112 : RuK 1 1 2 := by intro v u w; kernel_rfl
theorem rL112 : RuL 1 1 2 := by intro v u; kernel_rfl
theorem rW112 : RuW 1 1 2 := by unfold RuW; kernel_rfl
theorem rX112 : RuX 1 1 2 := by intro v u; kernel_rfl
theorem rY112 : RuY 1 1 2 := by intro v u; kernel_rfl
theorem rU112 : RuU 1 1 2 := by unfold RuU; kernel_rfl
theorem rV112 : RuV 1 1 2 := by intro v; kernel_rfl
theorem r0112 : RuT 1 1 2 0 := by intro v x y z s l; kernel_rfl
theorem r1112 : RuT 1 1 2 1 := by intro v x y z s l; kernel_rfl
theorem r2112 : RuT 1 1 2 2 := by intro v x y z s l; kernel_rfl
theorem r3112 : RuT 1 1 2 3 := by intro v x y z s l; kernel_rfl
theorem r4112 : RuT 1 1 2 4 := by intro v x y z s l; kernel_rfl
theorem r5112 : RuT 1 1 2 5 := by intro v x y z s l; kernel_rfl
theorem r9112 : RuQ 1 1 2 := by intro v x y z s l; kernel_rfl
theorem all112 : AllOK 1 1 2 := all_of rF112 rG112 rZ112 rP112 rN112 rO112 rI112 rS112 rC112 rK112 rL112 rW112 rX112 rY112 rU112 rV112 r0112 r1112 r2112 r3112 r4112 r5112 r9112

theorem rF123 : RuF 1 2 3 := by intro v u; kernel_rfl
theorem rG123 : RuG 1 2 3 := by intro v u; kernel_rfl
theorem rZ123 : RuZ 1 2 3 := by intro v u; kernel_rfl
theorem rP123 : RuP 1 2 3 := by intro v u; kernel_rfl
theorem rN123 : RuN 1 2 3 := by intro v u; kernel_rfl
theorem rO123 : RuO 1 2 3 := by unfold RuO; kernel_rfl
theorem rI123 : RuI 1 2 3 := by unfold RuI; kernel_rfl
theorem rS123 : RuS 1 2 3 := by intro v u; kernel_rfl
theorem rC123 : RuC 1 2 3 := by intro v u w; kernel_rfl
theorem rK123 : RuK 1 2 3 := by intro v u w; kernel_rfl
theorem rL123 : RuL 1 2 3 := by intro v u; kernel_rfl
theorem rW123 : RuW 1 2 3 := by unfold RuW; kernel_rfl
theorem rX123 : RuX 1 2 3 := by intro v u; kernel_rfl
theorem rY123 : RuY 1 2 3 := by intro v u; kernel_rfl
theorem rU123 : RuU 1 2 3 := by unfold RuU; kernel_rfl
theorem rV123 : RuV 1 2 3 := by intro v; kernel_rfl
theorem r0123 : RuT 1 2 3 0 := by intro v x y z s l; kernel_rfl
theorem r1123 : RuT 1 2 3 1 := by intro v x y z s l; kernel_rfl
theorem r2123 : RuT 1 2 3 2 := by intro v x y z s l; kernel_rfl
theorem r3123 : RuT 1 2 3 3 := by intro v x y z s l; kernel_rfl
theorem r4123 : RuT 1 2 3 4 := by intro v x y z s l; kernel_rfl
theorem r5123 : RuT 1 2 3 5 := by intro v x y z s l; kernel_rfl
theorem r9123 : RuQ 1 2 3 := by intro v x y z s l; kernel_rfl
theorem all123 : AllOK 1 2 3 := all_of rF123 rG123 rZ123 rP123 rN123 rO123 rI123 rS123 rC123 rK123 rL123 rW123 rX123 rY123 rU123 rV123 r0123 r1123 r2123 r3123 r4123 r5123 r9123

theorem rF142 : RuF 1 4 2 := by intro v u; kernel_rfl
theorem rG142 : RuG 1 4 2 := by intro v u; kernel_rfl
theorem rZ142 : RuZ 1 4 2 := by intro v u; kernel_rfl
theorem rP142 : RuP 1 4 2 := by intro v u; kernel_rfl
theorem rN142 : RuN 1 4 2 := by intro v u; kernel_rfl
theorem rO142 : RuO 1 4 2 := by unfold RuO; kernel_rfl
theorem rI142 : RuI 1 4 2 := by unfold RuI; kernel_rfl
theorem rS142 : RuS 1 4 2 := by intro v u; kernel_rfl
theorem rC142 : RuC 1 4 2 := by intro v u w; kernel_rfl
theorem rK142 : RuK 1 4 2 := by intro v u w; kernel_rfl
theorem rL142 : RuL 1 4 2 := by intro v u; kernel_rfl
theorem rW142 : RuW 1 4 2 := by unfold RuW; kernel_rfl
theorem rX142 : RuX 1 4 2 := by intro v u; kernel_rfl
theorem rY142 : RuY 1 4 2 := by intro v u; kernel_rfl
theorem rU142 : RuU 1 4 2 := by unfold RuU; kernel_rfl
theorem rV142 : RuV 1 4 2 := by intro v; kernel_rfl
theorem r0142 : RuT 1 4 2 0 := by intro v x y z s l; kernel_rfl
theorem r1142 : RuT 1 4 2 1 := by intro v x y z s l; kernel_rfl
theorem r2142 : RuT 1 4 2 2 := by intro v x y z s l; kernel_rfl
theorem r3142 : RuT 1 4 2 3 := by intro v x y z s l; kernel_rfl
theorem r4142 : RuT 1 4 2 4 := by intro v x y z s l; kernel_rfl
theorem r5142 : RuT 1 4 2 5 := by intro v x y z s l; kernel_rfl
theorem r9142 : RuQ 1 4 2 := by intro v x y z s l; kernel_rfl
theorem all142 : AllOK 1 4 2 := all_of rF142 rG142 rZ142 rP142 rN142 rO142 rI142 rS142 rC142 rK142 rL142 rW142 rX142 rY142 rU142 rV142 r0142 r1142 r2142 r3142 r4142 r5142 r9142

theorem rF232 : RuF 2 3 2 := by intro v u; kernel_rfl
theorem rG232 : RuG 2 3 2 := by intro v u; kernel_rfl
theorem rZ232 : RuZ 2 3 2 := by intro v u; kernel_rfl
theorem rP232 : RuP 2 3 2 := by intro v u; kernel_rfl
theorem rN232 : RuN 2 3 2 := by intro v u; kernel_rfl
theorem rO232 : RuO 2 3 2 := by unfold RuO; kernel_rfl
theorem rI232 : RuI 2 3 2 := by unfold RuI; kernel_rfl
theorem rS232 : RuS 2 3 2 := by intro v u; kernel_rfl
theorem rC232 : RuC 2 3 2 := by intro v u w; kernel_rfl
theorem rK232 : RuK 2 3 2 := by intro v u w; kernel_rfl
theorem rL232 : RuL 2 3 2 := by intro v u; kernel_rfl
theorem rW232 : RuW 2 3 2 := by unfold RuW; kernel_rfl
theorem rX232 : RuX 2 3 2 := by intro v u; kernel_rfl
theorem rY232 : RuY 2 3 2 := by intro v u; kernel_rfl
theorem rU232 : RuU 2 3 2 := by unfold RuU; kernel_rfl
theorem rV232 : RuV 2 3 2 := by intro v; kernel_rfl
theorem r0232 : RuT 2 3 2 0 := by intro v x y z s l; kernel_rfl
theorem r1232 : RuT 2 3 2 1 := by intro v x y z s l; kernel_rfl
theorem r2232 : RuT 2 3 2 2 := by intro v x y z s l; kernel_rfl
theorem r3232 : RuT 2 3 2 3 := by intro v x y z s l; kernel_rfl
theorem r4232 : RuT 2 3 2 4 := by intro v x y z s l; kernel_rfl
theorem r5232 : RuT 2 3 2 5 := by intro v x y z s l; kernel_rfl
theorem r9232 : RuQ 2 3 2 := by intro v x y z s l; kernel_rfl
theorem all232 : AllOK 2 3 2 := all_of rF232 rG232 rZ232 rP232 rN232 rO232 rI232 rS232 rC232 rK232 rL232 rW232 rX232 rY232 rU232 rV232 r0232 r1232 r2232 r3232 r4232 r5232 r9232

theorem rF423 : RuF 4 2 3 := by intro v u; kernel_rfl
theorem rG423 : RuG 4 2 3 := by intro v u; kernel_rfl
theorem rZ423 : RuZ 4 2 3 := by intro v u; kernel_rfl
theorem rP423 : RuP 4 2 3 := by intro v u; kernel_rfl
theorem rN423 : RuN 4 2 3 := by intro v u; kernel_rfl
theorem rO423 : RuO 4 2 3 := by unfold RuO; kernel_rfl
theorem rI423 : RuI 4 2 3 := by unfold RuI; kernel_rfl
theorem rS423 : RuS 4 2 3 := by intro v u; kernel_rfl
theorem rC423 : RuC 4 2 3 := by intro v u w; kernel_rfl
theorem rK423 : RuK 4 2 3 := by intro v u w; kernel_rfl
theorem rL423 : RuL 4 2 3 := by intro v u; kernel_rfl
theorem rW423 : RuW 4 2 3 := by unfold RuW; kernel_rfl
theorem rX423 : RuX 4 2 3 := by intro v u; kernel_rfl
theorem rY423 : RuY 4 2 3 := by intro v u; kernel_rfl
theorem rU423 : RuU 4 2 3 := by unfold RuU; kernel_rfl
theorem rV423 : RuV 4 2 3 := by intro v; kernel_rfl
theorem r0423 : RuT 4 2 3 0 := by intro v x y z s l; kernel_rfl
theorem r1423 : RuT 4 2 3 1 := by intro v x y z s l; kernel_rfl
theorem r2423 : RuT 4 2 3 2 := by intro v x y z s l; kernel_rfl
theorem r3423 : RuT 4 2 3 3 := by intro v x y z s l; kernel_rfl
theorem r4423 : RuT 4 2 3 4 := by intro v x y z s l; kernel_rfl
theorem r5423 : RuT 4 2 3 5 := by intro v x y z s l; kernel_rfl
theorem r9423 : RuQ 4 2 3 := by intro v x y z s l; kernel_rfl
theorem all423 : AllOK 4 2 3 := all_of rF423 rG423 rZ423 rP423 rN423 rO423 rI423 rS423 rC423 rK423 rL423 rW423 rX423 rY423 rU423 rV423 r0423 r1423 r2423 r3423 r4423 r5423 r9423

end Go.Sv.C
