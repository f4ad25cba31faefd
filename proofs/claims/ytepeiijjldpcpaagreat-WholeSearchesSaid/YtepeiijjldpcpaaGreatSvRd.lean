/-
  All runs of some shapes, printed by a program of ours. No conditions.
-/
import Derived.Test.YtepeiijjldpcpaaGreatSvYp
namespace Go.Sv.C
open Go.Sv

theorem rF212 : RuF 2 1 2 := by intro v u; kernel_rfl
theorem rG212 : RuG 2 1 2 := by intro v u; kernel_rfl
theorem rZ212 : RuZ 2 1 2 := by intro v u; kernel_rfl
theorem rP212 : RuP 2 1 2 := by intro v u; kernel_rfl
theorem rN212 : RuN 2 1 2 := by intro v u; kernel_rfl
theorem rO212 : RuO 2 1 2 := by unfold RuO; kernel_rfl
theorem rI212 : RuI 2 1 2 := by unfold RuI; kernel_rfl
theorem rS212 : RuS 2 1 2 := by intro v u; kernel_rfl
theorem rC212 : RuC 2 1 2 := by intro v u w; kernel_rfl
theorem rK212 : RuK 2 1 2 := by intro v u w; kernel_rfl
theorem rL212 : RuL 2 1 2 := by intro v u; kernel_rfl
theorem rW212 : RuW 2 1 2 := by unfold RuW; kernel_rfl
theorem rX212 : RuX 2 1 2 := by intro v u; kernel_rfl
theorem rY212 : RuY 2 1 2 := by intro v u; kernel_rfl
theorem rU212 : RuU 2 1 2 := by unfold RuU; kernel_rfl
theorem rV212 : RuV 2 1 2 := by intro v; kernel_rfl
theorem r0212 : RuT 2 1 2 0 := by intro v x y z s l; kernel_rfl
theorem r1212 : RuT 2 1 2 1 := by intro v x y z s l; kernel_rfl
theorem r2212 : RuT 2 1 2 2 := by intro v x y z s l; kernel_rfl
theorem r3212 : RuT 2 1 2 3 := by intro v x y z s l; kernel_rfl
theorem r4212 : RuT 2 1 2 4 := by intro v x y z s l; kernel_rfl
theorem r5212 : RuT 2 1 2 5 := by intro v x y z s l; kernel_rfl
theorem r9212 : RuQ 2 1 2 := by intro v x y z s l; kernel_rfl
theorem all212 : AllOK 2 1 2 := all_of rF212 rG212 rZ212 rP212 rN212 rO212 rI212 rS212 rC212 rK212 rL212 rW212 rX212 rY212 rU212 rV212 r0212 r1212 r2212 r3212 r4212 r5212 r9212

theorem rF241 : RuF 2 4 1 := by intro v u; kernel_rfl
theorem rG241 : RuG 2 4 1 := by intro v u; kernel_rfl
theorem rZ241 : RuZ 2 4 1 := by intro v u; kernel_rfl
theorem rP241 : RuP 2 4 1 := by intro v u; kernel_rfl
theorem rN241 : RuN 2 4 1 := by intro v u; kernel_rfl
theorem rO241 : RuO 2 4 1 := by unfold RuO; kernel_rfl
theorem rI241 : RuI 2 4 1 := by unfold RuI; kernel_rfl
theorem rS241 : RuS 2 4 1 := by intro v u; kernel_rfl
theorem rC241 : RuC 2 4 1 := by intro v u w; kernel_rfl
theorem rK241 : RuK 2 4 1 := by intro v u w; kernel_rfl
theorem rL241 : RuL 2 4 1 := by intro v u; kernel_rfl
theorem rW241 : RuW 2 4 1 := by unfold RuW; kernel_rfl
theorem rX241 : RuX 2 4 1 := by intro v u; kernel_rfl
theorem rY241 : RuY 2 4 1 := by intro v u; kernel_rfl
theorem rU241 : RuU 2 4 1 := by unfold RuU; kernel_rfl
theorem rV241 : RuV 2 4 1 := by intro v; kernel_rfl
theorem r0241 : RuT 2 4 1 0 := by intro v x y z s l; kernel_rfl
theorem r1241 : RuT 2 4 1 1 := by intro v x y z s l; kernel_rfl
theorem r2241 : RuT 2 4 1 2 := by intro v x y z s l; kernel_rfl
theorem r3241 : RuT 2 4 1 3 := by intro v x y z s l; kernel_rfl
theorem r4241 : RuT 2 4 1 4 := by intro v x y z s l; kernel_rfl
theorem r5241 : RuT 2 4 1 5 := by intro v x y z s l; kernel_rfl
theorem r9241 : RuQ 2 4 1 := by intro v x y z s l; kernel_rfl
theorem all241 : AllOK 2 4 1 := all_of rF241 rG241 rZ241 rP241 rN241 rO241 rI241 rS241 rC241 rK241 rL241 rW241 rX241 rY241 rU241 rV241 r0241 r1241 r2241 r3241 r4241 r5241 r9241

theorem rF311 : RuF 3 1 1 := by intro v u; kernel_rfl
theorem rG311 : RuG 3 1 1 := by intro v u; kernel_rfl
theorem rZ311 : RuZ 3 1 1 := by intro v u; kernel_rfl
theorem rP311 : RuP 3 1 1 := by intro v u; kernel_rfl
theorem rN311 : RuN 3 1 1 := by intro v u; kernel_rfl
theorem rO311 : RuO 3 1 1 := by unfold RuO; kernel_rfl
theorem rI311 : RuI 3 1 1 := by unfold RuI; kernel_rfl
theorem rS311 : RuS 3 1 1 := by intro v u; kernel_rfl
theorem rC311 : RuC 3 1 1 := by intro v u w; kernel_rfl
theorem rK311 : RuK 3 1 1 := by intro v u w; kernel_rfl
theorem rL311 : RuL 3 1 1 := by intro v u; kernel_rfl
theorem rW311 : RuW 3 1 1 := by unfold RuW; kernel_rfl
theorem rX311 : RuX 3 1 1 := by intro v u; kernel_rfl
theorem rY311 : RuY 3 1 1 := by intro v u; kernel_rfl
theorem rU311 : RuU 3 1 1 := by unfold RuU; kernel_rfl
theorem rV311 : RuV 3 1 1 := by intro v; kernel_rfl
theorem r0311 : RuT 3 1 1 0 := by intro v x y z s l; kernel_rfl
theorem r1311 : RuT 3 1 1 1 := by intro v x y z s l; kernel_rfl
theorem r2311 : RuT 3 1 1 2 := by intro v x y z s l; kernel_rfl
theorem r3311 : RuT 3 1 1 3 := by intro v x y z s l; kernel_rfl
theorem r4311 : RuT 3 1 1 4 := by intro v x y z s l; kernel_rfl
theorem r5311 : RuT 3 1 1 5 := by intro v x y z s l; kernel_rfl
theorem r9311 : RuQ 3 1 1 := by intro v x y z s l; kernel_rfl
theorem all311 : AllOK 3 1 1 := all_of rF311 rG311 rZ311 rP311 rN311 rO311 rI311 rS311 rC311 rK311 rL311 rW311 rX311 rY311 rU311 rV311 r0311 r1311 r2311 r3311 r4311 r5311 r9311

theorem rF442 : RuF 4 4 2 := by intro v u; kernel_rfl
theorem rG442 : RuG 4 4 2 := by intro v u; kernel_rfl
theorem rZ442 : RuZ 4 4 2 := by intro v u; kernel_rfl
theorem rP442 : RuP 4 4 2 := by intro v u; kernel_rfl
theorem rN442 : RuN 4 4 2 := by intro v u; kernel_rfl
theorem rO442 : RuO 4 4 2 := by unfold RuO; kernel_rfl
theorem rI442 : RuI 4 4 2 := by unfold RuI; kernel_rfl
theorem rS442 : RuS 4 4 2 := by intro v u; kernel_rfl
theorem rC442 : RuC 4 4 2 := by intro v u w; kernel_rfl
theorem rK442 : RuK 4 4 2 := by intro v u w; kernel_rfl
theorem rL442 : RuL 4 4 2 := by intro v u; kernel_rfl
theorem rW442 : RuW 4 4 2 := by unfold RuW; kernel_rfl
theorem rX442 : RuX 4 4 2 := by intro v u; kernel_rfl
theorem rY442 : RuY 4 4 2 := by intro v u; kernel_rfl
theorem rU442 : RuU 4 4 2 := by unfold RuU; kernel_rfl
theorem rV442 : RuV 4 4 2 := by intro v; kernel_rfl
theorem r0442 : RuT 4 4 2 0 := by intro v x y z s l; kernel_rfl
theorem r1442 : RuT 4 4 2 1 := by intro v x y z s l; kernel_rfl
theorem r2442 : RuT 4 4 2 2 := by intro v x y z s l; kernel_rfl
theorem r3442 : RuT 4 4 2 3 := by intro v x y z s l; kernel_rfl
theorem r4442 : RuT 4 4 2 4 := by intro v x y z s l; kernel_rfl
theorem r5442 : RuT 4 4 2 5 := by intro v x y z s l; kernel_rfl
theorem r9442 : RuQ 4 4 2 := by intro v x y z s l; kernel_rfl
theorem all442 : AllOK 4 4 2 := all_of rF442 rG442 rZ442 rP442 rN442 rO442 rI442 rS442 rC442 rK442 rL442 rW442 rX442 rY442 rU442 rV442 r0442 r1442 r2442 r3442 r4442 r5442 r9442

end Go.Sv.C
