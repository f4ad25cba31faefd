/-
  All runs of some shapes, printed by a program of ours. No conditions.
-/
import Derived.Test.YtepeiijjldpcpaaGreatSvYp
namespace Go.Sv.C
open Go.Sv

theorem rF223 : RuF 2 2 3 := by intro v u; kernel_rfl
theorem rG223 : RuG 2 2 3 := by intro v u; kernel_rfl
theorem rZ223 : RuZ 2 2 3 := by intro v u; kernel_rfl
theorem rP223 : RuP 2 2 3 := by intro v u; kernel_rfl
theorem rN223 : RuN 2 2 3 := by intro v u; kernel_rfl
theorem rO223 : RuO 2 2 3 := by unfold RuO; kernel_rfl
theorem rI223 : RuI 2 2 3 := by unfold RuI; kernel_rfl
theorem rS223 : RuS 2 2 3 := by intro v u; kernel_rfl
theorem rC223 : RuC 2 2 3 := by intro v u w; kernel_rfl
theorem rK223 : RuK 2 2 3 := by intro v u w; kernel_rfl
theorem rL223 : RuL 2 2 3 := by intro v u; kernel_rfl
theorem rW223 : RuW 2 2 3 := by unfold RuW; kernel_rfl
theorem rX223 : RuX 2 2 3 := by intro v u; kernel_rfl
theorem rY223 : RuY 2 2 3 := by intro v u; kernel_rfl
theorem rU223 : RuU 2 2 3 := by unfold RuU; kernel_rfl
theorem rV223 : RuV 2 2 3 := by intro v; kernel_rfl
theorem r0223 : RuT 2 2 3 0 := by intro v x y z s l; kernel_rfl
theorem r1223 : RuT 2 2 3 1 := by intro v x y z s l; kernel_rfl
theorem r2223 : RuT 2 2 3 2 := by intro v x y z s l; kernel_rfl
theorem r3223 : RuT 2 2 3 3 := by intro v x y z s l; kernel_rfl
theorem r4223 : RuT 2 2 3 4 := by intro v x y z s l; kernel_rfl
theorem r5223 : RuT 2 2 3 5 := by intro v x y z s l; kernel_rfl
theorem r9223 : RuQ 2 2 3 := by intro v x y z s l; kernel_rfl
theorem all223 : AllOK 2 2 3 := all_of rF223 rG223 rZ223 rP223 rN223 rO223 rI223 rS223 rC223 rK223 rL223 rW223 rX223 rY223 rU223 rV223 r0223 r1223 r2223 r3223 r4223 r5223 r9223

theorem rF321 : RuF 3 2 1 := by intro v u; kernel_rfl
theorem rG321 : RuG 3 2 1 := by intro v u; kernel_rfl
theorem rZ321 : RuZ 3 2 1 := by intro v u; kernel_rfl
theorem rP321 : RuP 3 2 1 := by intro v u; kernel_rfl
theorem rN321 : RuN 3 2 1 := by intro v u; kernel_rfl
theorem rO321 : RuO 3 2 1 := by unfold RuO; kernel_rfl
theorem rI321 : RuI 3 2 1 := by unfold RuI; kernel_rfl
theorem rS321 : RuS 3 2 1 := by intro v u; kernel_rfl
theorem rC321 : RuC 3 2 1 := by intro v u w; kernel_rfl
theorem rK321 : RuK 3 2 1 := by intro v u w; kernel_rfl
theorem rL321 : RuL 3 2 1 := by intro v u; kernel_rfl
theorem rW321 : RuW 3 2 1 := by unfold RuW; kernel_rfl
theorem rX321 : RuX 3 2 1 := by intro v u; kernel_rfl
theorem rY321 : RuY 3 2 1 := by intro v u; kernel_rfl
theorem rU321 : RuU 3 2 1 := by unfold RuU; kernel_rfl
theorem rV321 : RuV 3 2 1 := by intro v; kernel_rfl
theorem r0321 : RuT 3 2 1 0 := by intro v x y z s l; kernel_rfl
theorem r1321 : RuT 3 2 1 1 := by intro v x y z s l; kernel_rfl
theorem r2321 : RuT 3 2 1 2 := by intro v x y z s l; kernel_rfl
theorem r3321 : RuT 3 2 1 3 := by intro v x y z s l; kernel_rfl
theorem r4321 : RuT 3 2 1 4 := by intro v x y z s l; kernel_rfl
theorem r5321 : RuT 3 2 1 5 := by intro v x y z s l; kernel_rfl
theorem r9321 : RuQ 3 2 1 := by intro v x y z s l; kernel_rfl
theorem all321 : AllOK 3 2 1 := all_of rF321 rG321 rZ321 rP321 rN321 rO321 rI321 rS321 rC321 rK321 rL321 rW321 rX321 rY321 rU321 rV321 r0321 r1321 r2321 r3321 r4321 r5321 r9321

theorem rF331 : RuF 3 3 1 := by intro v u; kernel_rfl
theorem rG331 : RuG 3 3 1 := by intro v u; kernel_rfl
theorem rZ331 : RuZ 3 3 1 := by intro v u; kernel_rfl
theorem rP331 : RuP 3 3 1 := by intro v u; kernel_rfl
theorem rN331 : RuN 3 3 1 := by intro v u; kernel_rfl
theorem rO331 : RuO 3 3 1 := by unfold RuO; kernel_rfl
theorem rI331 : RuI 3 3 1 := by unfold RuI; kernel_rfl
theorem rS331 : RuS 3 3 1 := by intro v u; kernel_rfl
theorem rC331 : RuC 3 3 1 := by intro v u w; kernel_rfl
theorem rK331 : RuK 3 3 1 := by intro v u w; kernel_rfl
theorem rL331 : RuL 3 3 1 := by intro v u; kernel_rfl
theorem rW331 : RuW 3 3 1 := by unfold RuW; kernel_rfl
theorem rX331 : RuX 3 3 1 := by intro v u; kernel_rfl
theorem rY331 : RuY 3 3 1 := by intro v u; kernel_rfl
theorem rU331 : RuU 3 3 1 := by unfold RuU; kernel_rfl
theorem rV331 : RuV 3 3 1 := by intro v; kernel_rfl
theorem r0331 : RuT 3 3 1 0 := by intro v x y z s l; kernel_rfl
theorem r1331 : RuT 3 3 1 1 := by intro v x y z s l; kernel_rfl
theorem r2331 : RuT 3 3 1 2 := by intro v x y z s l; kernel_rfl
theorem r3331 : RuT 3 3 1 3 := by intro v x y z s l; kernel_rfl
theorem r4331 : RuT 3 3 1 4 := by intro v x y z s l; kernel_rfl
theorem r5331 : RuT 3 3 1 5 := by intro v x y z s l; kernel_rfl
theorem r9331 : RuQ 3 3 1 := by intro v x y z s l; kernel_rfl
theorem all331 : AllOK 3 3 1 := all_of rF331 rG331 rZ331 rP331 rN331 rO331 rI331 rS331 rC331 rK331 rL331 rW331 rX331 rY331 rU331 rV331 r0331 r1331 r2331 r3331 r4331 r5331 r9331

theorem rF342 : RuF 3 4 2 := by intro v u; kernel_rfl
theorem rG342 : RuG 3 4 2 := by intro v u; kernel_rfl
theorem rZ342 : RuZ 3 4 2 := by intro v u; kernel_rfl
theorem rP342 : RuP 3 4 2 := by intro v u; kernel_rfl
theorem rN342 : RuN 3 4 2 := by intro v u; kernel_rfl
theorem rO342 : RuO 3 4 2 := by unfold RuO; kernel_rfl
theorem rI342 : RuI 3 4 2 := by unfold RuI; kernel_rfl
theorem rS342 : RuS 3 4 2 := by intro v u; kernel_rfl
theorem rC342 : RuC 3 4 2 := by intro v u w; kernel_rfl
theorem rK342 : RuK 3 4 2 := by intro v u w; kernel_rfl
theorem rL342 : RuL 3 4 2 := by intro v u; kernel_rfl
theorem rW342 : RuW 3 4 2 := by unfold RuW; kernel_rfl
theorem rX342 : RuX 3 4 2 := by intro v u; kernel_rfl
theorem rY342 : RuY 3 4 2 := by intro v u; kernel_rfl
theorem rU342 : RuU 3 4 2 := by unfold RuU; kernel_rfl
theorem rV342 : RuV 3 4 2 := by intro v; kernel_rfl
theorem r0342 : RuT 3 4 2 0 := by intro v x y z s l; kernel_rfl
theorem r1342 : RuT 3 4 2 1 := by intro v x y z s l; kernel_rfl
theorem r2342 : RuT 3 4 2 2 := by intro v x y z s l; kernel_rfl
theorem r3342 : RuT 3 4 2 3 := by intro v x y z s l; kernel_rfl
theorem r4342 : RuT 3 4 2 4 := by intro v x y z s l; kernel_rfl
theorem r5342 : RuT 3 4 2 5 := by intro v x y z s l; kernel_rfl
theorem r9342 : RuQ 3 4 2 := by intro v x y z s l; kernel_rfl
theorem all342 : AllOK 3 4 2 := all_of rF342 rG342 rZ342 rP342 rN342 rO342 rI342 rS342 rC342 rK342 rL342 rW342 rX342 rY342 rU342 rV342 r0342 r1342 r2342 r3342 r4342 r5342 r9342

end Go.Sv.C
