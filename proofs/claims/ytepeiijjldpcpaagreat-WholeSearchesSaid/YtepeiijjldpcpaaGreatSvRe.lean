/-
  All runs of some shapes, printed by a program of ours. No conditions.
-/
import Derived.Test.YtepeiijjldpcpaaGreatSvYp
namespace Go.Sv.C
open Go.Sv

theorem rF221 : RuF 2 2 1 := by intro v u; kernel_rfl
theorem rG221 : RuG 2 2 1 := by intro v u; kernel_rfl
theorem rZ221 : RuZ 2 2 1 := by intro v u; kernel_rfl
theorem rP221 : RuP 2 2 1 := by intro v u; kernel_rfl
theorem rN221 : RuN 2 2 1 := by intro v u; kernel_rfl
theorem rO221 : RuO 2 2 1 := by unfold RuO; kernel_rfl
theorem rI221 : RuI 2 2 1 := by unfold RuI; kernel_rfl
theorem rS221 : RuS 2 2 1 := by intro v u; kernel_rfl
theorem rC221 : RuC 2 2 1 := by intro v u w; kernel_rfl
theorem rK221 : RuK 2 2 1 := by intro v u w; kernel_rfl
theorem rL221 : RuL 2 2 1 := by intro v u; kernel_rfl
theorem rW221 : RuW 2 2 1 := by unfold RuW; kernel_rfl
theorem rX221 : RuX 2 2 1 := by intro v u; kernel_rfl
theorem rY221 : RuY 2 2 1 := by intro v u; kernel_rfl
theorem rU221 : RuU 2 2 1 := by unfold RuU; kernel_rfl
theorem rV221 : RuV 2 2 1 := by intro v; kernel_rfl
theorem r0221 : RuT 2 2 1 0 := by intro v x y z s l; kernel_rfl
theorem r1221 : RuT 2 2 1 1 := by intro v x y z s l; kernel_rfl
theorem r2221 : RuT 2 2 1 2 := by intro v x y z s l; kernel_rfl
theorem r3221 : RuT 2 2 1 3 := by intro v x y z s l; kernel_rfl
theorem r4221 : RuT 2 2 1 4 := by intro v x y z s l; kernel_rfl
theorem r5221 : RuT 2 2 1 5 := by intro v x y z s l; kernel_rfl
theorem r9221 : RuQ 2 2 1 := by intro v x y z s l; kernel_rfl
theorem all221 : AllOK 2 2 1 := all_of rF221 rG221 rZ221 rP221 rN221 rO221 rI221 rS221 rC221 rK221 rL221 rW221 rX221 rY221 rU221 rV221 r0221 r1221 r2221 r3221 r4221 r5221 r9221

theorem rF333 : RuF 3 3 3 := by intro v u; kernel_rfl
theorem rG333 : RuG 3 3 3 := by intro v u; kernel_rfl
theorem rZ333 : RuZ 3 3 3 := by intro v u; kernel_rfl
theorem rP333 : RuP 3 3 3 := by intro v u; kernel_rfl
theorem rN333 : RuN 3 3 3 := by intro v u; kernel_rfl
theorem rO333 : RuO 3 3 3 := by unfold RuO; kernel_rfl
theorem rI333 : RuI 3 3 3 := by unfold RuI; kernel_rfl
theorem rS333 : RuS 3 3 3 := by intro v u; kernel_rfl
theorem rC333 : RuC 3 3 3 := by intro v u w; kernel_rfl
theorem rK333 : RuK 3 3 3 := by intro v u w; kernel_rfl
theorem rL333 : RuL 3 3 3 := by intro v u; kernel_rfl
theorem rW333 : RuW 3 3 3 := by unfold RuW; kernel_rfl
theorem rX333 : RuX 3 3 3 := by intro v u; kernel_rfl
theorem rY333 : RuY 3 3 3 := by intro v u; kernel_rfl
theorem rU333 : RuU 3 3 3 := by unfold RuU; kernel_rfl
theorem rV333 : RuV 3 3 3 := by intro v; kernel_rfl
theorem r0333 : RuT 3 3 3 0 := by intro v x y z s l; kernel_rfl
theorem r1333 : RuT 3 3 3 1 := by intro v x y z s l; kernel_rfl
theorem r2333 : RuT 3 3 3 2 := by intro v x y z s l; kernel_rfl
theorem r3333 : RuT 3 3 3 3 := by intro v x y z s l; kernel_rfl
theorem r4333 : RuT 3 3 3 4 := by intro v x y z s l; kernel_rfl
theorem r5333 : RuT 3 3 3 5 := by intro v x y z s l; kernel_rfl
theorem r9333 : RuQ 3 3 3 := by intro v x y z s l; kernel_rfl
theorem all333 : AllOK 3 3 3 := all_of rF333 rG333 rZ333 rP333 rN333 rO333 rI333 rS333 rC333 rK333 rL333 rW333 rX333 rY333 rU333 rV333 r0333 r1333 r2333 r3333 r4333 r5333 r9333

theorem rF341 : RuF 3 4 1 := by intro v u; kernel_rfl
theorem rG341 : RuG 3 4 1 := by intro v u; kernel_rfl
theorem rZ341 : RuZ 3 4 1 := by intro v u; kernel_rfl
theorem rP341 : RuP 3 4 1 := by intro v u; kernel_rfl
theorem rN341 : RuN 3 4 1 := by intro v u; kernel_rfl
theorem rO341 : RuO 3 4 1 := by unfold RuO; kernel_rfl
theorem rI341 : RuI 3 4 1 := by unfold RuI; kernel_rfl
theorem rS341 : RuS 3 4 1 := by intro v u; kernel_rfl
theorem rC341 : RuC 3 4 1 := by intro v u w; kernel_rfl
theorem rK341 : RuK 3 4 1 := by intro v u w; kernel_rfl
theorem rL341 : RuL 3 4 1 := by intro v u; kernel_rfl
theorem rW341 : RuW 3 4 1 := by unfold RuW; kernel_rfl
theorem rX341 : RuX 3 4 1 := by intro v u; kernel_rfl
theorem rY341 : RuY 3 4 1 := by intro v u; kernel_rfl
theorem rU341 : RuU 3 4 1 := by unfold RuU; kernel_rfl
theorem rV341 : RuV 3 4 1 := by intro v; kernel_rfl
theorem r0341 : RuT 3 4 1 0 := by intro v x y z s l; kernel_rfl
theorem r1341 : RuT 3 4 1 1 := by intro v x y z s l; kernel_rfl
theorem r2341 : RuT 3 4 1 2 := by intro v x y z s l; kernel_rfl
theorem r3341 : RuT 3 4 1 3 := by intro v x y z s l; kernel_rfl
theorem r4341 : RuT 3 4 1 4 := by intro v x y z s l; kernel_rfl
theorem r5341 : RuT 3 4 1 5 := by intro v x y z s l; kernel_rfl
theorem r9341 : RuQ 3 4 1 := by intro v x y z s l; kernel_rfl
theorem all341 : AllOK 3 4 1 := all_of rF341 rG341 rZ341 rP341 rN341 rO341 rI341 rS341 rC341 rK341 rL341 rW341 rX341 rY341 rU341 rV341 r0341 r1341 r2341 r3341 r4341 r5341 r9341

theorem rF412 : RuF 4 1 2 := by intro v u; kernel_rfl
theorem rG412 : RuG 4 1 2 := by intro v u; kernel_rfl
theorem rZ412 : RuZ 4 1 2 := by intro v u; kernel_rfl
theorem rP412 : RuP 4 1 2 := by intro v u; kernel_rfl
theorem rN412 : RuN 4 1 2 := by intro v u; kernel_rfl
theorem rO412 : RuO 4 1 2 := by unfold RuO; kernel_rfl
theorem rI412 : RuI 4 1 2 := by unfold RuI; kernel_rfl
theorem rS412 : RuS 4 1 2 := by intro v u; kernel_rfl
theorem rC412 : RuC 4 1 2 := by intro v u w; kernel_rfl
theorem rK412 : RuK 4 1 2 := by intro v u w; kernel_rfl
theorem rL412 : RuL 4 1 2 := by intro v u; kernel_rfl
theorem rW412 : RuW 4 1 2 := by unfold RuW; kernel_rfl
theorem rX412 : RuX 4 1 2 := by intro v u; kernel_rfl
theorem rY412 : RuY 4 1 2 := by intro v u; kernel_rfl
theorem rU412 : RuU 4 1 2 := by unfold RuU; kernel_rfl
theorem rV412 : RuV 4 1 2 := by intro v; kernel_rfl
theorem r0412 : RuT 4 1 2 0 := by intro v x y z s l; kernel_rfl
theorem r1412 : RuT 4 1 2 1 := by intro v x y z s l; kernel_rfl
theorem r2412 : RuT 4 1 2 2 := by intro v x y z s l; kernel_rfl
theorem r3412 : RuT 4 1 2 3 := by intro v x y z s l; kernel_rfl
theorem r4412 : RuT 4 1 2 4 := by intro v x y z s l; kernel_rfl
theorem r5412 : RuT 4 1 2 5 := by intro v x y z s l; kernel_rfl
theorem r9412 : RuQ 4 1 2 := by intro v x y z s l; kernel_rfl
theorem all412 : AllOK 4 1 2 := all_of rF412 rG412 rZ412 rP412 rN412 rO412 rI412 rS412 rC412 rK412 rL412 rW412 rX412 rY412 rU412 rV412 r0412 r1412 r2412 r3412 r4412 r5412 r9412

end Go.Sv.C
