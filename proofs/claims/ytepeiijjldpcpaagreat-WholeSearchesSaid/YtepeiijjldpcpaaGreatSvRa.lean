/-
  All runs of some shapes, printed by a program of ours. No conditions.
-/
import Derived.Test.YtepeiijjldpcpaaGreatSvYp
namespace Go.Sv.C
open Go.Sv

theorem rF443 : RuF 4 4 3 := by intro v u; kernel_rfl
theorem rG443 : RuG 4 4 3 := by intro v u; kernel_rfl
theorem rZ443 : RuZ 4 4 3 := by intro v u; kernel_rfl
theorem rP443 : RuP 4 4 3 := by intro v u; kernel_rfl
theorem rN443 : RuN 4 4 3 := by intro v u; kernel_rfl
theorem rO443 : RuO 4 4 3 := by unfold RuO; kernel_rfl
theorem rI443 : RuI 4 4 3 := by unfold RuI; kernel_rfl
theorem rS443 : RuS 4 4 3 := by intro v u; kernel_rfl
theorem rC443 : RuC 4 4 3 := by intro v u w; kernel_rfl
theorem rK443 : RuK 4 4 3 := by intro v u w; kernel_rfl
theorem rL443 : RuL 4 4 3 := by intro v u; kernel_rfl
theorem rW443 : RuW 4 4 3 := by unfold RuW; kernel_rfl
theorem rX443 : RuX 4 4 3 := by intro v u; kernel_rfl
theorem rY443 : RuY 4 4 3 := by intro v u; kernel_rfl
theorem rU443 : RuU 4 4 3 := by unfold RuU; kernel_rfl
theorem rV443 : RuV 4 4 3 := by intro v; kernel_rfl
theorem r0443 : RuT 4 4 3 0 := by intro v x y z s l; kernel_rfl
theorem r1443 : RuT 4 4 3 1 := by intro v x y z s l; kernel_rfl
theorem r2443 : RuT 4 4 3 2 := by intro v x y z s l; kernel_rfl
theorem r3443 : RuT 4 4 3 3 := by intro v x y z s l; kernel_rfl
theorem r4443 : RuT 4 4 3 4 := by intro v x y z s l; kernel_rfl
theorem r5443 : RuT 4 4 3 5 := by intro v x y z s l; kernel_rfl
theorem r9443 : RuQ 4 4 3 := by intro v x y z s l; kernel_rfl
theorem all443 : AllOK 4 4 3 := all_of rF443 rG443 rZ443 rP443 rN443 rO443 rI443 rS443 rC443 rK443 rL443 rW443 rX443 rY443 rU443 rV443 r0443 r1443 r2443 r3443 r4443 r5443 r9443

end Go.Sv.C
