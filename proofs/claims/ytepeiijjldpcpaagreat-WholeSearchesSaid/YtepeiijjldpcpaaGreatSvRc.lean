/-
  All runs of some shapes, printed by a program of ours. No conditions.
-/
import Derived.Test.YtepeiijjldpcpaaGreatSvYp
namespace Go.Sv.C
open Go.Sv

theorem rF131 : RuF 1 3 1 := by intro v u; kernel_rfl
theorem rG131 : RuG 1 3 1 := by intro v u; kernel_rfl
theorem rZ131 : RuZ 1 3 1 := by intro v u; kernel_rfl
theorem rP131 : RuP 1 3 1 := by intro v u; kernel_rfl
theorem rN131 : RuN 1 3 1 := by intro v u; kernel_rfl
theorem rO131 : RuO 1 3 1 := by unfold RuO; kernel_rfl
theorem rI131 : RuI 1 3 1 := by unfold RuI; kernel_rfl
theorem rS131 : RuS 1 3 1 := by intro v u; kernel_rfl
theorem rC131 : RuC 1 3 1 := by intro v u w; kernel_rfl
theorem rK131 : RuK 1 3 1 := by intro v u w; kernel_rfl
theorem rL131 : RuL 1 3 1 := by intro v u; kernel_rfl
theorem rW131 : RuW 1 3 1 := by unfold RuW; kernel_rfl
theorem rX131 : RuX 1 3 1 := by intro v u; kernel_rfl
theorem rY131 : RuY 1 3 1 := by intro v u; kernel_rfl
theorem rU131 : RuU 1 3 1 := by unfold RuU; kernel_rfl
theorem rV131 : RuV 1 3 1 := by intro v; kernel_rfl
theorem r0131 : RuT 1 3 1 0 := by intro v x y z s l; kernel_rfl
theorem r1131 : RuT 1 3 1 1 := by intro v x y z s l; kernel_rfl
theorem r2131 : RuT 1 3 1 2 := by intro v x y z s l; kernel_rfl
theorem r3131 : RuT 1 3 1 3 := by intro v x y z s l; kernel_rfl
theorem r4131 : RuT 1 3 1 4 := by intro v x y z s l; kernel_rfl
theorem r5131 : RuT 1 3 1 5 := by intro v x y z s l; kernel_rfl
theorem r9131 : RuQ 1 3 1 := by intro v x y z s l; kernel_rfl
theorem all131 : AllOK 1 3 1 := all_of rF131 rG131 rZ131 rP131 rN131 rO131 rI131 rS131 rC131 rK131 rL131 rW131 rX131 rY131 rU131 rV131 r0131 r1131 r2131 r3131 r4131 r5131 r9131

theorem rF141 : RuF 1 4 1 := by intro v u; kernel_rfl
theorem rG141 : RuG 1 4 1 := by intro v u; kernel_rfl
theorem rZ141 : RuZ 1 4 1 := by intro v u; kernel_rfl
theorem rP141 : RuP 1 4 1 := by intro v u; kernel_rfl
theorem rN141 : RuN 1 4 1 := by intro v u; kernel_rfl
theorem rO141 : RuO 1 4 1 := by unfold RuO; kernel_rfl
theorem rI141 : RuI 1 4 1 := by unfold RuI; kernel_rfl
theorem rS141 : RuS 1 4 1 := by intro v u; kernel_rfl
theorem rC141 : RuC 1 4 1 := by intro v u w; kernel_rfl
theorem rK141 : RuK 1 4 1 := by intro v u w; kernel_rfl
theorem rL141 : RuL 1 4 1 := by intro v u; kernel_rfl
theorem rW141 : RuW 1 4 1 := by unfold RuW; kernel_rfl
theorem rX141 : RuX 1 4 1 := by intro v u; kernel_rfl
theorem rY141 : RuY 1 4 1 := by intro v u; kernel_rfl
theorem rU141 : RuU 1 4 1 := by unfold RuU; kernel_rfl
theorem rV141 : RuV 1 4 1 := by intro v; kernel_rfl
theorem r0141 : RuT 1 4 1 0 := by intro v x y z s l; kernel_rfl
theorem r1141 : RuT 1 4 1 1 := by intro v x y z s l; kernel_rfl
theorem r2141 : RuT 1 4 1 2 := by intro v x y z s l; kernel_rfl
theorem r3141 : RuT 1 4 1 3 := by intro v x y z s l; kernel_rfl
theorem r4141 : RuT 1 4 1 4 := by intro v x y z s l; kernel_rfl
theorem r5141 : RuT 1 4 1 5 := by intro v x y z s l; kernel_rfl
theorem r9141 : RuQ 1 4 1 := by intro v x y z s l; kernel_rfl
theorem all141 : AllOK 1 4 1 := all_of rF141 rG141 rZ141 rP141 rN141 rO141 rI141 rS141 rC141 rK141 rL141 rW141 rX141 rY141 rU141 rV141 r0141 r1141 r2141 r3141 r4141 r5141 r9141

theorem rF433 : RuF 4 3 3 := by intro v u; kernel_rfl
theorem rG433 : RuG 4 3 3 := by intro v u; kernel_rfl
theorem rZ433 : RuZ 4 3 3 := by intro v u; kernel_rfl
theorem rP433 : RuP 4 3 3 := by intro v u; kernel_rfl
theorem rN433 : RuN 4 3 3 := by intro v u; kernel_rfl
theorem rO433 : RuO 4 3 3 := by unfold RuO; kernel_rfl
theorem rI433 : RuI 4 3 3 := by unfold RuI; kernel_rfl
theorem rS433 : RuS 4 3 3 := by intro v u; kernel_rfl
theorem rC433 : RuC 4 3 3 := by intro v u w; kernel_rfl
theorem rK433 : RuK 4 3 3 := by intro v u w; kernel_rfl
theorem rL433 : RuL 4 3 3 := by intro v u; kernel_rfl
theorem rW433 : RuW 4 3 3 := by unfold RuW; kernel_rfl
theorem rX433 : RuX 4 3 3 := by intro v u; kernel_rfl
theorem rY433 : RuY 4 3 3 := by intro v u; kernel_rfl
theorem rU433 : RuU 4 3 3 := by unfold RuU; kernel_rfl
theorem rV433 : RuV 4 3 3 := by intro v; kernel_rfl
theorem r0433 : RuT 4 3 3 0 := by intro v x y z s l; kernel_rfl
theorem r1433 : RuT 4 3 3 1 := by intro v x y z s l; kernel_rfl
theorem r2433 : RuT 4 3 3 2 := by intro v x y z s l; kernel_rfl
theorem r3433 : RuT 4 3 3 3 := by intro v x y z s l; kernel_rfl
theorem r4433 : RuT 4 3 3 4 := by intro v x y z s l; kernel_rfl
theorem r5433 : RuT 4 3 3 5 := by intro v x y z s l; kernel_rfl
theorem r9433 : RuQ 4 3 3 := by intro v x y z s l; kernel_rfl
theorem all433 : AllOK 4 3 3 := all_of rF433 rG433 rZ433 rP433 rN433 rO433 rI433 rS433 rC433 rK433 rL433 rW433 rX433 rY433 rU433 rV433 r0433 r1433 r2433 r3433 r4433 r5433 r9433

end Go.Sv.C
