/-
  All runs of some shapes, printed by a program of ours. No conditions.
-/
import Derived.Test.YtepeiijjldpcpaaGreatSvYp
namespace Go.Sv.C
open Go.Sv

theorem rF211 : RuF 2 1 1 := by intro v u; kernel_rfl
theorem rG211 : RuG 2 1 1 := by intro v u; kernel_rfl
theorem rZ211 : RuZ 2 1 1 := by intro v u; kernel_rfl
theorem rP211 : RuP 2 1 1 := by intro v u; kernel_rfl
theorem rN211 : RuN 2 1 1 := by intro v u; kernel_rfl
theorem rO211 : RuO 2 1 1 := by unfold RuO; kernel_rfl
theorem rI211 : RuI 2 1 1 := by unfold RuI; kernel_rfl
theorem rS211 : RuS 2 1 1 := by intro v u; kernel_rfl
theorem rC211 : RuC 2 1 1 := by intro v u w; kernel_rfl
theorem rK211 : RuK 2 1 1 := by intro v u w; kernel_rfl
theorem rL211 : RuL 2 1 1 := by intro v u; kernel_rfl
theorem rW211 : RuW 2 1 1 := by unfold RuW; kernel_rfl
theorem rX211 : RuX 2 1 1 := by intro v u; kernel_rfl
theorem rY211 : RuY 2 1 1 := by intro v u; kernel_rfl
theorem rU211 : RuU 2 1 1 := by unfold RuU; kernel_rfl
theorem rV211 : RuV 2 1 1 := by intro v; kernel_rfl
theorem r0211 : RuT 2 1 1 0 := by intro v x y z s l; kernel_rfl
theorem r1211 : RuT 2 1 1 1 := by intro v x y z s l; kernel_rfl
theorem r2211 : RuT 2 1 1 2 := by intro v x y z s l; kernel_rfl
theorem r3211 : RuT 2 1 1 3 := by intro v x y z s l; kernel_rfl
theorem r4211 : RuT 2 1 1 4 := by intro v x y z s l; kernel_rfl
theorem r5211 : RuT 2 1 1 5 := by intro v x y z s l; kernel_rfl
theorem r9211 : RuQ 2 1 1 := by intro v x y z s l; kernel_rfl
theorem all211 : AllOK 2 1 1 := all_of rF211 rG211 rZ211 rP211 rN211 rO211 rI211 rS211 rC211 rK211 rL211 rW211 rX211 rY211 rU211 rV211 r0211 r1211 r2211 r3211 r4211 r5211 r9211

theorem rF213 : RuF 2 1 3 := by intro v u; kernel_rfl
theorem rG213 : RuG 2 1 3 := by intro v u; kernel_rfl
theorem rZ213 : RuZ 2 1 3 := by intro v u; kernel_rfl
theorem rP213 : RuP 2 1 3 := by intro v u; kernel_rfl
theorem rN213 : RuN 2 1 3 := by intro v u; kernel_rfl
theorem rO213 : RuO 2 1 3 := by unfold RuO; kernel_rfl
theorem rI213 : RuI 2 1 3 := by unfold RuI; kernel_rfl
theorem rS213 : RuS 2 1 3 := by intro v u; kernel_rfl
theorem rC213 : RuC 2 1 3 := by intro v u w; kernel_rfl
theorem rK213 : RuK 2 1 3 := by intro v u w; kernel_rfl
theorem rL213 : RuL 2 1 3 := by intro v u; kernel_rfl
theorem rW213 : RuW 2 1 3 := by unfold RuW; kernel_rfl
theorem rX213 : RuX 2 1 3 := by intro v u; kernel_rfl
theorem rY213 : RuY 2 1 3 := by intro v u; kernel_rfl
theorem rU213 : RuU 2 1 3 := by unfold RuU; kernel_rfl
theorem rV213 : RuV 2 1 3 := by intro v; kernel_rfl
theorem r0213 : RuT 2 1 3 0 := by intro v x y z s l; kernel_rfl
theorem r1213 : RuT 2 1 3 1 := by intro v x y z s l; kernel_rfl
theorem r2213 : RuT 2 1 3 2 := by intro v x y z s l; kernel_rfl
theorem r3213 : RuT 2 1 3 3 := by intro v x y z s l; kernel_rfl
theorem r4213 : RuT 2 1 3 4 := by intro v x y z s l; kernel_rfl
theorem r5213 : RuT 2 1 3 5 := by intro v x y z s l; kernel_rfl
theorem r9213 : RuQ 2 1 3 := by intro v x y z s l; kernel_rfl
theorem all213 : AllOK 2 1 3 := all_of rF213 rG213 rZ213 rP213 rN213 rO213 rI213 rS213 rC213 rK213 rL213 rW213 rX213 rY213 rU213 rV213 r0213 r1213 r2213 r3213 r4213 r5213 r9213

theorem rF233 : RuF 2 3 3 := by intro v u; kernel_rfl
theorem rG233 : RuG 2 3 3 := by intro v u; kernel_rfl
theorem rZ233 : RuZ 2 3 3 := by intro v u; kernel_rfl
theorem rP233 : RuP 2 3 3 := by intro v u; kernel_rfl
theorem rN233 : RuN 2 3 3 := by intro v u; kernel_rfl
theorem rO233 : RuO 2 3 3 := by unfold RuO; kernel_rfl
theorem rI233 : RuI 2 3 3 := by unfold RuI; kernel_rfl
theorem rS233 : RuS 2 3 3 := by intro v u; kernel_rfl
theorem rC233 : RuC 2 3 3 := by intro v u w; kernel_rfl
theorem rK233 : RuK 2 3 3 := by intro v u w; kernel_rfl
theorem rL233 : RuL 2 3 3 := by intro v u; kernel_rfl
theorem rW233 : RuW 2 3 3 := by unfold RuW; kernel_rfl
theorem rX233 : RuX 2 3 3 := by intro v u; kernel_rfl
theorem rY233 : RuY 2 3 3 := by intro v u; kernel_rfl
theorem rU233 : RuU 2 3 3 := by unfold RuU; kernel_rfl
theorem rV233 : RuV 2 3 3 := by intro v; kernel_rfl
theorem r0233 : RuT 2 3 3 0 := by intro v x y z s l; kernel_rfl
theorem r1233 : RuT 2 3 3 1 := by intro v x y z s l; kernel_rfl
theorem r2233 : RuT 2 3 3 2 := by intro v x y z s l; kernel_rfl
theorem r3233 : RuT 2 3 3 3 := by intro v x y z s l; kernel_rfl
theorem r4233 : RuT 2 3 3 4 := by intro v x y z s l; kernel_rfl
theorem r5233 : RuT 2 3 3 5 := by intro v x y z s l; kernel_rfl
theorem r9233 : RuQ 2 3 3 := by intro v x y z s l; kernel_rfl
theorem all233 : AllOK 2 3 3 := all_of rF233 rG233 rZ233 rP233 rN233 rO233 rI233 rS233 rC233 rK233 rL233 rW233 rX233 rY233 rU233 rV233 r0233 r1233 r2233 r3233 r4233 r5233 r9233

theorem rF242 : RuF 2 4 2 := by intro v u; kernel_rfl
theorem rG242 : RuG 2 4 2 := by intro v u; kernel_rfl
theorem rZ242 : RuZ 2 4 2 := by intro v u; kernel_rfl
theorem rP242 : RuP 2 4 2 := by intro v u; kernel_rfl
theorem rN242 : RuN 2 4 2 := by intro v u; kernel_rfl
theorem rO242 : RuO 2 4 2 := by unfold RuO; kernel_rfl
theorem rI242 : RuI 2 4 2 := by unfold RuI; kernel_rfl
theorem rS242 : RuS 2 4 2 := by intro v u; kernel_rfl
theorem rC242 : RuC 2 4 2 := by intro v u w; kernel_rfl
theorem rK242 : RuK 2 4 2 := by intro v u w; kernel_rfl
theorem rL242 : RuL 2 4 2 := by intro v u; kernel_rfl
theorem rW242 : RuW 2 4 2 := by unfold RuW; kernel_rfl
theorem rX242 : RuX 2 4 2 := by intro v u; kernel_rfl
theorem rY242 : RuY 2 4 2 := by intro v u; kernel_rfl
theorem rU242 : RuU 2 4 2 := by unfold RuU; kernel_rfl
theorem rV242 : RuV 2 4 2 := by intro v; kernel_rfl
theorem r0242 : RuT 2 4 2 0 := by intro v x y z s l; kernel_rfl
theorem r1242 : RuT 2 4 2 1 := by intro v x y z s l; kernel_rfl
theorem r2242 : RuT 2 4 2 2 := by intro v x y z s l; kernel_rfl
theorem r3242 : RuT 2 4 2 3 := by intro v x y z s l; kernel_rfl
theorem r4242 : RuT 2 4 2 4 := by intro v x y z s l; kernel_rfl
theorem r5242 : RuT 2 4 2 5 := by intro v x y z s l; kernel_rfl
theorem r9242 : RuQ 2 4 2 := by intro v x y z s l; kernel_rfl
theorem all242 : AllOK 2 4 2 := all_of rF242 rG242 rZ242 rP242 rN242 rO242 rI242 rS242 rC242 rK242 rL242 rW242 rX242 rY242 rU242 rV242 r0242 r1242 r2242 r3242 r4242 r5242 r9242

theorem rF413 : RuF 4 1 3 := by intro v u; kernel_rfl
theorem rG413 : RuG 4 1 3 := by intro v u; kernel_rfl
theorem rZ413 : RuZ 4 1 3 := by intro v u; kernel_rfl
theorem rP413 : RuP 4 1 3 := by intro v u; kernel_rfl
theorem rN413 : RuN 4 1 3 := by intro v u; kernel_rfl
theorem rO413 : RuO 4 1 3 := by unfold RuO; kernel_rfl
theorem rI413 : RuI 4 1 3 := by unfold RuI; kernel_rfl
theorem rS413 : RuS 4 1 3 := by intro v u; kernel_rfl
theorem rC413 : RuC 4 1 3 := by intro v u w; kernel_rfl
theorem rK413 : RuK 4 1 3 := by intro v u w; kernel_rfl
theorem rL413 : RuL 4 1 3 := by intro v u; kernel_rfl
theorem rW413 : RuW 4 1 3 := by unfold RuW; kernel_rfl
theorem rX413 : RuX 4 1 3 := by intro v u; kernel_rfl
theorem rY413 : RuY 4 1 3 := by intro v u; kernel_rfl
theorem rU413 : RuU 4 1 3 := by unfold RuU; kernel_rfl
theorem rV413 : RuV 4 1 3 := by intro v; kernel_rfl
theorem r0413 : RuT 4 1 3 0 := by intro v x y z s l; kernel_rfl
theorem r1413 : RuT 4 1 3 1 := by intro v x y z s l; kernel_rfl
theorem r2413 : RuT 4 1 3 2 := by intro v x y z s l; kernel_rfl
theorem r3413 : RuT 4 1 3 3 := by intro v x y z s l; kernel_rfl
theorem r4413 : RuT 4 1 3 4 := by intro v x y z s l; kernel_rfl
theorem r5413 : RuT 4 1 3 5 := by intro v x y z s l; kernel_rfl
theorem r9413 : RuQ 4 1 3 := by intro v x y z s l; kernel_rfl
theorem all413 : AllOK 4 1 3 := all_of rF413 rG413 rZ413 rP413 rN413 rO413 rI413 rS413 rC413 rK413 rL413 rW413 rX413 rY413 rU413 rV413 r0413 r1413 r2413 r3413 r4413 r5413 r9413

end Go.Sv.C
