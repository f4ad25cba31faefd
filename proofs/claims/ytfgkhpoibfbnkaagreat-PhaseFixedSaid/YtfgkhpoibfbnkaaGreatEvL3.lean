/-
  The evaluator's code of functions, printed by a program of ours. No conditions.
-/
import Derived.Test.YtfgkhpoibfbnkaaGreatEvA
namespace Go.Proofs.YtfgkhpoibfbnkaaGreat
open Go.Ev

/-- facet/vec.Mul -/
def c123 : AFun := ⟨18, [(4, (some (some 9))), (5, none)],
 (.seq (.region [] [⟨0, (some 2), none, .box (.tmp 0), false, []⟩,
 ⟨1, (some 3), none, .box (.tmp 1), false, []⟩,
 ⟨2, (some 4), none, .alloc [(.int .i64 0), (.int .i64 0), (.int .i64 0), (.int .i64 0), (.int .i64 0), (.int .i64 0), (.int .i64 0), (.int .i64 0), (.int .i64 0)], false, []⟩,
 ⟨3, (some 5), none, .mov (.const (.v (.c (.int .i64 0)))), false, []⟩])
 (.seq (.seq (.region [] [⟨0, (some 6), none, .load (some 9) (.tmp 2), false, []⟩,
 ⟨1, (some 7), none, .call (.const (.v (.c (.fn 122 [])))) [(.tmp 6)], false, []⟩,
 ⟨2, (some 8), none, .bin .neq (.tmp 7) (.const (.v (.c (.int .i64 0)))), false, []⟩,
 ⟨3, (some 9), none, .mov (.tmp 8), false, []⟩,
 ⟨4, (some 10), (some (9, false)), .load (some 9) (.tmp 3), false, []⟩,
 ⟨5, (some 11), (some (9, false)), .call (.const (.v (.c (.fn 122 [])))) [(.tmp 10)], false, []⟩,
 ⟨6, (some 12), (some (9, false)), .bin .neq (.tmp 11) (.const (.v (.c (.int .i64 0)))), false, []⟩,
 ⟨7, (some 13), none, .pick (.tmp 9) (.const (.v (.c (.bool true)))) (.tmp 12), false, []⟩])
 (.cond (.tmp 13) (.seq (.region [] [⟨0, (some 14), none, .build [(.int .i64 0), (.int .i64 0), (.int .i64 0), (.int .i64 0), (.int .i64 0), (.int .i64 0), (.int .i64 0), (.int .i64 0), (.int .i64 0)] [], false, []⟩,
 ⟨1, none, none, .store 9 (.tmp 4) (.tmp 14), false, []⟩,
 ⟨2, (some 5), none, .mov (.const (.v (.c (.int .i64 4)))), false, []⟩])
 .ret)
 .skip))
 (.seq (.region [] [⟨0, (some 15), none, .load (some 9) (.tmp 2), false, []⟩,
 ⟨1, (some 16), none, .load (some 9) (.tmp 3), false, []⟩,
 ⟨2, (some 17), none, .call (.const (.v (.c (.fn 128 [])))) [(.tmp 15), (.tmp 16)], false, []⟩,
 ⟨3, none, none, .store 9 (.tmp 4) (.tmp 17), false, []⟩,
 ⟨4, (some 5), none, .mov (.const (.v (.c (.int .i64 0)))), false, []⟩])
 .ret)))⟩

/-- facet/frac.Add -/
def c124 : AFun := ⟨7, [(4, (some (some 3)))],
 (.seq (.region [] [⟨0, (some 2), none, .box (.tmp 0), false, []⟩,
 ⟨1, (some 3), none, .box (.tmp 1), false, []⟩,
 ⟨2, (some 4), none, .alloc [(.int .i64 0), (.int .i64 0), (.int .i64 0)], false, []⟩])
 (.seq (.region [] [⟨0, (some 5), none, .mkFn 130 [(.tmp 2), (.tmp 3)], false, []⟩,
 ⟨1, (some 6), none, .call (.const (.v (.c (.fn 129 [])))) [(.tmp 5)], false, []⟩,
 ⟨2, none, none, .store 3 (.tmp 4) (.tmp 6), false, []⟩])
 .ret))⟩

/-- facet/op.shift -/
def c125 : AFun := ⟨36, [(4, (some (some 3)))],
 (.seq (.region [] [⟨0, (some 2), none, .box (.tmp 0), false, []⟩,
 ⟨1, (some 3), none, .box (.tmp 1), false, []⟩,
 ⟨2, (some 4), none, .alloc [(.int .i64 0), (.int .i64 0), (.int .i64 0)], false, []⟩])
 (.seq (.region [] [⟨0, (some 5), none, .alloc [(.int .i64 0), (.int .i64 0), (.int .i64 0)], false, []⟩])
 (.seq (.seq (.region [] [⟨0, (some 10), none, .load (some 9) (.tmp 2), false, []⟩,
 ⟨1, (some 11), none, .mov (.const (.v (.c (.int .i64 0)))), false, []⟩])
 (.block 0 (.loop (.seq (.region [] [⟨0, (some 12), none, .bin .lss (.tmp 11) (.const (.v (.c (.int .i64 3)))), false, []⟩])
 (.seq (.cond (.tmp 12) .skip
 (.exit 0))
 (.seq (.block 1 (.seq (.region [] [⟨0, (some 13), none, .mov (.tmp 11), false, []⟩,
 ⟨1, (some 14), none, .index (some 3) 3 3 (.tmp 10) (.tmp 11), false, []⟩,
 ⟨2, (some 7), none, .alloc [(.int .i64 0), (.int .i64 0), (.int .i64 0)], false, []⟩,
 ⟨3, (some 6), none, .mov (.tmp 13), false, []⟩,
 ⟨4, none, none, .store 3 (.tmp 7) (.tmp 14), false, []⟩])
 (.seq (.region [] [⟨0, (some 15), none, .load (some 3) (.tmp 7), false, []⟩,
 ⟨1, (some 16), none, .mov (.const (.v (.c (.int .i64 0)))), false, []⟩])
 (.block 2 (.loop (.seq (.region [] [⟨0, (some 17), none, .bin .lss (.tmp 16) (.const (.v (.c (.int .i64 3)))), false, []⟩])
 (.seq (.cond (.tmp 17) .skip
 (.exit 2))
 (.seq (.block 3 (.seq (.region [] [⟨0, (some 18), none, .mov (.tmp 16), false, []⟩,
 ⟨1, (some 19), none, .index none 1 3 (.tmp 15) (.tmp 16), false, []⟩,
 ⟨2, (some 8), none, .mov (.tmp 18), false, []⟩,
 ⟨3, (some 9), none, .mov (.tmp 19), false, []⟩])
 (.region [] [⟨0, (some 20), none, .mov (.tmp 6), true, []⟩,
 ⟨1, (some 21), none, .mov (.tmp 6), true, []⟩,
 ⟨2, (some 22), none, .indexAddr 1 (some 3) (.tmp 5) (.tmp 21), true, []⟩,
 ⟨3, (some 23), none, .load none (.tmp 22), true, []⟩,
 ⟨4, (some 24), none, .mov (.tmp 9), true, []⟩,
 ⟨6, (some 26), none, .mov (.tmp 8), true, []⟩,
 ⟨7, (some 27), none, .indexAddr 1 (some 3) (.tmp 3) (.tmp 26), true, []⟩,
 ⟨8, (some 28), none, .load none (.tmp 27), true, []⟩,
 ⟨5, (some 25), none, .call (.const (.v (.c (.fn 132 [])))) [(.tmp 24)], false, [3, 8]⟩,
 ⟨9, (some 29), none, .bin .mul (.tmp 25) (.tmp 28), true, []⟩,
 ⟨10, (some 30), none, .bin .add (.tmp 23) (.tmp 29), true, []⟩,
 ⟨11, (some 31), none, .call (.const (.v (.c (.fn 132 [])))) [(.tmp 30)], false, []⟩,
 ⟨12, (some 32), none, .indexAddr 1 (some 3) (.tmp 5) (.tmp 20), true, []⟩,
 ⟨13, none, none, .store 1 (.tmp 32) (.tmp 31), false, []⟩])))
 (.region [] [⟨0, (some 33), none, .bin .add (.tmp 16) (.const (.v (.c (.int .i64 1)))), false, []⟩,
 ⟨1, (some 16), none, .mov (.tmp 33), false, []⟩])))))))))
 (.region [] [⟨0, (some 34), none, .bin .add (.tmp 11) (.const (.v (.c (.int .i64 1)))), false, []⟩,
 ⟨1, (some 11), none, .mov (.tmp 34), false, []⟩])))))))
 (.seq (.region [] [⟨0, (some 35), none, .load (some 3) (.tmp 5), false, []⟩,
 ⟨1, none, none, .store 3 (.tmp 4) (.tmp 35), false, []⟩])
 .ret))))⟩

/-- facet/vec.Det -/
def c126 : AFun := ⟨12, [(2, none), (3, none)],
 (.seq (.region [] [⟨0, (some 1), none, .box (.tmp 0), false, []⟩,
 ⟨1, (some 2), none, .mov (.const (.v (.c (.int .i64 0)))), false, []⟩,
 ⟨2, (some 3), none, .mov (.const (.v (.c (.int .i64 0)))), false, []⟩])
 (.seq (.seq (.region [] [⟨0, (some 5), none, .load (some 9) (.tmp 1), false, []⟩,
 ⟨1, (some 6), none, .call (.const (.v (.c (.fn 122 [])))) [(.tmp 5)], false, []⟩,
 ⟨2, (some 4), none, .mov (.tmp 6), false, []⟩])
 (.seq (.region [] [⟨0, (some 7), none, .mov (.tmp 4), false, []⟩,
 ⟨1, (some 8), none, .bin .neq (.tmp 7) (.const (.v (.c (.int .i64 0)))), false, []⟩])
 (.cond (.tmp 8) (.seq (.region [] [⟨0, (some 9), none, .mov (.tmp 4), false, []⟩,
 ⟨1, (some 2), none, .mov (.const (.v (.c (.int .i64 0)))), false, []⟩,
 ⟨2, (some 3), none, .mov (.tmp 9), false, []⟩])
 .ret)
 .skip)))
 (.seq (.region [] [⟨0, (some 10), none, .load (some 9) (.tmp 1), false, []⟩,
 ⟨1, (some 11), none, .call (.const (.v (.c (.fn 133 [])))) [(.tmp 10)], false, []⟩,
 ⟨2, (some 2), none, .mov (.tmp 11), false, []⟩,
 ⟨3, (some 3), none, .mov (.const (.v (.c (.int .i64 0)))), false, []⟩])
 .ret)))⟩

/-- facet/vec.beyond -/
def c127 : AFun := ⟨14, [(4, none)],
 (.seq (.region [] [⟨0, (some 4), none, .mov (.const (.v (.c (.bool false)))), false, []⟩])
 (.seq (.region [] [⟨0, (some 5), none, .mov (.tmp 0), false, []⟩,
 ⟨1, (some 6), none, .mov (.tmp 1), false, []⟩,
 ⟨2, (some 7), none, .un .neg (.tmp 6), false, []⟩,
 ⟨3, (some 8), none, .bin .lss (.tmp 5) (.tmp 7), false, []⟩,
 ⟨4, (some 9), none, .mov (.tmp 8), false, []⟩,
 ⟨5, (some 10), (some (9, false)), .mov (.tmp 0), false, []⟩,
 ⟨6, (some 11), (some (9, false)), .mov (.tmp 1), false, []⟩,
 ⟨7, (some 12), (some (9, false)), .bin .gtr (.tmp 10) (.tmp 11), false, []⟩,
 ⟨8, (some 13), none, .pick (.tmp 9) (.const (.v (.c (.bool true)))) (.tmp 12), false, []⟩,
 ⟨9, (some 4), none, .mov (.tmp 13), false, []⟩])
 .ret))⟩

/-- facet/vec.mul -/
def c128 : AFun := ⟨50, [(4, (some (some 9)))],
 (.seq (.region [] [⟨0, (some 2), none, .box (.tmp 0), false, []⟩,
 ⟨1, (some 3), none, .box (.tmp 1), false, []⟩,
 ⟨2, (some 4), none, .alloc [(.int .i64 0), (.int .i64 0), (.int .i64 0), (.int .i64 0), (.int .i64 0), (.int .i64 0), (.int .i64 0), (.int .i64 0), (.int .i64 0)], false, []⟩])
 (.seq (.region [] [⟨0, (some 5), none, .alloc [(.int .i64 0), (.int .i64 0), (.int .i64 0), (.int .i64 0), (.int .i64 0), (.int .i64 0), (.int .i64 0), (.int .i64 0), (.int .i64 0)], false, []⟩])
 (.seq (.seq (.region [] [⟨0, (some 8), none, .mov (.const (.v (.c (.int .i64 0)))), false, []⟩])
 (.block 0 (.loop (.seq (.region [] [⟨0, (some 9), none, .bin .lss (.tmp 8) (.const (.v (.c (.int .i64 3)))), false, []⟩])
 (.seq (.cond (.tmp 9) .skip
 (.exit 0))
 (.seq (.block 1 (.seq (.region [] [⟨0, (some 10), none, .mov (.tmp 8), false, []⟩,
 ⟨1, (some 6), none, .mov (.tmp 10), false, []⟩])
 (.seq (.region [] [⟨0, (some 11), none, .mov (.const (.v (.c (.int .i64 0)))), false, []⟩])
 (.block 2 (.loop (.seq (.region [] [⟨0, (some 12), none, .bin .lss (.tmp 11) (.const (.v (.c (.int .i64 3)))), false, []⟩])
 (.seq (.cond (.tmp 12) .skip
 (.exit 2))
 (.seq (.block 3 (.seq (.region [] [⟨0, (some 13), none, .mov (.tmp 11), false, []⟩,
 ⟨1, (some 7), none, .mov (.tmp 13), false, []⟩])
 (.region [] [⟨0, (some 14), none, .mov (.tmp 6), true, []⟩,
 ⟨1, (some 15), none, .mov (.tmp 7), true, []⟩,
 ⟨2, (some 16), none, .mov (.tmp 6), true, []⟩,
 ⟨3, (some 17), none, .indexAddr 3 (some 3) (.tmp 2) (.tmp 16), true, []⟩,
 ⟨4, (some 18), none, .indexAddr 1 (some 3) (.tmp 17) (.const (.v (.c (.int .i64 0)))), true, []⟩,
 ⟨5, (some 19), none, .load none (.tmp 18), true, []⟩,
 ⟨6, (some 20), none, .mov (.tmp 7), true, []⟩,
 ⟨7, (some 21), none, .indexAddr 3 (some 3) (.tmp 3) (.const (.v (.c (.int .i64 0)))), true, []⟩,
 ⟨8, (some 22), none, .indexAddr 1 (some 3) (.tmp 21) (.tmp 20), true, []⟩,
 ⟨9, (some 23), none, .load none (.tmp 22), true, []⟩,
 ⟨10, (some 24), none, .bin .mul (.tmp 19) (.tmp 23), true, []⟩,
 ⟨11, (some 25), none, .mov (.tmp 6), true, []⟩,
 ⟨12, (some 26), none, .indexAddr 3 (some 3) (.tmp 2) (.tmp 25), true, []⟩,
 ⟨13, (some 27), none, .indexAddr 1 (some 3) (.tmp 26) (.const (.v (.c (.int .i64 1)))), true, []⟩,
 ⟨14, (some 28), none, .load none (.tmp 27), true, []⟩,
 ⟨15, (some 29), none, .mov (.tmp 7), true, []⟩,
 ⟨16, (some 30), none, .indexAddr 3 (some 3) (.tmp 3) (.const (.v (.c (.int .i64 1)))), true, []⟩,
 ⟨17, (some 31), none, .indexAddr 1 (some 3) (.tmp 30) (.tmp 29), true, []⟩,
 ⟨18, (some 32), none, .load none (.tmp 31), true, []⟩,
 ⟨19, (some 33), none, .bin .mul (.tmp 28) (.tmp 32), true, []⟩,
 ⟨20, (some 34), none, .bin .add (.tmp 24) (.tmp 33), true, []⟩,
 ⟨21, (some 35), none, .mov (.tmp 6), true, []⟩,
 ⟨22, (some 36), none, .indexAddr 3 (some 3) (.tmp 2) (.tmp 35), true, []⟩,
 ⟨23, (some 37), none, .indexAddr 1 (some 3) (.tmp 36) (.const (.v (.c (.int .i64 2)))), true, []⟩,
 ⟨24, (some 38), none, .load none (.tmp 37), true, []⟩,
 ⟨25, (some 39), none, .mov (.tmp 7), true, []⟩,
 ⟨26, (some 40), none, .indexAddr 3 (some 3) (.tmp 3) (.const (.v (.c (.int .i64 2)))), true, []⟩,
 ⟨27, (some 41), none, .indexAddr 1 (some 3) (.tmp 40) (.tmp 39), true, []⟩,
 ⟨28, (some 42), none, .load none (.tmp 41), true, []⟩,
 ⟨29, (some 43), none, .bin .mul (.tmp 38) (.tmp 42), true, []⟩,
 ⟨30, (some 44), none, .bin .add (.tmp 34) (.tmp 43), true, []⟩,
 ⟨31, (some 45), none, .indexAddr 3 (some 3) (.tmp 5) (.tmp 14), true, []⟩,
 ⟨32, (some 46), none, .indexAddr 1 (some 3) (.tmp 45) (.tmp 15), true, []⟩,
 ⟨33, none, none, .store 1 (.tmp 46) (.tmp 44), false, []⟩])))
 (.region [] [⟨0, (some 47), none, .bin .add (.tmp 11) (.const (.v (.c (.int .i64 1)))), false, []⟩,
 ⟨1, (some 11), none, .mov (.tmp 47), false, []⟩])))))))))
 (.region [] [⟨0, (some 48), none, .bin .add (.tmp 8) (.const (.v (.c (.int .i64 1)))), false, []⟩,
 ⟨1, (some 8), none, .mov (.tmp 48), false, []⟩])))))))
 (.seq (.region [] [⟨0, (some 49), none, .load (some 9) (.tmp 5), false, []⟩,
 ⟨1, none, none, .store 9 (.tmp 4) (.tmp 49), false, []⟩])
 .ret))))⟩

/-- facet/frac.each -/
def c129 : AFun := ⟨10, [(2, (some (some 3)))],
 (.seq (.region [] [⟨0, (some 2), none, .alloc [(.int .i64 0), (.int .i64 0), (.int .i64 0)], false, []⟩])
 (.seq (.region [] [⟨0, (some 3), none, .mov (.tmp 0), false, []⟩,
 ⟨1, (some 4), none, .call (.tmp 3) [(.const (.v (.c (.int .i64 0))))], false, []⟩,
 ⟨2, (some 5), none, .mov (.tmp 0), false, []⟩,
 ⟨3, (some 6), none, .call (.tmp 5) [(.const (.v (.c (.int .i64 1))))], false, []⟩,
 ⟨4, (some 7), none, .mov (.tmp 0), false, []⟩,
 ⟨5, (some 8), none, .call (.tmp 7) [(.const (.v (.c (.int .i64 2))))], false, []⟩,
 ⟨6, (some 9), none, .build [(.int .i64 0), (.int .i64 0), (.int .i64 0)] [(0, 1, (.tmp 4)), (1, 1, (.tmp 6)), (2, 1, (.tmp 8))], false, []⟩,
 ⟨7, none, none, .store 3 (.tmp 2) (.tmp 9), false, []⟩])
 .ret))⟩

/-- facet/frac.Add$1 -/
def c130 : AFun := ⟨15, [(4, none)],
 (.seq (.region [] [⟨0, (some 4), none, .mov (.const (.v (.c (.int .i64 0)))), false, []⟩])
 (.seq (.region [] [⟨0, (some 5), none, .mov (.tmp 0), true, []⟩,
 ⟨1, (some 6), none, .indexAddr 1 (some 3) (.tmp 1) (.tmp 5), true, []⟩,
 ⟨2, (some 7), none, .load none (.tmp 6), true, []⟩,
 ⟨3, (some 8), none, .bin .rem (.tmp 7) (.const (.v (.c (.int .i64 24)))), true, []⟩,
 ⟨4, (some 9), none, .mov (.tmp 0), true, []⟩,
 ⟨5, (some 10), none, .indexAddr 1 (some 3) (.tmp 2) (.tmp 9), true, []⟩,
 ⟨6, (some 11), none, .load none (.tmp 10), true, []⟩,
 ⟨7, (some 12), none, .bin .rem (.tmp 11) (.const (.v (.c (.int .i64 24)))), true, []⟩,
 ⟨8, (some 13), none, .bin .add (.tmp 8) (.tmp 12), true, []⟩,
 ⟨9, (some 14), none, .call (.const (.v (.c (.fn 131 [])))) [(.tmp 13), (.const (.v (.c (.int .i64 24))))], false, []⟩,
 ⟨10, (some 4), none, .mov (.tmp 14), true, []⟩])
 .ret))⟩

/-- facet/frac.mod -/
def c131 : AFun := ⟨12, [(4, none)],
 (.seq (.region [] [⟨0, (some 4), none, .mov (.const (.v (.c (.int .i64 0)))), false, []⟩])
 (.seq (.region [] [⟨0, (some 5), none, .mov (.tmp 0), false, []⟩,
 ⟨1, (some 6), none, .mov (.tmp 1), false, []⟩,
 ⟨2, (some 7), none, .bin .rem (.tmp 5) (.tmp 6), false, []⟩,
 ⟨3, (some 8), none, .mov (.tmp 1), false, []⟩,
 ⟨4, (some 9), none, .bin .add (.tmp 7) (.tmp 8), false, []⟩,
 ⟨5, (some 10), none, .mov (.tmp 1), false, []⟩,
 ⟨6, (some 11), none, .bin .rem (.tmp 9) (.tmp 10), false, []⟩,
 ⟨7, (some 4), none, .mov (.tmp 11), false, []⟩])
 .ret))⟩

/-- facet/op.mod -/
def c132 : AFun := ⟨7, [(2, none)],
 (.seq (.region [] [⟨0, (some 2), none, .mov (.const (.v (.c (.int .i64 0)))), false, []⟩])
 (.seq (.region [] [⟨0, (some 3), none, .mov (.tmp 0), false, []⟩,
 ⟨1, (some 4), none, .bin .rem (.tmp 3) (.const (.v (.c (.int .i64 24)))), false, []⟩,
 ⟨2, (some 5), none, .bin .add (.tmp 4) (.const (.v (.c (.int .i64 24)))), false, []⟩,
 ⟨3, (some 6), none, .bin .rem (.tmp 5) (.const (.v (.c (.int .i64 24)))), false, []⟩,
 ⟨4, (some 2), none, .mov (.tmp 6), false, []⟩])
 .ret))⟩

/-- facet/vec.det -/
def c133 : AFun := ⟨23, [(2, none)],
 (.seq (.region [] [⟨0, (some 1), none, .box (.tmp 0), false, []⟩,
 ⟨1, (some 2), none, .mov (.const (.v (.c (.int .i64 0)))), false, []⟩])
 (.seq (.region [] [⟨0, (some 3), none, .indexAddr 3 (some 3) (.tmp 1) (.const (.v (.c (.int .i64 0)))), true, []⟩,
 ⟨1, (some 4), none, .indexAddr 1 (some 3) (.tmp 3) (.const (.v (.c (.int .i64 0)))), true, []⟩,
 ⟨2, (some 5), none, .load none (.tmp 4), true, []⟩,
 ⟨3, (some 6), none, .load (some 9) (.tmp 1), true, []⟩,
 ⟨6, (some 9), none, .indexAddr 3 (some 3) (.tmp 1) (.const (.v (.c (.int .i64 0)))), true, []⟩,
 ⟨7, (some 10), none, .indexAddr 1 (some 3) (.tmp 9) (.const (.v (.c (.int .i64 1)))), true, []⟩,
 ⟨8, (some 11), none, .load none (.tmp 10), true, []⟩,
 ⟨9, (some 12), none, .load (some 9) (.tmp 1), true, []⟩,
 ⟨13, (some 16), none, .indexAddr 3 (some 3) (.tmp 1) (.const (.v (.c (.int .i64 0)))), true, []⟩,
 ⟨14, (some 17), none, .indexAddr 1 (some 3) (.tmp 16) (.const (.v (.c (.int .i64 2)))), true, []⟩,
 ⟨15, (some 18), none, .load none (.tmp 17), true, []⟩,
 ⟨16, (some 19), none, .load (some 9) (.tmp 1), true, []⟩,
 ⟨4, (some 7), none, .call (.const (.v (.c (.fn 134 [])))) [(.tmp 6), (.const (.v (.c (.int .i64 0)))), (.const (.v (.c (.int .i64 0))))], false, [2, 8, 9, 15, 16]⟩,
 ⟨5, (some 8), none, .bin .mul (.tmp 5) (.tmp 7), true, []⟩,
 ⟨10, (some 13), none, .call (.const (.v (.c (.fn 134 [])))) [(.tmp 12), (.const (.v (.c (.int .i64 0)))), (.const (.v (.c (.int .i64 1))))], false, [2, 8, 15, 16]⟩,
 ⟨11, (some 14), none, .bin .mul (.tmp 11) (.tmp 13), true, []⟩,
 ⟨12, (some 15), none, .bin .add (.tmp 8) (.tmp 14), true, []⟩,
 ⟨17, (some 20), none, .call (.const (.v (.c (.fn 134 [])))) [(.tmp 19), (.const (.v (.c (.int .i64 0)))), (.const (.v (.c (.int .i64 2))))], false, [2, 8, 15]⟩,
 ⟨18, (some 21), none, .bin .mul (.tmp 18) (.tmp 20), true, []⟩,
 ⟨19, (some 22), none, .bin .add (.tmp 15) (.tmp 21), true, []⟩,
 ⟨20, (some 2), none, .mov (.tmp 22), true, []⟩])
 .ret))⟩

/-- facet/vec.cofactor -/
def c134 : AFun := ⟨46, [(6, none)],
 (.seq (.region [] [⟨0, (some 3), none, .box (.tmp 0), false, []⟩,
 ⟨1, (some 6), none, .mov (.const (.v (.c (.int .i64 0)))), false, []⟩])
 (.seq (.region [] [⟨0, (some 11), none, .mov (.tmp 1), false, []⟩,
 ⟨1, (some 12), none, .bin .add (.tmp 11) (.const (.v (.c (.int .i64 1)))), false, []⟩,
 ⟨2, (some 13), none, .bin .rem (.tmp 12) (.const (.v (.c (.int .i64 3)))), false, []⟩,
 ⟨3, (some 14), none, .mov (.tmp 1), false, []⟩,
 ⟨4, (some 15), none, .bin .add (.tmp 14) (.const (.v (.c (.int .i64 2)))), false, []⟩,
 ⟨5, (some 16), none, .bin .rem (.tmp 15) (.const (.v (.c (.int .i64 3)))), false, []⟩,
 ⟨6, (some 17), none, .mov (.tmp 2), false, []⟩,
 ⟨7, (some 18), none, .bin .add (.tmp 17) (.const (.v (.c (.int .i64 1)))), false, []⟩,
 ⟨8, (some 19), none, .bin .rem (.tmp 18) (.const (.v (.c (.int .i64 3)))), false, []⟩,
 ⟨9, (some 20), none, .mov (.tmp 2), false, []⟩,
 ⟨10, (some 21), none, .bin .add (.tmp 20) (.const (.v (.c (.int .i64 2)))), false, []⟩,
 ⟨11, (some 22), none, .bin .rem (.tmp 21) (.const (.v (.c (.int .i64 3)))), false, []⟩,
 ⟨12, (some 7), none, .mov (.tmp 13), false, []⟩,
 ⟨13, (some 8), none, .mov (.tmp 16), false, []⟩,
 ⟨14, (some 9), none, .mov (.tmp 19), false, []⟩,
 ⟨15, (some 10), none, .mov (.tmp 22), false, []⟩])
 (.seq (.region [] [⟨0, (some 23), none, .mov (.tmp 7), true, []⟩,
 ⟨1, (some 24), none, .mov (.tmp 9), true, []⟩,
 ⟨2, (some 25), none, .indexAddr 3 (some 3) (.tmp 3) (.tmp 23), true, []⟩,
 ⟨3, (some 26), none, .indexAddr 1 (some 3) (.tmp 25) (.tmp 24), true, []⟩,
 ⟨4, (some 27), none, .load none (.tmp 26), true, []⟩,
 ⟨5, (some 28), none, .mov (.tmp 8), true, []⟩,
 ⟨6, (some 29), none, .mov (.tmp 10), true, []⟩,
 ⟨7, (some 30), none, .indexAddr 3 (some 3) (.tmp 3) (.tmp 28), true, []⟩,
 ⟨8, (some 31), none, .indexAddr 1 (some 3) (.tmp 30) (.tmp 29), true, []⟩,
 ⟨9, (some 32), none, .load none (.tmp 31), true, []⟩,
 ⟨10, (some 33), none, .bin .mul (.tmp 27) (.tmp 32), true, []⟩,
 ⟨11, (some 34), none, .mov (.tmp 7), true, []⟩,
 ⟨12, (some 35), none, .mov (.tmp 10), true, []⟩,
 ⟨13, (some 36), none, .indexAddr 3 (some 3) (.tmp 3) (.tmp 34), true, []⟩,
 ⟨14, (some 37), none, .indexAddr 1 (some 3) (.tmp 36) (.tmp 35), true, []⟩,
 ⟨15, (some 38), none, .load none (.tmp 37), true, []⟩,
 ⟨16, (some 39), none, .mov (.tmp 8), true, []⟩,
 ⟨17, (some 40), none, .mov (.tmp 9), true, []⟩,
 ⟨18, (some 41), none, .indexAddr 3 (some 3) (.tmp 3) (.tmp 39), true, []⟩,
 ⟨19, (some 42), none, .indexAddr 1 (some 3) (.tmp 41) (.tmp 40), true, []⟩,
 ⟨20, (some 43), none, .load none (.tmp 42), true, []⟩,
 ⟨21, (some 44), none, .bin .mul (.tmp 38) (.tmp 43), true, []⟩,
 ⟨22, (some 45), none, .bin .sub (.tmp 33) (.tmp 44), true, []⟩,
 ⟨23, (some 6), none, .mov (.tmp 45), true, []⟩])
 .ret)))⟩

end Go.Proofs.YtfgkhpoibfbnkaaGreat
