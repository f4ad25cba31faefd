/-
  The evaluator's code of functions, printed by a program of ours. No conditions.
-/
import Derived.Test.YtfgkhpoibfbnkaaGreatEvA
namespace Go.Proofs.YtfgkhpoibfbnkaaGreat
open Go.Ev

/-- slices.heapSortCmpFunc[facet/api.Wave] -/
def c83 : AFun := ⟨60, [],
 (.seq (.region [] [⟨0, (some 13), none, .mov (.tmp 1), false, []⟩,
 ⟨1, (some 8), none, .mov (.tmp 13), false, []⟩])
 (.seq (.region [] [⟨0, (some 9), none, .mov (.const (.v (.c (.int .i64 0)))), false, []⟩])
 (.seq (.region [] [⟨0, (some 14), none, .mov (.tmp 2), false, []⟩,
 ⟨1, (some 15), none, .mov (.tmp 1), false, []⟩,
 ⟨2, (some 16), none, .bin .sub (.tmp 14) (.tmp 15), false, []⟩,
 ⟨3, (some 10), none, .mov (.tmp 16), false, []⟩])
 (.seq (.seq (.region [] [⟨0, (some 17), none, .mov (.tmp 10), false, []⟩,
 ⟨1, (some 18), none, .bin .sub (.tmp 17) (.const (.v (.c (.int .i64 1)))), false, []⟩,
 ⟨2, (some 19), none, .bin .quo (.tmp 18) (.const (.v (.c (.int .i64 2)))), false, []⟩,
 ⟨3, (some 11), none, .mov (.tmp 19), false, []⟩])
 (.block 0 (.loop (.seq (.seq (.region [] [⟨0, (some 20), none, .mov (.tmp 11), false, []⟩,
 ⟨1, (some 21), none, .bin .geq (.tmp 20) (.const (.v (.c (.int .i64 0)))), false, []⟩])
 (.cond (.tmp 21) .skip
 (.exit 0)))
 (.seq (.block 1 (.region [] [⟨0, (some 24), none, .mov (.tmp 0), false, []⟩,
 ⟨1, (some 25), none, .mov (.tmp 11), false, []⟩,
 ⟨2, (some 26), none, .mov (.tmp 10), false, []⟩,
 ⟨3, (some 27), none, .mov (.tmp 8), false, []⟩,
 ⟨4, (some 28), none, .mov (.tmp 3), false, []⟩,
 ⟨5, (some 29), none, .call (.const (.v (.c (.fn 101 [])))) [(.tmp 24), (.tmp 25), (.tmp 26), (.tmp 27), (.tmp 28)], false, []⟩]))
 (.region [] [⟨0, (some 22), none, .mov (.tmp 11), false, []⟩,
 ⟨1, (some 23), none, .bin .sub (.tmp 22) (.const (.v (.c (.int .i64 1)))), false, []⟩,
 ⟨2, (some 11), none, .mov (.tmp 23), false, []⟩]))))))
 (.seq (.region [] [⟨0, (some 30), none, .mov (.tmp 10), false, []⟩,
 ⟨1, (some 31), none, .bin .sub (.tmp 30) (.const (.v (.c (.int .i64 1)))), false, []⟩,
 ⟨2, (some 12), none, .mov (.tmp 31), false, []⟩])
 (.block 2 (.loop (.seq (.seq (.region [] [⟨0, (some 32), none, .mov (.tmp 12), false, []⟩,
 ⟨1, (some 33), none, .bin .geq (.tmp 32) (.const (.v (.c (.int .i64 0)))), false, []⟩])
 (.cond (.tmp 33) .skip
 (.exit 2)))
 (.seq (.block 3 (.seq (.region [] [⟨0, (some 36), none, .mov (.tmp 0), true, []⟩,
 ⟨1, (some 37), none, .mov (.tmp 8), true, []⟩,
 ⟨2, (some 38), none, .mov (.tmp 0), true, []⟩,
 ⟨3, (some 39), none, .mov (.tmp 8), true, []⟩,
 ⟨4, (some 40), none, .mov (.tmp 12), true, []⟩,
 ⟨5, (some 41), none, .bin .add (.tmp 39) (.tmp 40), true, []⟩,
 ⟨6, (some 42), none, .mov (.tmp 0), true, []⟩,
 ⟨7, (some 43), none, .mov (.tmp 8), true, []⟩,
 ⟨8, (some 44), none, .mov (.tmp 12), true, []⟩,
 ⟨9, (some 45), none, .bin .add (.tmp 43) (.tmp 44), true, []⟩,
 ⟨10, (some 46), none, .indexAddr 4 none (.tmp 42) (.tmp 45), true, []⟩,
 ⟨11, (some 47), none, .load (some 4) (.tmp 46), true, []⟩,
 ⟨12, (some 48), none, .mov (.tmp 0), true, []⟩,
 ⟨13, (some 49), none, .mov (.tmp 8), true, []⟩,
 ⟨14, (some 50), none, .indexAddr 4 none (.tmp 48) (.tmp 49), true, []⟩,
 ⟨15, (some 51), none, .load (some 4) (.tmp 50), true, []⟩,
 ⟨16, (some 52), none, .indexAddr 4 none (.tmp 36) (.tmp 37), true, []⟩,
 ⟨17, none, none, .store 4 (.tmp 52) (.tmp 47), false, []⟩,
 ⟨18, (some 53), none, .indexAddr 4 none (.tmp 38) (.tmp 41), true, []⟩,
 ⟨19, none, none, .store 4 (.tmp 53) (.tmp 51), false, []⟩])
 (.region [] [⟨0, (some 54), none, .mov (.tmp 0), false, []⟩,
 ⟨1, (some 55), none, .mov (.tmp 9), false, []⟩,
 ⟨2, (some 56), none, .mov (.tmp 12), false, []⟩,
 ⟨3, (some 57), none, .mov (.tmp 8), false, []⟩,
 ⟨4, (some 58), none, .mov (.tmp 3), false, []⟩,
 ⟨5, (some 59), none, .call (.const (.v (.c (.fn 101 [])))) [(.tmp 54), (.tmp 55), (.tmp 56), (.tmp 57), (.tmp 58)], false, []⟩])))
 (.region [] [⟨0, (some 34), none, .mov (.tmp 12), false, []⟩,
 ⟨1, (some 35), none, .bin .sub (.tmp 34) (.const (.v (.c (.int .i64 1)))), false, []⟩,
 ⟨2, (some 12), none, .mov (.tmp 35), false, []⟩]))))))))))⟩

/-- slices.breakPatternsCmpFunc[facet/api.Wave] -/
def c84 : AFun := ⟨67, [],
 (.seq (.region [] [⟨0, (some 13), none, .mov (.tmp 2), false, []⟩,
 ⟨1, (some 14), none, .mov (.tmp 1), false, []⟩,
 ⟨2, (some 15), none, .bin .sub (.tmp 13) (.tmp 14), false, []⟩,
 ⟨3, (some 8), none, .mov (.tmp 15), false, []⟩])
 (.seq (.region [] [⟨0, (some 16), none, .mov (.tmp 8), false, []⟩,
 ⟨1, (some 17), none, .bin .geq (.tmp 16) (.const (.v (.c (.int .i64 8)))), false, []⟩])
 (.cond (.tmp 17) (.seq (.region [] [⟨0, (some 18), none, .mov (.tmp 8), false, []⟩,
 ⟨1, (some 19), none, .toInt .u64 (.tmp 18), false, []⟩,
 ⟨2, (some 9), none, .alloc [(.int .u64 0)], false, []⟩,
 ⟨3, none, none, .store 1 (.tmp 9) (.tmp 19), false, []⟩])
 (.seq (.region [] [⟨0, (some 20), none, .mov (.tmp 8), false, []⟩,
 ⟨1, (some 21), none, .call (.const (.v (.c (.fn 102 [])))) [(.tmp 20)], false, []⟩,
 ⟨2, (some 10), none, .mov (.tmp 21), false, []⟩])
 (.seq (.region [] [⟨0, (some 22), none, .mov (.tmp 1), false, []⟩,
 ⟨1, (some 23), none, .mov (.tmp 8), false, []⟩,
 ⟨2, (some 24), none, .bin .quo (.tmp 23) (.const (.v (.c (.int .i64 4)))), false, []⟩,
 ⟨3, (some 25), none, .bin .mul (.tmp 24) (.const (.v (.c (.int .i64 2)))), false, []⟩,
 ⟨4, (some 26), none, .bin .add (.tmp 22) (.tmp 25), false, []⟩,
 ⟨5, (some 27), none, .bin .sub (.tmp 26) (.const (.v (.c (.int .i64 1)))), false, []⟩,
 ⟨6, (some 11), none, .mov (.tmp 27), false, []⟩])
 (.block 0 (.loop (.seq (.seq (.region [] [⟨0, (some 28), none, .mov (.tmp 11), false, []⟩,
 ⟨1, (some 29), none, .mov (.tmp 1), false, []⟩,
 ⟨2, (some 30), none, .mov (.tmp 8), false, []⟩,
 ⟨3, (some 31), none, .bin .quo (.tmp 30) (.const (.v (.c (.int .i64 4)))), false, []⟩,
 ⟨4, (some 32), none, .bin .mul (.tmp 31) (.const (.v (.c (.int .i64 2)))), false, []⟩,
 ⟨5, (some 33), none, .bin .add (.tmp 29) (.tmp 32), false, []⟩,
 ⟨6, (some 34), none, .bin .add (.tmp 33) (.const (.v (.c (.int .i64 1)))), false, []⟩,
 ⟨7, (some 35), none, .bin .leq (.tmp 28) (.tmp 34), false, []⟩])
 (.cond (.tmp 35) .skip
 (.exit 0)))
 (.seq (.block 1 (.seq (.region [] [⟨0, (some 38), none, .call (.const (.v (.c (.fn 103 [])))) [(.tmp 9)], false, []⟩,
 ⟨1, (some 39), none, .mov (.tmp 10), false, []⟩,
 ⟨2, (some 40), none, .bin .sub (.tmp 39) (.const (.v (.c (.int .u64 1)))), false, []⟩,
 ⟨3, (some 41), none, .bin .and (.tmp 38) (.tmp 40), false, []⟩,
 ⟨4, (some 42), none, .toInt .i64 (.tmp 41), false, []⟩,
 ⟨5, (some 12), none, .mov (.tmp 42), false, []⟩])
 (.seq (.seq (.region [] [⟨0, (some 43), none, .mov (.tmp 12), false, []⟩,
 ⟨1, (some 44), none, .mov (.tmp 8), false, []⟩,
 ⟨2, (some 45), none, .bin .geq (.tmp 43) (.tmp 44), false, []⟩])
 (.cond (.tmp 45) (.region [] [⟨0, (some 46), none, .mov (.tmp 12), false, []⟩,
 ⟨1, (some 47), none, .mov (.tmp 8), false, []⟩,
 ⟨2, (some 48), none, .bin .sub (.tmp 46) (.tmp 47), false, []⟩,
 ⟨3, (some 12), none, .mov (.tmp 48), false, []⟩])
 .skip))
 (.region [] [⟨0, (some 49), none, .mov (.tmp 0), true, []⟩,
 ⟨1, (some 50), none, .mov (.tmp 11), true, []⟩,
 ⟨2, (some 51), none, .mov (.tmp 0), true, []⟩,
 ⟨3, (some 52), none, .mov (.tmp 1), true, []⟩,
 ⟨4, (some 53), none, .mov (.tmp 12), true, []⟩,
 ⟨5, (some 54), none, .bin .add (.tmp 52) (.tmp 53), true, []⟩,
 ⟨6, (some 55), none, .mov (.tmp 0), true, []⟩,
 ⟨7, (some 56), none, .mov (.tmp 1), true, []⟩,
 ⟨8, (some 57), none, .mov (.tmp 12), true, []⟩,
 ⟨9, (some 58), none, .bin .add (.tmp 56) (.tmp 57), true, []⟩,
 ⟨10, (some 59), none, .indexAddr 4 none (.tmp 55) (.tmp 58), true, []⟩,
 ⟨11, (some 60), none, .load (some 4) (.tmp 59), true, []⟩,
 ⟨12, (some 61), none, .mov (.tmp 0), true, []⟩,
 ⟨13, (some 62), none, .mov (.tmp 11), true, []⟩,
 ⟨14, (some 63), none, .indexAddr 4 none (.tmp 61) (.tmp 62), true, []⟩,
 ⟨15, (some 64), none, .load (some 4) (.tmp 63), true, []⟩,
 ⟨16, (some 65), none, .indexAddr 4 none (.tmp 49) (.tmp 50), true, []⟩,
 ⟨17, none, none, .store 4 (.tmp 65) (.tmp 60), false, []⟩,
 ⟨18, (some 66), none, .indexAddr 4 none (.tmp 51) (.tmp 54), true, []⟩,
 ⟨19, none, none, .store 4 (.tmp 66) (.tmp 64), false, []⟩]))))
 (.region [] [⟨0, (some 36), none, .mov (.tmp 11), false, []⟩,
 ⟨1, (some 37), none, .bin .add (.tmp 36) (.const (.v (.c (.int .i64 1)))), false, []⟩,
 ⟨2, (some 11), none, .mov (.tmp 37), false, []⟩]))))))))
 .skip)))⟩

/-- slices.choosePivotCmpFunc[facet/api.Wave] -/
def c85 : AFun := ⟨63, [(8, none), (9, none)],
 (.seq (.region [] [⟨0, (some 8), none, .mov (.const (.v (.c (.int .i64 0)))), false, []⟩,
 ⟨1, (some 9), none, .mov (.const (.v (.c (.int .i64 0)))), false, []⟩])
 (.seq (.region [] [⟨0, (some 15), none, .mov (.tmp 2), false, []⟩,
 ⟨1, (some 16), none, .mov (.tmp 1), false, []⟩,
 ⟨2, (some 17), none, .bin .sub (.tmp 15) (.tmp 16), false, []⟩,
 ⟨3, (some 10), none, .mov (.tmp 17), false, []⟩])
 (.seq (.region [] [⟨0, (some 11), none, .alloc [(.int .i64 0)], false, []⟩])
 (.seq (.region [] [⟨0, (some 18), none, .mov (.tmp 1), false, []⟩,
 ⟨1, (some 19), none, .mov (.tmp 10), false, []⟩,
 ⟨2, (some 20), none, .bin .quo (.tmp 19) (.const (.v (.c (.int .i64 4)))), false, []⟩,
 ⟨3, (some 21), none, .bin .mul (.tmp 20) (.const (.v (.c (.int .i64 1)))), false, []⟩,
 ⟨4, (some 22), none, .bin .add (.tmp 18) (.tmp 21), false, []⟩,
 ⟨5, (some 12), none, .mov (.tmp 22), false, []⟩])
 (.seq (.region [] [⟨0, (some 23), none, .mov (.tmp 1), false, []⟩,
 ⟨1, (some 24), none, .mov (.tmp 10), false, []⟩,
 ⟨2, (some 25), none, .bin .quo (.tmp 24) (.const (.v (.c (.int .i64 4)))), false, []⟩,
 ⟨3, (some 26), none, .bin .mul (.tmp 25) (.const (.v (.c (.int .i64 2)))), false, []⟩,
 ⟨4, (some 27), none, .bin .add (.tmp 23) (.tmp 26), false, []⟩,
 ⟨5, (some 13), none, .mov (.tmp 27), false, []⟩])
 (.seq (.region [] [⟨0, (some 28), none, .mov (.tmp 1), false, []⟩,
 ⟨1, (some 29), none, .mov (.tmp 10), false, []⟩,
 ⟨2, (some 30), none, .bin .quo (.tmp 29) (.const (.v (.c (.int .i64 4)))), false, []⟩,
 ⟨3, (some 31), none, .bin .mul (.tmp 30) (.const (.v (.c (.int .i64 3)))), false, []⟩,
 ⟨4, (some 32), none, .bin .add (.tmp 28) (.tmp 31), false, []⟩,
 ⟨5, (some 14), none, .mov (.tmp 32), false, []⟩])
 (.seq (.seq (.region [] [⟨0, (some 33), none, .mov (.tmp 10), false, []⟩,
 ⟨1, (some 34), none, .bin .geq (.tmp 33) (.const (.v (.c (.int .i64 8)))), false, []⟩])
 (.cond (.tmp 34) (.seq (.seq (.region [] [⟨0, (some 35), none, .mov (.tmp 10), false, []⟩,
 ⟨1, (some 36), none, .bin .geq (.tmp 35) (.const (.v (.c (.int .i64 50)))), false, []⟩])
 (.cond (.tmp 36) (.seq (.region [] [⟨0, (some 37), none, .mov (.tmp 0), false, []⟩,
 ⟨1, (some 38), none, .mov (.tmp 12), false, []⟩,
 ⟨2, (some 39), none, .mov (.tmp 3), false, []⟩,
 ⟨3, (some 40), none, .call (.const (.v (.c (.fn 104 [])))) [(.tmp 37), (.tmp 38), (.tmp 11), (.tmp 39)], false, []⟩,
 ⟨4, (some 12), none, .mov (.tmp 40), false, []⟩])
 (.seq (.region [] [⟨0, (some 41), none, .mov (.tmp 0), false, []⟩,
 ⟨1, (some 42), none, .mov (.tmp 13), false, []⟩,
 ⟨2, (some 43), none, .mov (.tmp 3), false, []⟩,
 ⟨3, (some 44), none, .call (.const (.v (.c (.fn 104 [])))) [(.tmp 41), (.tmp 42), (.tmp 11), (.tmp 43)], false, []⟩,
 ⟨4, (some 13), none, .mov (.tmp 44), false, []⟩])
 (.region [] [⟨0, (some 45), none, .mov (.tmp 0), false, []⟩,
 ⟨1, (some 46), none, .mov (.tmp 14), false, []⟩,
 ⟨2, (some 47), none, .mov (.tmp 3), false, []⟩,
 ⟨3, (some 48), none, .call (.const (.v (.c (.fn 104 [])))) [(.tmp 45), (.tmp 46), (.tmp 11), (.tmp 47)], false, []⟩,
 ⟨4, (some 14), none, .mov (.tmp 48), false, []⟩])))
 .skip))
 (.region [] [⟨0, (some 49), none, .mov (.tmp 0), false, []⟩,
 ⟨1, (some 50), none, .mov (.tmp 12), false, []⟩,
 ⟨2, (some 51), none, .mov (.tmp 13), false, []⟩,
 ⟨3, (some 52), none, .mov (.tmp 14), false, []⟩,
 ⟨4, (some 53), none, .mov (.tmp 3), false, []⟩,
 ⟨5, (some 54), none, .call (.const (.v (.c (.fn 105 [])))) [(.tmp 49), (.tmp 50), (.tmp 51), (.tmp 52), (.tmp 11), (.tmp 53)], false, []⟩,
 ⟨6, (some 13), none, .mov (.tmp 54), false, []⟩]))
 .skip))
 (.seq (.region [] [⟨0, (some 55), none, .load none (.tmp 11), false, []⟩])
 (.block 0 (.seq (.region [] [⟨0, (some 58), none, .bin .eql (.tmp 55) (.const (.v (.c (.int .i64 0)))), false, []⟩,
 ⟨1, (some 57), none, .mov (.tmp 58), false, []⟩])
 (.cond (.tmp 57) (.seq (.region [] [⟨0, (some 59), none, .mov (.tmp 13), false, []⟩,
 ⟨1, (some 8), none, .mov (.tmp 59), false, []⟩,
 ⟨2, (some 9), none, .mov (.const (.v (.c (.int .i64 1)))), false, []⟩])
 .ret)
 (.seq (.region [] [⟨0, (some 61), none, .bin .eql (.tmp 55) (.const (.v (.c (.int .i64 12)))), false, []⟩,
 ⟨1, (some 60), none, .mov (.tmp 61), false, []⟩])
 (.cond (.tmp 60) (.seq (.region [] [⟨0, (some 62), none, .mov (.tmp 13), false, []⟩,
 ⟨1, (some 8), none, .mov (.tmp 62), false, []⟩,
 ⟨2, (some 9), none, .mov (.const (.v (.c (.int .i64 2)))), false, []⟩])
 .ret)
 (.seq (.region [] [⟨0, (some 56), none, .mov (.tmp 13), false, []⟩,
 ⟨1, (some 8), none, .mov (.tmp 56), false, []⟩,
 ⟨2, (some 9), none, .mov (.const (.v (.c (.int .i64 0)))), false, []⟩])
 .ret))))))))))))))⟩

/-- slices.reverseRangeCmpFunc[facet/api.Wave] -/
def c86 : AFun := ⟨34, [],
 (.seq (.region [] [⟨0, (some 10), none, .mov (.tmp 1), false, []⟩,
 ⟨1, (some 8), none, .mov (.tmp 10), false, []⟩])
 (.seq (.region [] [⟨0, (some 11), none, .mov (.tmp 2), false, []⟩,
 ⟨1, (some 12), none, .bin .sub (.tmp 11) (.const (.v (.c (.int .i64 1)))), false, []⟩,
 ⟨2, (some 9), none, .mov (.tmp 12), false, []⟩])
 (.block 0 (.loop (.seq (.seq (.region [] [⟨0, (some 13), none, .mov (.tmp 8), false, []⟩,
 ⟨1, (some 14), none, .mov (.tmp 9), false, []⟩,
 ⟨2, (some 15), none, .bin .lss (.tmp 13) (.tmp 14), false, []⟩])
 (.cond (.tmp 15) .skip
 (.exit 0)))
 (.block 1 (.seq (.region [] [⟨0, (some 16), none, .mov (.tmp 0), true, []⟩,
 ⟨1, (some 17), none, .mov (.tmp 8), true, []⟩,
 ⟨2, (some 18), none, .mov (.tmp 0), true, []⟩,
 ⟨3, (some 19), none, .mov (.tmp 9), true, []⟩,
 ⟨4, (some 20), none, .mov (.tmp 0), true, []⟩,
 ⟨5, (some 21), none, .mov (.tmp 9), true, []⟩,
 ⟨6, (some 22), none, .indexAddr 4 none (.tmp 20) (.tmp 21), true, []⟩,
 ⟨7, (some 23), none, .load (some 4) (.tmp 22), true, []⟩,
 ⟨8, (some 24), none, .mov (.tmp 0), true, []⟩,
 ⟨9, (some 25), none, .mov (.tmp 8), true, []⟩,
 ⟨10, (some 26), none, .indexAddr 4 none (.tmp 24) (.tmp 25), true, []⟩,
 ⟨11, (some 27), none, .load (some 4) (.tmp 26), true, []⟩,
 ⟨12, (some 28), none, .indexAddr 4 none (.tmp 16) (.tmp 17), true, []⟩,
 ⟨13, none, none, .store 4 (.tmp 28) (.tmp 23), false, []⟩,
 ⟨14, (some 29), none, .indexAddr 4 none (.tmp 18) (.tmp 19), true, []⟩,
 ⟨15, none, none, .store 4 (.tmp 29) (.tmp 27), false, []⟩])
 (.seq (.region [] [⟨0, (some 30), none, .mov (.tmp 8), false, []⟩,
 ⟨1, (some 31), none, .bin .add (.tmp 30) (.const (.v (.c (.int .i64 1)))), false, []⟩,
 ⟨2, (some 8), none, .mov (.tmp 31), false, []⟩])
 (.region [] [⟨0, (some 32), none, .mov (.tmp 9), false, []⟩,
 ⟨1, (some 33), none, .bin .sub (.tmp 32) (.const (.v (.c (.int .i64 1)))), false, []⟩,
 ⟨2, (some 9), none, .mov (.tmp 33), false, []⟩])))))))))⟩

/-- slices.partialInsertionSortCmpFunc[facet/api.Wave] -/
def c87 : AFun := ⟨141, [(8, none)],
 (.seq (.region [] [⟨0, (some 8), none, .mov (.const (.v (.c (.bool false)))), false, []⟩])
 (.seq (.region [] [⟨0, (some 13), none, .mov (.tmp 1), false, []⟩,
 ⟨1, (some 14), none, .bin .add (.tmp 13) (.const (.v (.c (.int .i64 1)))), false, []⟩,
 ⟨2, (some 9), none, .mov (.tmp 14), false, []⟩])
 (.seq (.seq (.region [] [⟨0, (some 10), none, .mov (.const (.v (.c (.int .i64 0)))), false, []⟩])
 (.block 0 (.loop (.seq (.seq (.region [] [⟨0, (some 15), none, .mov (.tmp 10), false, []⟩,
 ⟨1, (some 16), none, .bin .lss (.tmp 15) (.const (.v (.c (.int .i64 5)))), false, []⟩])
 (.cond (.tmp 16) .skip
 (.exit 0)))
 (.seq (.block 1 (.seq (.block 2 (.loop (.seq (.seq (.region [] [⟨0, (some 19), none, .mov (.tmp 9), true, []⟩,
 ⟨1, (some 20), none, .mov (.tmp 2), true, []⟩,
 ⟨2, (some 21), none, .bin .lss (.tmp 19) (.tmp 20), true, []⟩,
 ⟨3, (some 22), none, .mov (.tmp 21), true, []⟩,
 ⟨4, (some 23), (some (22, true)), .mov (.tmp 3), true, []⟩,
 ⟨5, (some 24), (some (22, true)), .mov (.tmp 0), true, []⟩,
 ⟨6, (some 25), (some (22, true)), .mov (.tmp 9), true, []⟩,
 ⟨7, (some 26), (some (22, true)), .indexAddr 4 none (.tmp 24) (.tmp 25), true, []⟩,
 ⟨8, (some 27), (some (22, true)), .load (some 4) (.tmp 26), true, []⟩,
 ⟨9, (some 28), (some (22, true)), .mov (.tmp 0), true, []⟩,
 ⟨10, (some 29), (some (22, true)), .mov (.tmp 9), true, []⟩,
 ⟨11, (some 30), (some (22, true)), .bin .sub (.tmp 29) (.const (.v (.c (.int .i64 1)))), true, []⟩,
 ⟨12, (some 31), (some (22, true)), .indexAddr 4 none (.tmp 28) (.tmp 30), true, []⟩,
 ⟨13, (some 32), (some (22, true)), .load (some 4) (.tmp 31), true, []⟩,
 ⟨14, (some 33), (some (22, true)), .call (.tmp 23) [(.tmp 27), (.tmp 32)], false, []⟩,
 ⟨15, (some 34), (some (22, true)), .bin .lss (.tmp 33) (.const (.v (.c (.int .i64 0)))), true, []⟩,
 ⟨16, (some 35), (some (22, true)), .un .not (.tmp 34), true, []⟩,
 ⟨17, (some 36), none, .pick (.tmp 22) (.tmp 35) (.const (.v (.c (.bool false)))), true, []⟩])
 (.cond (.tmp 36) .skip
 (.exit 2)))
 (.block 3 (.region [] [⟨0, (some 37), none, .mov (.tmp 9), false, []⟩,
 ⟨1, (some 38), none, .bin .add (.tmp 37) (.const (.v (.c (.int .i64 1)))), false, []⟩,
 ⟨2, (some 9), none, .mov (.tmp 38), false, []⟩])))))
 (.seq (.seq (.region [] [⟨0, (some 39), none, .mov (.tmp 9), false, []⟩,
 ⟨1, (some 40), none, .mov (.tmp 2), false, []⟩,
 ⟨2, (some 41), none, .bin .eql (.tmp 39) (.tmp 40), false, []⟩])
 (.cond (.tmp 41) (.seq (.region [] [⟨0, (some 8), none, .mov (.const (.v (.c (.bool true)))), false, []⟩])
 .ret)
 .skip))
 (.seq (.seq (.region [] [⟨0, (some 42), none, .mov (.tmp 2), false, []⟩,
 ⟨1, (some 43), none, .mov (.tmp 1), false, []⟩,
 ⟨2, (some 44), none, .bin .sub (.tmp 42) (.tmp 43), false, []⟩,
 ⟨3, (some 45), none, .bin .lss (.tmp 44) (.const (.v (.c (.int .i64 50)))), false, []⟩])
 (.cond (.tmp 45) (.seq (.region [] [⟨0, (some 8), none, .mov (.const (.v (.c (.bool false)))), false, []⟩])
 .ret)
 .skip))
 (.seq (.region [] [⟨0, (some 46), none, .mov (.tmp 0), true, []⟩,
 ⟨1, (some 47), none, .mov (.tmp 9), true, []⟩,
 ⟨2, (some 48), none, .mov (.tmp 0), true, []⟩,
 ⟨3, (some 49), none, .mov (.tmp 9), true, []⟩,
 ⟨4, (some 50), none, .bin .sub (.tmp 49) (.const (.v (.c (.int .i64 1)))), true, []⟩,
 ⟨5, (some 51), none, .mov (.tmp 0), true, []⟩,
 ⟨6, (some 52), none, .mov (.tmp 9), true, []⟩,
 ⟨7, (some 53), none, .bin .sub (.tmp 52) (.const (.v (.c (.int .i64 1)))), true, []⟩,
 ⟨8, (some 54), none, .indexAddr 4 none (.tmp 51) (.tmp 53), true, []⟩,
 ⟨9, (some 55), none, .load (some 4) (.tmp 54), true, []⟩,
 ⟨10, (some 56), none, .mov (.tmp 0), true, []⟩,
 ⟨11, (some 57), none, .mov (.tmp 9), true, []⟩,
 ⟨12, (some 58), none, .indexAddr 4 none (.tmp 56) (.tmp 57), true, []⟩,
 ⟨13, (some 59), none, .load (some 4) (.tmp 58), true, []⟩,
 ⟨14, (some 60), none, .indexAddr 4 none (.tmp 46) (.tmp 47), true, []⟩,
 ⟨15, none, none, .store 4 (.tmp 60) (.tmp 55), false, []⟩,
 ⟨16, (some 61), none, .indexAddr 4 none (.tmp 48) (.tmp 50), true, []⟩,
 ⟨17, none, none, .store 4 (.tmp 61) (.tmp 59), false, []⟩])
 (.seq (.seq (.region [] [⟨0, (some 62), none, .mov (.tmp 9), false, []⟩,
 ⟨1, (some 63), none, .mov (.tmp 1), false, []⟩,
 ⟨2, (some 64), none, .bin .sub (.tmp 62) (.tmp 63), false, []⟩,
 ⟨3, (some 65), none, .bin .geq (.tmp 64) (.const (.v (.c (.int .i64 2)))), false, []⟩])
 (.cond (.tmp 65) (.seq (.region [] [⟨0, (some 66), none, .mov (.tmp 9), false, []⟩,
 ⟨1, (some 67), none, .bin .sub (.tmp 66) (.const (.v (.c (.int .i64 1)))), false, []⟩,
 ⟨2, (some 11), none, .mov (.tmp 67), false, []⟩])
 (.block 4 (.loop (.seq (.seq (.region [] [⟨0, (some 68), none, .mov (.tmp 11), false, []⟩,
 ⟨1, (some 69), none, .bin .geq (.tmp 68) (.const (.v (.c (.int .i64 1)))), false, []⟩])
 (.cond (.tmp 69) .skip
 (.exit 4)))
 (.seq (.block 5 (.seq (.seq (.region [] [⟨0, (some 72), none, .mov (.tmp 3), true, []⟩,
 ⟨1, (some 73), none, .mov (.tmp 0), true, []⟩,
 ⟨2, (some 74), none, .mov (.tmp 11), true, []⟩,
 ⟨3, (some 75), none, .indexAddr 4 none (.tmp 73) (.tmp 74), true, []⟩,
 ⟨4, (some 76), none, .load (some 4) (.tmp 75), true, []⟩,
 ⟨5, (some 77), none, .mov (.tmp 0), true, []⟩,
 ⟨6, (some 78), none, .mov (.tmp 11), true, []⟩,
 ⟨7, (some 79), none, .bin .sub (.tmp 78) (.const (.v (.c (.int .i64 1)))), true, []⟩,
 ⟨8, (some 80), none, .indexAddr 4 none (.tmp 77) (.tmp 79), true, []⟩,
 ⟨9, (some 81), none, .load (some 4) (.tmp 80), true, []⟩,
 ⟨10, (some 82), none, .call (.tmp 72) [(.tmp 76), (.tmp 81)], false, []⟩,
 ⟨11, (some 83), none, .bin .lss (.tmp 82) (.const (.v (.c (.int .i64 0)))), true, []⟩,
 ⟨12, (some 84), none, .un .not (.tmp 83), true, []⟩])
 (.cond (.tmp 84) (.exit 4)
 .skip))
 (.region [] [⟨0, (some 85), none, .mov (.tmp 0), true, []⟩,
 ⟨1, (some 86), none, .mov (.tmp 11), true, []⟩,
 ⟨2, (some 87), none, .mov (.tmp 0), true, []⟩,
 ⟨3, (some 88), none, .mov (.tmp 11), true, []⟩,
 ⟨4, (some 89), none, .bin .sub (.tmp 88) (.const (.v (.c (.int .i64 1)))), true, []⟩,
 ⟨5, (some 90), none, .mov (.tmp 0), true, []⟩,
 ⟨6, (some 91), none, .mov (.tmp 11), true, []⟩,
 ⟨7, (some 92), none, .bin .sub (.tmp 91) (.const (.v (.c (.int .i64 1)))), true, []⟩,
 ⟨8, (some 93), none, .indexAddr 4 none (.tmp 90) (.tmp 92), true, []⟩,
 ⟨9, (some 94), none, .load (some 4) (.tmp 93), true, []⟩,
 ⟨10, (some 95), none, .mov (.tmp 0), true, []⟩,
 ⟨11, (some 96), none, .mov (.tmp 11), true, []⟩,
 ⟨12, (some 97), none, .indexAddr 4 none (.tmp 95) (.tmp 96), true, []⟩,
 ⟨13, (some 98), none, .load (some 4) (.tmp 97), true, []⟩,
 ⟨14, (some 99), none, .indexAddr 4 none (.tmp 85) (.tmp 86), true, []⟩,
 ⟨15, none, none, .store 4 (.tmp 99) (.tmp 94), false, []⟩,
 ⟨16, (some 100), none, .indexAddr 4 none (.tmp 87) (.tmp 89), true, []⟩,
 ⟨17, none, none, .store 4 (.tmp 100) (.tmp 98), false, []⟩])))
 (.region [] [⟨0, (some 70), none, .mov (.tmp 11), false, []⟩,
 ⟨1, (some 71), none, .bin .sub (.tmp 70) (.const (.v (.c (.int .i64 1)))), false, []⟩,
 ⟨2, (some 11), none, .mov (.tmp 71), false, []⟩]))))))
 .skip))
 (.seq (.region [] [⟨0, (some 101), none, .mov (.tmp 2), false, []⟩,
 ⟨1, (some 102), none, .mov (.tmp 9), false, []⟩,
 ⟨2, (some 103), none, .bin .sub (.tmp 101) (.tmp 102), false, []⟩,
 ⟨3, (some 104), none, .bin .geq (.tmp 103) (.const (.v (.c (.int .i64 2)))), false, []⟩])
 (.cond (.tmp 104) (.seq (.region [] [⟨0, (some 105), none, .mov (.tmp 9), false, []⟩,
 ⟨1, (some 106), none, .bin .add (.tmp 105) (.const (.v (.c (.int .i64 1)))), false, []⟩,
 ⟨2, (some 12), none, .mov (.tmp 106), false, []⟩])
 (.block 6 (.loop (.seq (.seq (.region [] [⟨0, (some 107), none, .mov (.tmp 12), false, []⟩,
 ⟨1, (some 108), none, .mov (.tmp 2), false, []⟩,
 ⟨2, (some 109), none, .bin .lss (.tmp 107) (.tmp 108), false, []⟩])
 (.cond (.tmp 109) .skip
 (.exit 6)))
 (.seq (.block 7 (.seq (.seq (.region [] [⟨0, (some 112), none, .mov (.tmp 3), true, []⟩,
 ⟨1, (some 113), none, .mov (.tmp 0), true, []⟩,
 ⟨2, (some 114), none, .mov (.tmp 12), true, []⟩,
 ⟨3, (some 115), none, .indexAddr 4 none (.tmp 113) (.tmp 114), true, []⟩,
 ⟨4, (some 116), none, .load (some 4) (.tmp 115), true, []⟩,
 ⟨5, (some 117), none, .mov (.tmp 0), true, []⟩,
 ⟨6, (some 118), none, .mov (.tmp 12), true, []⟩,
 ⟨7, (some 119), none, .bin .sub (.tmp 118) (.const (.v (.c (.int .i64 1)))), true, []⟩,
 ⟨8, (some 120), none, .indexAddr 4 none (.tmp 117) (.tmp 119), true, []⟩,
 ⟨9, (some 121), none, .load (some 4) (.tmp 120), true, []⟩,
 ⟨10, (some 122), none, .call (.tmp 112) [(.tmp 116), (.tmp 121)], false, []⟩,
 ⟨11, (some 123), none, .bin .lss (.tmp 122) (.const (.v (.c (.int .i64 0)))), true, []⟩,
 ⟨12, (some 124), none, .un .not (.tmp 123), true, []⟩])
 (.cond (.tmp 124) (.exit 6)
 .skip))
 (.region [] [⟨0, (some 125), none, .mov (.tmp 0), true, []⟩,
 ⟨1, (some 126), none, .mov (.tmp 12), true, []⟩,
 ⟨2, (some 127), none, .mov (.tmp 0), true, []⟩,
 ⟨3, (some 128), none, .mov (.tmp 12), true, []⟩,
 ⟨4, (some 129), none, .bin .sub (.tmp 128) (.const (.v (.c (.int .i64 1)))), true, []⟩,
 ⟨5, (some 130), none, .mov (.tmp 0), true, []⟩,
 ⟨6, (some 131), none, .mov (.tmp 12), true, []⟩,
 ⟨7, (some 132), none, .bin .sub (.tmp 131) (.const (.v (.c (.int .i64 1)))), true, []⟩,
 ⟨8, (some 133), none, .indexAddr 4 none (.tmp 130) (.tmp 132), true, []⟩,
 ⟨9, (some 134), none, .load (some 4) (.tmp 133), true, []⟩,
 ⟨10, (some 135), none, .mov (.tmp 0), true, []⟩,
 ⟨11, (some 136), none, .mov (.tmp 12), true, []⟩,
 ⟨12, (some 137), none, .indexAddr 4 none (.tmp 135) (.tmp 136), true, []⟩,
 ⟨13, (some 138), none, .load (some 4) (.tmp 137), true, []⟩,
 ⟨14, (some 139), none, .indexAddr 4 none (.tmp 125) (.tmp 126), true, []⟩,
 ⟨15, none, none, .store 4 (.tmp 139) (.tmp 134), false, []⟩,
 ⟨16, (some 140), none, .indexAddr 4 none (.tmp 127) (.tmp 129), true, []⟩,
 ⟨17, none, none, .store 4 (.tmp 140) (.tmp 138), false, []⟩])))
 (.region [] [⟨0, (some 110), none, .mov (.tmp 12), false, []⟩,
 ⟨1, (some 111), none, .bin .add (.tmp 110) (.const (.v (.c (.int .i64 1)))), false, []⟩,
 ⟨2, (some 12), none, .mov (.tmp 111), false, []⟩]))))))
 .skip))))))))
 (.region [] [⟨0, (some 17), none, .mov (.tmp 10), false, []⟩,
 ⟨1, (some 18), none, .bin .add (.tmp 17) (.const (.v (.c (.int .i64 1)))), false, []⟩,
 ⟨2, (some 10), none, .mov (.tmp 18), false, []⟩]))))))
 (.seq (.region [] [⟨0, (some 8), none, .mov (.const (.v (.c (.bool false)))), false, []⟩])
 .ret))))⟩

/-- slices.partitionEqualCmpFunc[facet/api.Wave] -/
def c88 : AFun := ⟨90, [(10, none)],
 (.seq (.region [] [⟨0, (some 10), none, .mov (.const (.v (.c (.int .i64 0)))), false, []⟩])
 (.seq (.region [] [⟨0, (some 13), none, .mov (.tmp 0), true, []⟩,
 ⟨1, (some 14), none, .mov (.tmp 1), true, []⟩,
 ⟨2, (some 15), none, .mov (.tmp 0), true, []⟩,
 ⟨3, (some 16), none, .mov (.tmp 3), true, []⟩,
 ⟨4, (some 17), none, .mov (.tmp 0), true, []⟩,
 ⟨5, (some 18), none, .mov (.tmp 3), true, []⟩,
 ⟨6, (some 19), none, .indexAddr 4 none (.tmp 17) (.tmp 18), true, []⟩,
 ⟨7, (some 20), none, .load (some 4) (.tmp 19), true, []⟩,
 ⟨8, (some 21), none, .mov (.tmp 0), true, []⟩,
 ⟨9, (some 22), none, .mov (.tmp 1), true, []⟩,
 ⟨10, (some 23), none, .indexAddr 4 none (.tmp 21) (.tmp 22), true, []⟩,
 ⟨11, (some 24), none, .load (some 4) (.tmp 23), true, []⟩,
 ⟨12, (some 25), none, .indexAddr 4 none (.tmp 13) (.tmp 14), true, []⟩,
 ⟨13, none, none, .store 4 (.tmp 25) (.tmp 20), false, []⟩,
 ⟨14, (some 26), none, .indexAddr 4 none (.tmp 15) (.tmp 16), true, []⟩,
 ⟨15, none, none, .store 4 (.tmp 26) (.tmp 24), false, []⟩])
 (.seq (.region [] [⟨0, (some 27), none, .mov (.tmp 1), false, []⟩,
 ⟨1, (some 28), none, .bin .add (.tmp 27) (.const (.v (.c (.int .i64 1)))), false, []⟩,
 ⟨2, (some 29), none, .mov (.tmp 2), false, []⟩,
 ⟨3, (some 30), none, .bin .sub (.tmp 29) (.const (.v (.c (.int .i64 1)))), false, []⟩,
 ⟨4, (some 11), none, .mov (.tmp 28), false, []⟩,
 ⟨5, (some 12), none, .mov (.tmp 30), false, []⟩])
 (.seq (.block 0 (.loop (.block 1 (.seq (.block 2 (.loop (.seq (.seq (.region [] [⟨0, (some 31), none, .mov (.tmp 11), true, []⟩,
 ⟨1, (some 32), none, .mov (.tmp 12), true, []⟩,
 ⟨2, (some 33), none, .bin .leq (.tmp 31) (.tmp 32), true, []⟩,
 ⟨3, (some 34), none, .mov (.tmp 33), true, []⟩,
 ⟨4, (some 35), (some (34, true)), .mov (.tmp 4), true, []⟩,
 ⟨5, (some 36), (some (34, true)), .mov (.tmp 0), true, []⟩,
 ⟨6, (some 37), (some (34, true)), .mov (.tmp 1), true, []⟩,
 ⟨7, (some 38), (some (34, true)), .indexAddr 4 none (.tmp 36) (.tmp 37), true, []⟩,
 ⟨8, (some 39), (some (34, true)), .load (some 4) (.tmp 38), true, []⟩,
 ⟨9, (some 40), (some (34, true)), .mov (.tmp 0), true, []⟩,
 ⟨10, (some 41), (some (34, true)), .mov (.tmp 11), true, []⟩,
 ⟨11, (some 42), (some (34, true)), .indexAddr 4 none (.tmp 40) (.tmp 41), true, []⟩,
 ⟨12, (some 43), (some (34, true)), .load (some 4) (.tmp 42), true, []⟩,
 ⟨13, (some 44), (some (34, true)), .call (.tmp 35) [(.tmp 39), (.tmp 43)], false, []⟩,
 ⟨14, (some 45), (some (34, true)), .bin .lss (.tmp 44) (.const (.v (.c (.int .i64 0)))), true, []⟩,
 ⟨15, (some 46), (some (34, true)), .un .not (.tmp 45), true, []⟩,
 ⟨16, (some 47), none, .pick (.tmp 34) (.tmp 46) (.const (.v (.c (.bool false)))), true, []⟩])
 (.cond (.tmp 47) .skip
 (.exit 2)))
 (.block 3 (.region [] [⟨0, (some 48), none, .mov (.tmp 11), false, []⟩,
 ⟨1, (some 49), none, .bin .add (.tmp 48) (.const (.v (.c (.int .i64 1)))), false, []⟩,
 ⟨2, (some 11), none, .mov (.tmp 49), false, []⟩])))))
 (.seq (.block 4 (.loop (.seq (.seq (.region [] [⟨0, (some 50), none, .mov (.tmp 11), true, []⟩,
 ⟨1, (some 51), none, .mov (.tmp 12), true, []⟩,
 ⟨2, (some 52), none, .bin .leq (.tmp 50) (.tmp 51), true, []⟩,
 ⟨3, (some 53), none, .mov (.tmp 52), true, []⟩,
 ⟨4, (some 54), (some (53, true)), .mov (.tmp 4), true, []⟩,
 ⟨5, (some 55), (some (53, true)), .mov (.tmp 0), true, []⟩,
 ⟨6, (some 56), (some (53, true)), .mov (.tmp 1), true, []⟩,
 ⟨7, (some 57), (some (53, true)), .indexAddr 4 none (.tmp 55) (.tmp 56), true, []⟩,
 ⟨8, (some 58), (some (53, true)), .load (some 4) (.tmp 57), true, []⟩,
 ⟨9, (some 59), (some (53, true)), .mov (.tmp 0), true, []⟩,
 ⟨10, (some 60), (some (53, true)), .mov (.tmp 12), true, []⟩,
 ⟨11, (some 61), (some (53, true)), .indexAddr 4 none (.tmp 59) (.tmp 60), true, []⟩,
 ⟨12, (some 62), (some (53, true)), .load (some 4) (.tmp 61), true, []⟩,
 ⟨13, (some 63), (some (53, true)), .call (.tmp 54) [(.tmp 58), (.tmp 62)], false, []⟩,
 ⟨14, (some 64), (some (53, true)), .bin .lss (.tmp 63) (.const (.v (.c (.int .i64 0)))), true, []⟩,
 ⟨15, (some 65), none, .pick (.tmp 53) (.tmp 64) (.const (.v (.c (.bool false)))), true, []⟩])
 (.cond (.tmp 65) .skip
 (.exit 4)))
 (.block 5 (.region [] [⟨0, (some 66), none, .mov (.tmp 12), false, []⟩,
 ⟨1, (some 67), none, .bin .sub (.tmp 66) (.const (.v (.c (.int .i64 1)))), false, []⟩,
 ⟨2, (some 12), none, .mov (.tmp 67), false, []⟩])))))
 (.seq (.seq (.region [] [⟨0, (some 68), none, .mov (.tmp 11), false, []⟩,
 ⟨1, (some 69), none, .mov (.tmp 12), false, []⟩,
 ⟨2, (some 70), none, .bin .gtr (.tmp 68) (.tmp 69), false, []⟩])
 (.cond (.tmp 70) (.exit 0)
 .skip))
 (.seq (.region [] [⟨0, (some 71), none, .mov (.tmp 0), true, []⟩,
 ⟨1, (some 72), none, .mov (.tmp 11), true, []⟩,
 ⟨2, (some 73), none, .mov (.tmp 0), true, []⟩,
 ⟨3, (some 74), none, .mov (.tmp 12), true, []⟩,
 ⟨4, (some 75), none, .mov (.tmp 0), true, []⟩,
 ⟨5, (some 76), none, .mov (.tmp 12), true, []⟩,
 ⟨6, (some 77), none, .indexAddr 4 none (.tmp 75) (.tmp 76), true, []⟩,
 ⟨7, (some 78), none, .load (some 4) (.tmp 77), true, []⟩,
 ⟨8, (some 79), none, .mov (.tmp 0), true, []⟩,
 ⟨9, (some 80), none, .mov (.tmp 11), true, []⟩,
 ⟨10, (some 81), none, .indexAddr 4 none (.tmp 79) (.tmp 80), true, []⟩,
 ⟨11, (some 82), none, .load (some 4) (.tmp 81), true, []⟩,
 ⟨12, (some 83), none, .indexAddr 4 none (.tmp 71) (.tmp 72), true, []⟩,
 ⟨13, none, none, .store 4 (.tmp 83) (.tmp 78), false, []⟩,
 ⟨14, (some 84), none, .indexAddr 4 none (.tmp 73) (.tmp 74), true, []⟩,
 ⟨15, none, none, .store 4 (.tmp 84) (.tmp 82), false, []⟩])
 (.seq (.region [] [⟨0, (some 85), none, .mov (.tmp 11), false, []⟩,
 ⟨1, (some 86), none, .bin .add (.tmp 85) (.const (.v (.c (.int .i64 1)))), false, []⟩,
 ⟨2, (some 11), none, .mov (.tmp 86), false, []⟩])
 (.region [] [⟨0, (some 87), none, .mov (.tmp 12), false, []⟩,
 ⟨1, (some 88), none, .bin .sub (.tmp 87) (.const (.v (.c (.int .i64 1)))), false, []⟩,
 ⟨2, (some 12), none, .mov (.tmp 88), false, []⟩])))))))))
 (.seq (.region [] [⟨0, (some 89), none, .mov (.tmp 11), false, []⟩,
 ⟨1, (some 10), none, .mov (.tmp 89), false, []⟩])
 .ret)))))⟩

/-- slices.partitionCmpFunc[facet/api.Wave] -/
def c89 : AFun := ⟨178, [(10, none), (11, none)],
 (.seq (.region [] [⟨0, (some 10), none, .mov (.const (.v (.c (.int .i64 0)))), false, []⟩,
 ⟨1, (some 11), none, .mov (.const (.v (.c (.bool false)))), false, []⟩])
 (.seq (.region [] [⟨0, (some 14), none, .mov (.tmp 0), true, []⟩,
 ⟨1, (some 15), none, .mov (.tmp 1), true, []⟩,
 ⟨2, (some 16), none, .mov (.tmp 0), true, []⟩,
 ⟨3, (some 17), none, .mov (.tmp 3), true, []⟩,
 ⟨4, (some 18), none, .mov (.tmp 0), true, []⟩,
 ⟨5, (some 19), none, .mov (.tmp 3), true, []⟩,
 ⟨6, (some 20), none, .indexAddr 4 none (.tmp 18) (.tmp 19), true, []⟩,
 ⟨7, (some 21), none, .load (some 4) (.tmp 20), true, []⟩,
 ⟨8, (some 22), none, .mov (.tmp 0), true, []⟩,
 ⟨9, (some 23), none, .mov (.tmp 1), true, []⟩,
 ⟨10, (some 24), none, .indexAddr 4 none (.tmp 22) (.tmp 23), true, []⟩,
 ⟨11, (some 25), none, .load (some 4) (.tmp 24), true, []⟩,
 ⟨12, (some 26), none, .indexAddr 4 none (.tmp 14) (.tmp 15), true, []⟩,
 ⟨13, none, none, .store 4 (.tmp 26) (.tmp 21), false, []⟩,
 ⟨14, (some 27), none, .indexAddr 4 none (.tmp 16) (.tmp 17), true, []⟩,
 ⟨15, none, none, .store 4 (.tmp 27) (.tmp 25), false, []⟩])
 (.seq (.region [] [⟨0, (some 28), none, .mov (.tmp 1), false, []⟩,
 ⟨1, (some 29), none, .bin .add (.tmp 28) (.const (.v (.c (.int .i64 1)))), false, []⟩,
 ⟨2, (some 30), none, .mov (.tmp 2), false, []⟩,
 ⟨3, (some 31), none, .bin .sub (.tmp 30) (.const (.v (.c (.int .i64 1)))), false, []⟩,
 ⟨4, (some 12), none, .mov (.tmp 29), false, []⟩,
 ⟨5, (some 13), none, .mov (.tmp 31), false, []⟩])
 (.seq (.block 0 (.loop (.seq (.seq (.region [] [⟨0, (some 32), none, .mov (.tmp 12), true, []⟩,
 ⟨1, (some 33), none, .mov (.tmp 13), true, []⟩,
 ⟨2, (some 34), none, .bin .leq (.tmp 32) (.tmp 33), true, []⟩,
 ⟨3, (some 35), none, .mov (.tmp 34), true, []⟩,
 ⟨4, (some 36), (some (35, true)), .mov (.tmp 4), true, []⟩,
 ⟨5, (some 37), (some (35, true)), .mov (.tmp 0), true, []⟩,
 ⟨6, (some 38), (some (35, true)), .mov (.tmp 12), true, []⟩,
 ⟨7, (some 39), (some (35, true)), .indexAddr 4 none (.tmp 37) (.tmp 38), true, []⟩,
 ⟨8, (some 40), (some (35, true)), .load (some 4) (.tmp 39), true, []⟩,
 ⟨9, (some 41), (some (35, true)), .mov (.tmp 0), true, []⟩,
 ⟨10, (some 42), (some (35, true)), .mov (.tmp 1), true, []⟩,
 ⟨11, (some 43), (some (35, true)), .indexAddr 4 none (.tmp 41) (.tmp 42), true, []⟩,
 ⟨12, (some 44), (some (35, true)), .load (some 4) (.tmp 43), true, []⟩,
 ⟨13, (some 45), (some (35, true)), .call (.tmp 36) [(.tmp 40), (.tmp 44)], false, []⟩,
 ⟨14, (some 46), (some (35, true)), .bin .lss (.tmp 45) (.const (.v (.c (.int .i64 0)))), true, []⟩,
 ⟨15, (some 47), none, .pick (.tmp 35) (.tmp 46) (.const (.v (.c (.bool false)))), true, []⟩])
 (.cond (.tmp 47) .skip
 (.exit 0)))
 (.block 1 (.region [] [⟨0, (some 48), none, .mov (.tmp 12), false, []⟩,
 ⟨1, (some 49), none, .bin .add (.tmp 48) (.const (.v (.c (.int .i64 1)))), false, []⟩,
 ⟨2, (some 12), none, .mov (.tmp 49), false, []⟩])))))
 (.seq (.block 2 (.loop (.seq (.seq (.region [] [⟨0, (some 50), none, .mov (.tmp 12), true, []⟩,
 ⟨1, (some 51), none, .mov (.tmp 13), true, []⟩,
 ⟨2, (some 52), none, .bin .leq (.tmp 50) (.tmp 51), true, []⟩,
 ⟨3, (some 53), none, .mov (.tmp 52), true, []⟩,
 ⟨4, (some 54), (some (53, true)), .mov (.tmp 4), true, []⟩,
 ⟨5, (some 55), (some (53, true)), .mov (.tmp 0), true, []⟩,
 ⟨6, (some 56), (some (53, true)), .mov (.tmp 13), true, []⟩,
 ⟨7, (some 57), (some (53, true)), .indexAddr 4 none (.tmp 55) (.tmp 56), true, []⟩,
 ⟨8, (some 58), (some (53, true)), .load (some 4) (.tmp 57), true, []⟩,
 ⟨9, (some 59), (some (53, true)), .mov (.tmp 0), true, []⟩,
 ⟨10, (some 60), (some (53, true)), .mov (.tmp 1), true, []⟩,
 ⟨11, (some 61), (some (53, true)), .indexAddr 4 none (.tmp 59) (.tmp 60), true, []⟩,
 ⟨12, (some 62), (some (53, true)), .load (some 4) (.tmp 61), true, []⟩,
 ⟨13, (some 63), (some (53, true)), .call (.tmp 54) [(.tmp 58), (.tmp 62)], false, []⟩,
 ⟨14, (some 64), (some (53, true)), .bin .lss (.tmp 63) (.const (.v (.c (.int .i64 0)))), true, []⟩,
 ⟨15, (some 65), (some (53, true)), .un .not (.tmp 64), true, []⟩,
 ⟨16, (some 66), none, .pick (.tmp 53) (.tmp 65) (.const (.v (.c (.bool false)))), true, []⟩])
 (.cond (.tmp 66) .skip
 (.exit 2)))
 (.block 3 (.region [] [⟨0, (some 67), none, .mov (.tmp 13), false, []⟩,
 ⟨1, (some 68), none, .bin .sub (.tmp 67) (.const (.v (.c (.int .i64 1)))), false, []⟩,
 ⟨2, (some 13), none, .mov (.tmp 68), false, []⟩])))))
 (.seq (.seq (.region [] [⟨0, (some 69), none, .mov (.tmp 12), false, []⟩,
 ⟨1, (some 70), none, .mov (.tmp 13), false, []⟩,
 ⟨2, (some 71), none, .bin .gtr (.tmp 69) (.tmp 70), false, []⟩])
 (.cond (.tmp 71) (.seq (.region [] [⟨0, (some 72), none, .mov (.tmp 0), true, []⟩,
 ⟨1, (some 73), none, .mov (.tmp 13), true, []⟩,
 ⟨2, (some 74), none, .mov (.tmp 0), true, []⟩,
 ⟨3, (some 75), none, .mov (.tmp 1), true, []⟩,
 ⟨4, (some 76), none, .mov (.tmp 0), true, []⟩,
 ⟨5, (some 77), none, .mov (.tmp 1), true, []⟩,
 ⟨6, (some 78), none, .indexAddr 4 none (.tmp 76) (.tmp 77), true, []⟩,
 ⟨7, (some 79), none, .load (some 4) (.tmp 78), true, []⟩,
 ⟨8, (some 80), none, .mov (.tmp 0), true, []⟩,
 ⟨9, (some 81), none, .mov (.tmp 13), true, []⟩,
 ⟨10, (some 82), none, .indexAddr 4 none (.tmp 80) (.tmp 81), true, []⟩,
 ⟨11, (some 83), none, .load (some 4) (.tmp 82), true, []⟩,
 ⟨12, (some 84), none, .indexAddr 4 none (.tmp 72) (.tmp 73), true, []⟩,
 ⟨13, none, none, .store 4 (.tmp 84) (.tmp 79), false, []⟩,
 ⟨14, (some 85), none, .indexAddr 4 none (.tmp 74) (.tmp 75), true, []⟩,
 ⟨15, none, none, .store 4 (.tmp 85) (.tmp 83), false, []⟩])
 (.seq (.region [] [⟨0, (some 86), none, .mov (.tmp 13), false, []⟩,
 ⟨1, (some 10), none, .mov (.tmp 86), false, []⟩,
 ⟨2, (some 11), none, .mov (.const (.v (.c (.bool true)))), false, []⟩])
 .ret))
 .skip))
 (.seq (.region [] [⟨0, (some 87), none, .mov (.tmp 0), true, []⟩,
 ⟨1, (some 88), none, .mov (.tmp 12), true, []⟩,
 ⟨2, (some 89), none, .mov (.tmp 0), true, []⟩,
 ⟨3, (some 90), none, .mov (.tmp 13), true, []⟩,
 ⟨4, (some 91), none, .mov (.tmp 0), true, []⟩,
 ⟨5, (some 92), none, .mov (.tmp 13), true, []⟩,
 ⟨6, (some 93), none, .indexAddr 4 none (.tmp 91) (.tmp 92), true, []⟩,
 ⟨7, (some 94), none, .load (some 4) (.tmp 93), true, []⟩,
 ⟨8, (some 95), none, .mov (.tmp 0), true, []⟩,
 ⟨9, (some 96), none, .mov (.tmp 12), true, []⟩,
 ⟨10, (some 97), none, .indexAddr 4 none (.tmp 95) (.tmp 96), true, []⟩,
 ⟨11, (some 98), none, .load (some 4) (.tmp 97), true, []⟩,
 ⟨12, (some 99), none, .indexAddr 4 none (.tmp 87) (.tmp 88), true, []⟩,
 ⟨13, none, none, .store 4 (.tmp 99) (.tmp 94), false, []⟩,
 ⟨14, (some 100), none, .indexAddr 4 none (.tmp 89) (.tmp 90), true, []⟩,
 ⟨15, none, none, .store 4 (.tmp 100) (.tmp 98), false, []⟩])
 (.seq (.region [] [⟨0, (some 101), none, .mov (.tmp 12), false, []⟩,
 ⟨1, (some 102), none, .bin .add (.tmp 101) (.const (.v (.c (.int .i64 1)))), false, []⟩,
 ⟨2, (some 12), none, .mov (.tmp 102), false, []⟩])
 (.seq (.region [] [⟨0, (some 103), none, .mov (.tmp 13), false, []⟩,
 ⟨1, (some 104), none, .bin .sub (.tmp 103) (.const (.v (.c (.int .i64 1)))), false, []⟩,
 ⟨2, (some 13), none, .mov (.tmp 104), false, []⟩])
 (.seq (.block 4 (.loop (.block 5 (.seq (.block 6 (.loop (.seq (.seq (.region [] [⟨0, (some 105), none, .mov (.tmp 12), true, []⟩,
 ⟨1, (some 106), none, .mov (.tmp 13), true, []⟩,
 ⟨2, (some 107), none, .bin .leq (.tmp 105) (.tmp 106), true, []⟩,
 ⟨3, (some 108), none, .mov (.tmp 107), true, []⟩,
 ⟨4, (some 109), (some (108, true)), .mov (.tmp 4), true, []⟩,
 ⟨5, (some 110), (some (108, true)), .mov (.tmp 0), true, []⟩,
 ⟨6, (some 111), (some (108, true)), .mov (.tmp 12), true, []⟩,
 ⟨7, (some 112), (some (108, true)), .indexAddr 4 none (.tmp 110) (.tmp 111), true, []⟩,
 ⟨8, (some 113), (some (108, true)), .load (some 4) (.tmp 112), true, []⟩,
 ⟨9, (some 114), (some (108, true)), .mov (.tmp 0), true, []⟩,
 ⟨10, (some 115), (some (108, true)), .mov (.tmp 1), true, []⟩,
 ⟨11, (some 116), (some (108, true)), .indexAddr 4 none (.tmp 114) (.tmp 115), true, []⟩,
 ⟨12, (some 117), (some (108, true)), .load (some 4) (.tmp 116), true, []⟩,
 ⟨13, (some 118), (some (108, true)), .call (.tmp 109) [(.tmp 113), (.tmp 117)], false, []⟩,
 ⟨14, (some 119), (some (108, true)), .bin .lss (.tmp 118) (.const (.v (.c (.int .i64 0)))), true, []⟩,
 ⟨15, (some 120), none, .pick (.tmp 108) (.tmp 119) (.const (.v (.c (.bool false)))), true, []⟩])
 (.cond (.tmp 120) .skip
 (.exit 6)))
 (.block 7 (.region [] [⟨0, (some 121), none, .mov (.tmp 12), false, []⟩,
 ⟨1, (some 122), none, .bin .add (.tmp 121) (.const (.v (.c (.int .i64 1)))), false, []⟩,
 ⟨2, (some 12), none, .mov (.tmp 122), false, []⟩])))))
 (.seq (.block 8 (.loop (.seq (.seq (.region [] [⟨0, (some 123), none, .mov (.tmp 12), true, []⟩,
 ⟨1, (some 124), none, .mov (.tmp 13), true, []⟩,
 ⟨2, (some 125), none, .bin .leq (.tmp 123) (.tmp 124), true, []⟩,
 ⟨3, (some 126), none, .mov (.tmp 125), true, []⟩,
 ⟨4, (some 127), (some (126, true)), .mov (.tmp 4), true, []⟩,
 ⟨5, (some 128), (some (126, true)), .mov (.tmp 0), true, []⟩,
 ⟨6, (some 129), (some (126, true)), .mov (.tmp 13), true, []⟩,
 ⟨7, (some 130), (some (126, true)), .indexAddr 4 none (.tmp 128) (.tmp 129), true, []⟩,
 ⟨8, (some 131), (some (126, true)), .load (some 4) (.tmp 130), true, []⟩,
 ⟨9, (some 132), (some (126, true)), .mov (.tmp 0), true, []⟩,
 ⟨10, (some 133), (some (126, true)), .mov (.tmp 1), true, []⟩,
 ⟨11, (some 134), (some (126, true)), .indexAddr 4 none (.tmp 132) (.tmp 133), true, []⟩,
 ⟨12, (some 135), (some (126, true)), .load (some 4) (.tmp 134), true, []⟩,
 ⟨13, (some 136), (some (126, true)), .call (.tmp 127) [(.tmp 131), (.tmp 135)], false, []⟩,
 ⟨14, (some 137), (some (126, true)), .bin .lss (.tmp 136) (.const (.v (.c (.int .i64 0)))), true, []⟩,
 ⟨15, (some 138), (some (126, true)), .un .not (.tmp 137), true, []⟩,
 ⟨16, (some 139), none, .pick (.tmp 126) (.tmp 138) (.const (.v (.c (.bool false)))), true, []⟩])
 (.cond (.tmp 139) .skip
 (.exit 8)))
 (.block 9 (.region [] [⟨0, (some 140), none, .mov (.tmp 13), false, []⟩,
 ⟨1, (some 141), none, .bin .sub (.tmp 140) (.const (.v (.c (.int .i64 1)))), false, []⟩,
 ⟨2, (some 13), none, .mov (.tmp 141), false, []⟩])))))
 (.seq (.seq (.region [] [⟨0, (some 142), none, .mov (.tmp 12), false, []⟩,
 ⟨1, (some 143), none, .mov (.tmp 13), false, []⟩,
 ⟨2, (some 144), none, .bin .gtr (.tmp 142) (.tmp 143), false, []⟩])
 (.cond (.tmp 144) (.exit 4)
 .skip))
 (.seq (.region [] [⟨0, (some 145), none, .mov (.tmp 0), true, []⟩,
 ⟨1, (some 146), none, .mov (.tmp 12), true, []⟩,
 ⟨2, (some 147), none, .mov (.tmp 0), true, []⟩,
 ⟨3, (some 148), none, .mov (.tmp 13), true, []⟩,
 ⟨4, (some 149), none, .mov (.tmp 0), true, []⟩,
 ⟨5, (some 150), none, .mov (.tmp 13), true, []⟩,
 ⟨6, (some 151), none, .indexAddr 4 none (.tmp 149) (.tmp 150), true, []⟩,
 ⟨7, (some 152), none, .load (some 4) (.tmp 151), true, []⟩,
 ⟨8, (some 153), none, .mov (.tmp 0), true, []⟩,
 ⟨9, (some 154), none, .mov (.tmp 12), true, []⟩,
 ⟨10, (some 155), none, .indexAddr 4 none (.tmp 153) (.tmp 154), true, []⟩,
 ⟨11, (some 156), none, .load (some 4) (.tmp 155), true, []⟩,
 ⟨12, (some 157), none, .indexAddr 4 none (.tmp 145) (.tmp 146), true, []⟩,
 ⟨13, none, none, .store 4 (.tmp 157) (.tmp 152), false, []⟩,
 ⟨14, (some 158), none, .indexAddr 4 none (.tmp 147) (.tmp 148), true, []⟩,
 ⟨15, none, none, .store 4 (.tmp 158) (.tmp 156), false, []⟩])
 (.seq (.region [] [⟨0, (some 159), none, .mov (.tmp 12), false, []⟩,
 ⟨1, (some 160), none, .bin .add (.tmp 159) (.const (.v (.c (.int .i64 1)))), false, []⟩,
 ⟨2, (some 12), none, .mov (.tmp 160), false, []⟩])
 (.region [] [⟨0, (some 161), none, .mov (.tmp 13), false, []⟩,
 ⟨1, (some 162), none, .bin .sub (.tmp 161) (.const (.v (.c (.int .i64 1)))), false, []⟩,
 ⟨2, (some 13), none, .mov (.tmp 162), false, []⟩])))))))))
 (.seq (.region [] [⟨0, (some 163), none, .mov (.tmp 0), true, []⟩,
 ⟨1, (some 164), none, .mov (.tmp 13), true, []⟩,
 ⟨2, (some 165), none, .mov (.tmp 0), true, []⟩,
 ⟨3, (some 166), none, .mov (.tmp 1), true, []⟩,
 ⟨4, (some 167), none, .mov (.tmp 0), true, []⟩,
 ⟨5, (some 168), none, .mov (.tmp 1), true, []⟩,
 ⟨6, (some 169), none, .indexAddr 4 none (.tmp 167) (.tmp 168), true, []⟩,
 ⟨7, (some 170), none, .load (some 4) (.tmp 169), true, []⟩,
 ⟨8, (some 171), none, .mov (.tmp 0), true, []⟩,
 ⟨9, (some 172), none, .mov (.tmp 13), true, []⟩,
 ⟨10, (some 173), none, .indexAddr 4 none (.tmp 171) (.tmp 172), true, []⟩,
 ⟨11, (some 174), none, .load (some 4) (.tmp 173), true, []⟩,
 ⟨12, (some 175), none, .indexAddr 4 none (.tmp 163) (.tmp 164), true, []⟩,
 ⟨13, none, none, .store 4 (.tmp 175) (.tmp 170), false, []⟩,
 ⟨14, (some 176), none, .indexAddr 4 none (.tmp 165) (.tmp 166), true, []⟩,
 ⟨15, none, none, .store 4 (.tmp 176) (.tmp 174), false, []⟩])
 (.seq (.region [] [⟨0, (some 177), none, .mov (.tmp 13), false, []⟩,
 ⟨1, (some 10), none, .mov (.tmp 177), false, []⟩,
 ⟨2, (some 11), none, .mov (.const (.v (.c (.bool false)))), false, []⟩])
 .ret))))))))))))⟩

/-- math/bits.Len32 -/
def c90 : AFun := ⟨19, [(2, none)],
 (.seq (.region [] [⟨0, (some 2), none, .mov (.const (.v (.c (.int .i64 0)))), false, []⟩])
 (.seq (.seq (.region [] [⟨0, (some 3), none, .mov (.tmp 0), false, []⟩,
 ⟨1, (some 4), none, .bin .geq (.tmp 3) (.const (.v (.c (.int .u32 65536)))), false, []⟩])
 (.cond (.tmp 4) (.seq (.region [] [⟨0, (some 5), none, .mov (.tmp 0), false, []⟩,
 ⟨1, (some 6), none, .bin .shr (.tmp 5) (.const (.v (.c (.int .u64 16)))), false, []⟩,
 ⟨2, (some 0), none, .mov (.tmp 6), false, []⟩])
 (.region [] [⟨0, (some 2), none, .mov (.const (.v (.c (.int .i64 16)))), false, []⟩]))
 .skip))
 (.seq (.seq (.region [] [⟨0, (some 7), none, .mov (.tmp 0), false, []⟩,
 ⟨1, (some 8), none, .bin .geq (.tmp 7) (.const (.v (.c (.int .u32 256)))), false, []⟩])
 (.cond (.tmp 8) (.seq (.region [] [⟨0, (some 9), none, .mov (.tmp 0), false, []⟩,
 ⟨1, (some 10), none, .bin .shr (.tmp 9) (.const (.v (.c (.int .u64 8)))), false, []⟩,
 ⟨2, (some 0), none, .mov (.tmp 10), false, []⟩])
 (.region [] [⟨0, (some 11), none, .mov (.tmp 2), false, []⟩,
 ⟨1, (some 12), none, .bin .add (.tmp 11) (.const (.v (.c (.int .i64 8)))), false, []⟩,
 ⟨2, (some 2), none, .mov (.tmp 12), false, []⟩]))
 .skip))
 (.seq (.region [] [⟨0, (some 13), none, .mov (.tmp 2), false, []⟩,
 ⟨1, (some 14), none, .mov (.tmp 0), false, []⟩,
 ⟨2, (some 15), none, .toInt .u8 (.tmp 14), false, []⟩,
 ⟨3, (some 16), none, .strAt [0, 1, 2, 2, 3, 3, 3, 3, 4, 4, 4, 4, 4, 4, 4, 4, 5, 5, 5, 5, 5, 5, 5, 5, 5, 5, 5, 5, 5, 5, 5, 5, 6, 6, 6, 6, 6, 6, 6, 6, 6, 6, 6, 6, 6, 6, 6, 6, 6, 6, 6, 6, 6, 6, 6, 6, 6, 6, 6, 6, 6, 6, 6, 6, 7, 7, 7, 7, 7, 7, 7, 7, 7, 7, 7, 7, 7, 7, 7, 7, 7, 7, 7, 7, 7, 7, 7, 7, 7, 7, 7, 7, 7, 7, 7, 7, 7, 7, 7, 7, 7, 7, 7, 7, 7, 7, 7, 7, 7, 7, 7, 7, 7, 7, 7, 7, 7, 7, 7, 7, 7, 7, 7, 7, 7, 7, 7, 7, 8, 8, 8, 8, 8, 8, 8, 8, 8, 8, 8, 8, 8, 8, 8, 8, 8, 8, 8, 8, 8, 8, 8, 8, 8, 8, 8, 8, 8, 8, 8, 8, 8, 8, 8, 8, 8, 8, 8, 8, 8, 8, 8, 8, 8, 8, 8, 8, 8, 8, 8, 8, 8, 8, 8, 8, 8, 8, 8, 8, 8, 8, 8, 8, 8, 8, 8, 8, 8, 8, 8, 8, 8, 8, 8, 8, 8, 8, 8, 8, 8, 8, 8, 8, 8, 8, 8, 8, 8, 8, 8, 8, 8, 8, 8, 8, 8, 8, 8, 8, 8, 8, 8, 8, 8, 8, 8, 8, 8, 8, 8, 8, 8, 8, 8, 8, 8, 8, 8, 8, 8, 8, 8, 8, 8, 8, 8, 8] (.tmp 15), false, []⟩,
 ⟨4, (some 17), none, .toInt .i64 (.tmp 16), false, []⟩,
 ⟨5, (some 18), none, .bin .add (.tmp 13) (.tmp 17), false, []⟩,
 ⟨6, (some 2), none, .mov (.tmp 18), false, []⟩])
 .ret))))⟩

/-- math/bits.Len64 -/
def c91 : AFun := ⟨25, [(2, none)],
 (.seq (.region [] [⟨0, (some 2), none, .mov (.const (.v (.c (.int .i64 0)))), false, []⟩])
 (.seq (.seq (.region [] [⟨0, (some 3), none, .mov (.tmp 0), false, []⟩,
 ⟨1, (some 4), none, .bin .geq (.tmp 3) (.const (.v (.c (.int .u64 4294967296)))), false, []⟩])
 (.cond (.tmp 4) (.seq (.region [] [⟨0, (some 5), none, .mov (.tmp 0), false, []⟩,
 ⟨1, (some 6), none, .bin .shr (.tmp 5) (.const (.v (.c (.int .u64 32)))), false, []⟩,
 ⟨2, (some 0), none, .mov (.tmp 6), false, []⟩])
 (.region [] [⟨0, (some 2), none, .mov (.const (.v (.c (.int .i64 32)))), false, []⟩]))
 .skip))
 (.seq (.seq (.region [] [⟨0, (some 7), none, .mov (.tmp 0), false, []⟩,
 ⟨1, (some 8), none, .bin .geq (.tmp 7) (.const (.v (.c (.int .u64 65536)))), false, []⟩])
 (.cond (.tmp 8) (.seq (.region [] [⟨0, (some 9), none, .mov (.tmp 0), false, []⟩,
 ⟨1, (some 10), none, .bin .shr (.tmp 9) (.const (.v (.c (.int .u64 16)))), false, []⟩,
 ⟨2, (some 0), none, .mov (.tmp 10), false, []⟩])
 (.region [] [⟨0, (some 11), none, .mov (.tmp 2), false, []⟩,
 ⟨1, (some 12), none, .bin .add (.tmp 11) (.const (.v (.c (.int .i64 16)))), false, []⟩,
 ⟨2, (some 2), none, .mov (.tmp 12), false, []⟩]))
 .skip))
 (.seq (.seq (.region [] [⟨0, (some 13), none, .mov (.tmp 0), false, []⟩,
 ⟨1, (some 14), none, .bin .geq (.tmp 13) (.const (.v (.c (.int .u64 256)))), false, []⟩])
 (.cond (.tmp 14) (.seq (.region [] [⟨0, (some 15), none, .mov (.tmp 0), false, []⟩,
 ⟨1, (some 16), none, .bin .shr (.tmp 15) (.const (.v (.c (.int .u64 8)))), false, []⟩,
 ⟨2, (some 0), none, .mov (.tmp 16), false, []⟩])
 (.region [] [⟨0, (some 17), none, .mov (.tmp 2), false, []⟩,
 ⟨1, (some 18), none, .bin .add (.tmp 17) (.const (.v (.c (.int .i64 8)))), false, []⟩,
 ⟨2, (some 2), none, .mov (.tmp 18), false, []⟩]))
 .skip))
 (.seq (.region [] [⟨0, (some 19), none, .mov (.tmp 2), false, []⟩,
 ⟨1, (some 20), none, .mov (.tmp 0), false, []⟩,
 ⟨2, (some 21), none, .toInt .u8 (.tmp 20), false, []⟩,
 ⟨3, (some 22), none, .strAt [0, 1, 2, 2, 3, 3, 3, 3, 4, 4, 4, 4, 4, 4, 4, 4, 5, 5, 5, 5, 5, 5, 5, 5, 5, 5, 5, 5, 5, 5, 5, 5, 6, 6, 6, 6, 6, 6, 6, 6, 6, 6, 6, 6, 6, 6, 6, 6, 6, 6, 6, 6, 6, 6, 6, 6, 6, 6, 6, 6, 6, 6, 6, 6, 7, 7, 7, 7, 7, 7, 7, 7, 7, 7, 7, 7, 7, 7, 7, 7, 7, 7, 7, 7, 7, 7, 7, 7, 7, 7, 7, 7, 7, 7, 7, 7, 7, 7, 7, 7, 7, 7, 7, 7, 7, 7, 7, 7, 7, 7, 7, 7, 7, 7, 7, 7, 7, 7, 7, 7, 7, 7, 7, 7, 7, 7, 7, 7, 8, 8, 8, 8, 8, 8, 8, 8, 8, 8, 8, 8, 8, 8, 8, 8, 8, 8, 8, 8, 8, 8, 8, 8, 8, 8, 8, 8, 8, 8, 8, 8, 8, 8, 8, 8, 8, 8, 8, 8, 8, 8, 8, 8, 8, 8, 8, 8, 8, 8, 8, 8, 8, 8, 8, 8, 8, 8, 8, 8, 8, 8, 8, 8, 8, 8, 8, 8, 8, 8, 8, 8, 8, 8, 8, 8, 8, 8, 8, 8, 8, 8, 8, 8, 8, 8, 8, 8, 8, 8, 8, 8, 8, 8, 8, 8, 8, 8, 8, 8, 8, 8, 8, 8, 8, 8, 8, 8, 8, 8, 8, 8, 8, 8, 8, 8, 8, 8, 8, 8, 8, 8, 8, 8, 8, 8, 8, 8] (.tmp 21), false, []⟩,
 ⟨4, (some 23), none, .toInt .i64 (.tmp 22), false, []⟩,
 ⟨5, (some 24), none, .bin .add (.tmp 19) (.tmp 23), false, []⟩,
 ⟨6, (some 2), none, .mov (.tmp 24), false, []⟩])
 .ret)))))⟩

/-- cmp.isNaN[int] -/
def c92 : AFun := ⟨6, [(2, none)],
 (.seq (.region [] [⟨0, (some 2), none, .mov (.const (.v (.c (.bool false)))), false, []⟩])
 (.seq (.region [] [⟨0, (some 3), none, .mov (.tmp 0), false, []⟩,
 ⟨1, (some 4), none, .mov (.tmp 0), false, []⟩,
 ⟨2, (some 5), none, .bin .neq (.tmp 3) (.tmp 4), false, []⟩,
 ⟨3, (some 2), none, .mov (.tmp 5), false, []⟩])
 .ret))⟩

/-- facet/hkl.Turned -/
def c93 : AFun := ⟨26, [(4, (some (some 3))), (5, none)],
 (.seq (.region [] [⟨0, (some 2), none, .box (.tmp 0), false, []⟩,
 ⟨1, (some 3), none, .box (.tmp 1), false, []⟩,
 ⟨2, (some 4), none, .alloc [(.int .i64 0), (.int .i64 0), (.int .i64 0)], false, []⟩,
 ⟨3, (some 5), none, .mov (.const (.v (.c (.int .i64 0)))), false, []⟩])
 (.seq (.seq (.region [] [⟨0, (some 8), none, .load (some 3) (.tmp 3), false, []⟩,
 ⟨1, (some 9), none, .call (.const (.v (.c (.fn 106 [])))) [(.tmp 8)], false, []⟩,
 ⟨2, (some 10), none, .un .not (.tmp 9), false, []⟩])
 (.cond (.tmp 10) (.seq (.region [] [⟨0, (some 11), none, .build [(.int .i64 0), (.int .i64 0), (.int .i64 0)] [], false, []⟩,
 ⟨1, none, none, .store 3 (.tmp 4) (.tmp 11), false, []⟩,
 ⟨2, (some 5), none, .mov (.const (.v (.c (.int .i64 1)))), false, []⟩])
 .ret)
 .skip))
 (.seq (.seq (.region [6] [⟨1, (some 14), none, .load (some 12) (.tmp 2), true, []⟩,
 ⟨0, (some 13), none, .call (.const (.v (.c (.fn 108 [])))) [], false, [1]⟩,
 ⟨2, (some 15), none, .call (.const (.v (.c (.fn 107 [])))) [(.tmp 13), (.tmp 14)], false, []⟩,
 ⟨3, (some 12), none, .mov (.tmp 15), true, []⟩,
 ⟨4, (some 16), none, .extract 0 (.tmp 12), true, []⟩,
 ⟨5, (some 17), none, .extract 1 (.tmp 12), true, []⟩,
 ⟨6, (some 6), none, .alloc [(.int .i64 0), (.int .i64 0), (.int .i64 0), (.int .i64 0), (.int .i64 0), (.int .i64 0), (.int .i64 0), (.int .i64 0), (.int .i64 0), (.int .i64 0), (.int .i64 0), (.int .i64 0)], false, []⟩,
 ⟨7, none, none, .store 12 (.tmp 6) (.tmp 16), false, []⟩,
 ⟨8, (some 7), none, .mov (.tmp 17), true, []⟩])
 (.seq (.region [] [⟨0, (some 18), none, .mov (.tmp 7), false, []⟩,
 ⟨1, (some 19), none, .bin .neq (.tmp 18) (.const (.v (.c (.int .i64 0)))), false, []⟩])
 (.cond (.tmp 19) (.seq (.region [] [⟨0, (some 20), none, .build [(.int .i64 0), (.int .i64 0), (.int .i64 0)] [], false, []⟩,
 ⟨1, (some 21), none, .mov (.tmp 7), false, []⟩,
 ⟨2, none, none, .store 3 (.tmp 4) (.tmp 20), false, []⟩,
 ⟨3, (some 5), none, .mov (.tmp 21), false, []⟩])
 .ret)
 .skip)))
 (.seq (.region [] [⟨0, (some 22), none, .addr 0 (.tmp 2), false, []⟩,
 ⟨1, (some 23), none, .load (some 9) (.tmp 22), false, []⟩,
 ⟨2, (some 24), none, .load (some 3) (.tmp 3), false, []⟩,
 ⟨3, (some 25), none, .call (.const (.v (.c (.fn 109 [])))) [(.tmp 23), (.tmp 24)], false, []⟩,
 ⟨4, none, none, .store 3 (.tmp 4) (.tmp 25), false, []⟩,
 ⟨5, (some 5), none, .mov (.const (.v (.c (.int .i64 0)))), false, []⟩])
 .ret))))⟩

/-- facet/fft.check -/
def c94 : AFun := ⟨35, [(2, none)],
 (.seq (.region [] [⟨0, (some 1), none, .box (.tmp 0), false, []⟩,
 ⟨1, (some 2), none, .mov (.const (.v (.c (.int .i64 0)))), false, []⟩])
 (.seq (.seq (.region [] [⟨0, (some 6), none, .addr 0 (.tmp 1), false, []⟩,
 ⟨1, (some 7), none, .load (some 3) (.tmp 6), false, []⟩,
 ⟨2, (some 8), none, .mov (.const (.v (.c (.int .i64 0)))), false, []⟩])
 (.block 0 (.loop (.seq (.region [] [⟨0, (some 9), none, .bin .lss (.tmp 8) (.const (.v (.c (.int .i64 3)))), false, []⟩])
 (.seq (.cond (.tmp 9) .skip
 (.exit 0))
 (.seq (.block 1 (.seq (.region [] [⟨0, (some 10), none, .index none 1 3 (.tmp 7) (.tmp 8), false, []⟩,
 ⟨1, (some 4), none, .mov (.tmp 10), false, []⟩])
 (.seq (.region [] [⟨0, (some 11), none, .mov (.tmp 4), false, []⟩,
 ⟨1, (some 12), none, .call (.const (.v (.c (.fn 110 [])))) [(.tmp 11)], false, []⟩,
 ⟨2, (some 13), none, .un .not (.tmp 12), false, []⟩])
 (.cond (.tmp 13) (.seq (.region [] [⟨0, (some 2), none, .mov (.const (.v (.c (.int .i64 1)))), false, []⟩])
 .ret)
 .skip))))
 (.region [] [⟨0, (some 14), none, .bin .add (.tmp 8) (.const (.v (.c (.int .i64 1)))), false, []⟩,
 ⟨1, (some 8), none, .mov (.tmp 14), false, []⟩])))))))
 (.seq (.seq (.region [] [⟨0, (some 15), none, .addr 0 (.tmp 1), false, []⟩,
 ⟨1, (some 16), none, .indexAddr 1 (some 3) (.tmp 15) (.const (.v (.c (.int .i64 0)))), false, []⟩,
 ⟨2, (some 17), none, .load none (.tmp 16), false, []⟩,
 ⟨3, (some 18), none, .addr 0 (.tmp 1), false, []⟩,
 ⟨4, (some 19), none, .indexAddr 1 (some 3) (.tmp 18) (.const (.v (.c (.int .i64 1)))), false, []⟩,
 ⟨5, (some 20), none, .load none (.tmp 19), false, []⟩,
 ⟨6, (some 21), none, .bin .mul (.tmp 17) (.tmp 20), false, []⟩,
 ⟨7, (some 22), none, .addr 0 (.tmp 1), false, []⟩,
 ⟨8, (some 23), none, .indexAddr 1 (some 3) (.tmp 22) (.const (.v (.c (.int .i64 2)))), false, []⟩,
 ⟨9, (some 24), none, .load none (.tmp 23), false, []⟩,
 ⟨10, (some 25), none, .bin .mul (.tmp 21) (.tmp 24), false, []⟩,
 ⟨11, (some 5), none, .mov (.tmp 25), false, []⟩])
 (.block 2 (.seq (.region [] [⟨0, (some 27), none, .mov (.tmp 5), false, []⟩,
 ⟨1, (some 28), none, .bin .gtr (.tmp 27) (.const (.v (.c (.int .i64 262144)))), false, []⟩,
 ⟨2, (some 26), none, .mov (.tmp 28), false, []⟩])
 (.cond (.tmp 26) (.seq (.region [] [⟨0, (some 2), none, .mov (.const (.v (.c (.int .i64 2)))), false, []⟩])
 .ret)
 (.seq (.region [] [⟨0, (some 30), none, .addr 3 (.tmp 1), false, []⟩,
 ⟨1, (some 31), none, .load none (.tmp 30), false, []⟩,
 ⟨2, (some 32), none, .bi .len [(.tmp 31)], false, []⟩,
 ⟨3, (some 33), none, .mov (.tmp 5), false, []⟩,
 ⟨4, (some 34), none, .bin .neq (.tmp 32) (.tmp 33), false, []⟩,
 ⟨5, (some 29), none, .mov (.tmp 34), false, []⟩])
 (.cond (.tmp 29) (.seq (.region [] [⟨0, (some 2), none, .mov (.const (.v (.c (.int .i64 3)))), false, []⟩])
 .ret)
 .skip))))))
 (.seq (.region [] [⟨0, (some 2), none, .mov (.const (.v (.c (.int .i64 0)))), false, []⟩])
 .ret))))⟩

/-- facet/fft.along[complex128] -/
def c95 : AFun := ⟨62, [],
 (.seq (.region [] [⟨0, (some 13), none, .mov (.tmp 1), false, []⟩,
 ⟨1, (some 14), none, .mkSlice 1 [(.cpx (.f 0) (.f 0))] 16 (.tmp 13) (.tmp 13), false, []⟩,
 ⟨2, (some 8), none, .mov (.tmp 14), false, []⟩])
 (.seq (.region [] [⟨0, (some 15), none, .mov (.tmp 0), false, []⟩,
 ⟨1, (some 16), none, .bi .len [(.tmp 15)], false, []⟩,
 ⟨2, (some 17), none, .mov (.const (.v (.c (.int .i64 0)))), false, []⟩])
 (.block 0 (.loop (.seq (.region [] [⟨0, (some 18), none, .bin .lss (.tmp 17) (.tmp 16), false, []⟩])
 (.seq (.cond (.tmp 18) .skip
 (.exit 0))
 (.seq (.block 1 (.seq (.region [] [⟨0, (some 19), none, .mov (.tmp 17), false, []⟩,
 ⟨1, (some 9), none, .mov (.tmp 19), false, []⟩])
 (.seq (.seq (.region [] [⟨0, (some 20), none, .mov (.tmp 9), false, []⟩,
 ⟨1, (some 21), none, .mov (.tmp 2), false, []⟩,
 ⟨2, (some 22), none, .bin .quo (.tmp 20) (.tmp 21), false, []⟩,
 ⟨3, (some 23), none, .mov (.tmp 1), false, []⟩,
 ⟨4, (some 24), none, .bin .rem (.tmp 22) (.tmp 23), false, []⟩,
 ⟨5, (some 25), none, .bin .neq (.tmp 24) (.const (.v (.c (.int .i64 0)))), false, []⟩])
 (.cond (.tmp 25) (.exit 1)
 .skip))
 (.seq (.seq (.region [] [⟨0, (some 26), none, .mov (.tmp 8), false, []⟩,
 ⟨1, (some 27), none, .bi .len [(.tmp 26)], false, []⟩,
 ⟨2, (some 28), none, .mov (.const (.v (.c (.int .i64 0)))), false, []⟩])
 (.block 2 (.loop (.seq (.region [] [⟨0, (some 29), none, .bin .lss (.tmp 28) (.tmp 27), false, []⟩])
 (.seq (.cond (.tmp 29) .skip
 (.exit 2))
 (.seq (.block 3 (.seq (.region [] [⟨0, (some 30), none, .mov (.tmp 28), false, []⟩,
 ⟨1, (some 10), none, .mov (.tmp 30), false, []⟩])
 (.region [] [⟨0, (some 31), none, .mov (.tmp 8), false, []⟩,
 ⟨1, (some 32), none, .mov (.tmp 10), false, []⟩,
 ⟨2, (some 33), none, .mov (.tmp 0), false, []⟩,
 ⟨3, (some 34), none, .mov (.tmp 9), false, []⟩,
 ⟨4, (some 35), none, .mov (.tmp 10), false, []⟩,
 ⟨5, (some 36), none, .mov (.tmp 2), false, []⟩,
 ⟨6, (some 37), none, .bin .mul (.tmp 35) (.tmp 36), false, []⟩,
 ⟨7, (some 38), none, .bin .add (.tmp 34) (.tmp 37), false, []⟩,
 ⟨8, (some 39), none, .indexAddr 1 none (.tmp 33) (.tmp 38), false, []⟩,
 ⟨9, (some 40), none, .load none (.tmp 39), false, []⟩,
 ⟨10, (some 41), none, .indexAddr 1 none (.tmp 31) (.tmp 32), false, []⟩,
 ⟨11, none, none, .store 1 (.tmp 41) (.tmp 40), false, []⟩])))
 (.region [] [⟨0, (some 42), none, .bin .add (.tmp 28) (.const (.v (.c (.int .i64 1)))), false, []⟩,
 ⟨1, (some 28), none, .mov (.tmp 42), false, []⟩])))))))
 (.seq (.region [] [⟨0, (some 43), none, .mov (.tmp 3), false, []⟩,
 ⟨1, (some 44), none, .mov (.tmp 8), false, []⟩,
 ⟨2, (some 45), none, .call (.tmp 43) [(.tmp 44)], false, []⟩,
 ⟨3, (some 46), none, .bi .len [(.tmp 45)], false, []⟩,
 ⟨4, (some 47), none, .mov (.const (.v (.c (.int .i64 0)))), false, []⟩])
 (.block 4 (.loop (.seq (.region [] [⟨0, (some 48), none, .bin .lss (.tmp 47) (.tmp 46), false, []⟩])
 (.seq (.cond (.tmp 48) .skip
 (.exit 4))
 (.seq (.block 5 (.seq (.region [] [⟨0, (some 49), none, .mov (.tmp 47), false, []⟩,
 ⟨1, (some 50), none, .indexAddr 1 none (.tmp 45) (.tmp 47), false, []⟩,
 ⟨2, (some 51), none, .load none (.tmp 50), false, []⟩,
 ⟨3, (some 11), none, .mov (.tmp 49), false, []⟩,
 ⟨4, (some 12), none, .mov (.tmp 51), false, []⟩])
 (.region [] [⟨0, (some 52), none, .mov (.tmp 0), false, []⟩,
 ⟨1, (some 53), none, .mov (.tmp 9), false, []⟩,
 ⟨2, (some 54), none, .mov (.tmp 11), false, []⟩,
 ⟨3, (some 55), none, .mov (.tmp 2), false, []⟩,
 ⟨4, (some 56), none, .bin .mul (.tmp 54) (.tmp 55), false, []⟩,
 ⟨5, (some 57), none, .bin .add (.tmp 53) (.tmp 56), false, []⟩,
 ⟨6, (some 58), none, .mov (.tmp 12), false, []⟩,
 ⟨7, (some 59), none, .indexAddr 1 none (.tmp 52) (.tmp 57), false, []⟩,
 ⟨8, none, none, .store 1 (.tmp 59) (.tmp 58), false, []⟩])))
 (.region [] [⟨0, (some 60), none, .bin .add (.tmp 47) (.const (.v (.c (.int .i64 1)))), false, []⟩,
 ⟨1, (some 47), none, .mov (.tmp 60), false, []⟩])))))))))))
 (.region [] [⟨0, (some 61), none, .bin .add (.tmp 17) (.const (.v (.c (.int .i64 1)))), false, []⟩,
 ⟨1, (some 17), none, .mov (.tmp 61), false, []⟩]))))))))⟩

/-- facet/fft.line -/
def c96 : AFun := ⟨100, [(4, none)],
 (.seq (.region [] [⟨0, (some 4), none, .mov (.const (.v (.c .nils))), false, []⟩])
 (.seq (.region [] [⟨0, (some 14), none, .mov (.tmp 0), false, []⟩,
 ⟨1, (some 15), none, .bi .len [(.tmp 14)], false, []⟩,
 ⟨2, (some 5), none, .mov (.tmp 15), false, []⟩])
 (.seq (.region [] [⟨0, (some 16), none, .mov (.tmp 5), false, []⟩,
 ⟨1, (some 17), none, .mkSlice 1 [(.cpx (.f 0) (.f 0))] 16 (.tmp 16) (.tmp 16), false, []⟩,
 ⟨2, (some 6), none, .mov (.tmp 17), false, []⟩])
 (.seq (.seq (.region [] [⟨0, (some 18), none, .mov (.tmp 5), false, []⟩,
 ⟨1, (some 19), none, .bin .rem (.tmp 18) (.const (.v (.c (.int .i64 2)))), false, []⟩,
 ⟨2, (some 20), none, .bin .eql (.tmp 19) (.const (.v (.c (.int .i64 1)))), false, []⟩])
 (.cond (.tmp 20) (.seq (.seq (.region [] [⟨0, (some 21), none, .mov (.tmp 6), false, []⟩,
 ⟨1, (some 22), none, .bi .len [(.tmp 21)], false, []⟩,
 ⟨2, (some 23), none, .mov (.const (.v (.c (.int .i64 0)))), false, []⟩])
 (.block 0 (.loop (.seq (.region [] [⟨0, (some 24), none, .bin .lss (.tmp 23) (.tmp 22), false, []⟩])
 (.seq (.cond (.tmp 24) .skip
 (.exit 0))
 (.seq (.block 1 (.seq (.region [] [⟨0, (some 25), none, .mov (.tmp 23), false, []⟩,
 ⟨1, (some 7), none, .mov (.tmp 25), false, []⟩])
 (.seq (.region [] [⟨0, (some 26), none, .mov (.tmp 5), false, []⟩,
 ⟨1, (some 27), none, .mkSlice 1 [(.cpx (.f 0) (.f 0))] 16 (.tmp 26) (.tmp 26), false, []⟩,
 ⟨2, (some 8), none, .mov (.tmp 27), false, []⟩])
 (.seq (.seq (.region [] [⟨0, (some 28), none, .mov (.tmp 8), false, []⟩,
 ⟨1, (some 29), none, .bi .len [(.tmp 28)], false, []⟩,
 ⟨2, (some 30), none, .mov (.const (.v (.c (.int .i64 0)))), false, []⟩])
 (.block 2 (.loop (.seq (.region [] [⟨0, (some 31), none, .bin .lss (.tmp 30) (.tmp 29), false, []⟩])
 (.seq (.cond (.tmp 31) .skip
 (.exit 2))
 (.seq (.block 3 (.seq (.region [] [⟨0, (some 32), none, .mov (.tmp 30), false, []⟩,
 ⟨1, (some 9), none, .mov (.tmp 32), false, []⟩])
 (.region [] [⟨0, (some 33), none, .mov (.tmp 8), true, []⟩,
 ⟨1, (some 34), none, .mov (.tmp 9), true, []⟩,
 ⟨2, (some 35), none, .mov (.tmp 0), true, []⟩,
 ⟨3, (some 36), none, .mov (.tmp 9), true, []⟩,
 ⟨4, (some 37), none, .indexAddr 1 none (.tmp 35) (.tmp 36), true, []⟩,
 ⟨5, (some 38), none, .load none (.tmp 37), true, []⟩,
 ⟨6, (some 39), none, .mov (.tmp 1), true, []⟩,
 ⟨7, (some 40), none, .mov (.tmp 7), true, []⟩,
 ⟨8, (some 41), none, .mov (.tmp 9), true, []⟩,
 ⟨9, (some 42), none, .bin .mul (.tmp 40) (.tmp 41), true, []⟩,
 ⟨10, (some 43), none, .mov (.tmp 5), true, []⟩,
 ⟨11, (some 44), none, .call (.tmp 39) [(.tmp 42), (.tmp 43)], false, [5]⟩,
 ⟨12, (some 45), none, .call (.const (.v (.c (.fn 20 [])))) [(.tmp 38), (.tmp 44)], false, []⟩,
 ⟨13, (some 46), none, .indexAddr 1 none (.tmp 33) (.tmp 34), true, []⟩,
 ⟨14, none, none, .store 1 (.tmp 46) (.tmp 45), false, []⟩])))
 (.region [] [⟨0, (some 47), none, .bin .add (.tmp 30) (.const (.v (.c (.int .i64 1)))), false, []⟩,
 ⟨1, (some 30), none, .mov (.tmp 47), false, []⟩])))))))
 (.region [] [⟨0, (some 48), none, .mov (.tmp 6), false, []⟩,
 ⟨1, (some 49), none, .mov (.tmp 7), false, []⟩,
 ⟨2, (some 50), none, .mov (.tmp 8), false, []⟩,
 ⟨3, (some 51), none, .call (.const (.v (.c (.fn 111 [])))) [(.tmp 50)], false, []⟩,
 ⟨4, (some 52), none, .indexAddr 1 none (.tmp 48) (.tmp 49), false, []⟩,
 ⟨5, none, none, .store 1 (.tmp 52) (.tmp 51), false, []⟩])))))
 (.region [] [⟨0, (some 53), none, .bin .add (.tmp 23) (.const (.v (.c (.int .i64 1)))), false, []⟩,
 ⟨1, (some 23), none, .mov (.tmp 53), false, []⟩])))))))
 (.seq (.region [] [⟨0, (some 54), none, .mov (.tmp 6), false, []⟩,
 ⟨1, (some 4), none, .mov (.tmp 54), false, []⟩])
 .ret))
 .skip))
 (.seq (.region [] [⟨0, (some 55), none, .mov (.tmp 0), false, []⟩,
 ⟨1, (some 56), none, .call (.const (.v (.c (.fn 112 [])))) [(.tmp 55), (.const (.v (.c (.int .i64 0))))], false, []⟩,
 ⟨2, (some 57), none, .mov (.tmp 1), false, []⟩,
 ⟨3, (some 58), none, .call (.const (.v (.c (.fn 96 [])))) [(.tmp 56), (.tmp 57)], false, []⟩,
 ⟨4, (some 59), none, .mov (.tmp 0), false, []⟩,
 ⟨5, (some 60), none, .call (.const (.v (.c (.fn 112 [])))) [(.tmp 59), (.const (.v (.c (.int .i64 1))))], false, []⟩,
 ⟨6, (some 61), none, .mov (.tmp 1), false, []⟩,
 ⟨7, (some 62), none, .call (.const (.v (.c (.fn 96 [])))) [(.tmp 60), (.tmp 61)], false, []⟩,
 ⟨8, (some 10), none, .mov (.tmp 58), false, []⟩,
 ⟨9, (some 11), none, .mov (.tmp 62), false, []⟩])
 (.seq (.seq (.region [] [⟨0, (some 63), none, .mov (.tmp 10), false, []⟩,
 ⟨1, (some 64), none, .bi .len [(.tmp 63)], false, []⟩,
 ⟨2, (some 65), none, .mov (.const (.v (.c (.int .i64 0)))), false, []⟩])
 (.block 4 (.loop (.seq (.region [] [⟨0, (some 66), none, .bin .lss (.tmp 65) (.tmp 64), false, []⟩])
 (.seq (.cond (.tmp 66) .skip
 (.exit 4))
 (.seq (.block 5 (.seq (.region [] [⟨0, (some 67), none, .mov (.tmp 65), false, []⟩,
 ⟨1, (some 12), none, .mov (.tmp 67), false, []⟩])
 (.seq (.region [] [⟨0, (some 68), none, .mov (.tmp 1), true, []⟩,
 ⟨1, (some 69), none, .mov (.tmp 12), true, []⟩,
 ⟨2, (some 70), none, .mov (.tmp 5), true, []⟩,
 ⟨4, (some 72), none, .mov (.tmp 11), true, []⟩,
 ⟨5, (some 73), none, .mov (.tmp 12), true, []⟩,
 ⟨6, (some 74), none, .indexAddr 1 none (.tmp 72) (.tmp 73), true, []⟩,
 ⟨7, (some 75), none, .load none (.tmp 74), true, []⟩,
 ⟨3, (some 71), none, .call (.tmp 68) [(.tmp 69), (.tmp 70)], false, [7]⟩,
 ⟨8, (some 76), none, .call (.const (.v (.c (.fn 20 [])))) [(.tmp 71), (.tmp 75)], false, []⟩,
 ⟨9, (some 13), none, .mov (.tmp 76), true, []⟩])
 (.region [] [⟨0, (some 77), none, .mov (.tmp 6), true, []⟩,
 ⟨1, (some 78), none, .mov (.tmp 12), true, []⟩,
 ⟨2, (some 79), none, .mov (.tmp 6), true, []⟩,
 ⟨3, (some 80), none, .mov (.tmp 12), true, []⟩,
 ⟨4, (some 81), none, .mov (.tmp 5), true, []⟩,
 ⟨5, (some 82), none, .bin .quo (.tmp 81) (.const (.v (.c (.int .i64 2)))), true, []⟩,
 ⟨6, (some 83), none, .bin .add (.tmp 80) (.tmp 82), true, []⟩,
 ⟨7, (some 84), none, .mov (.tmp 10), true, []⟩,
 ⟨8, (some 85), none, .mov (.tmp 12), true, []⟩,
 ⟨9, (some 86), none, .indexAddr 1 none (.tmp 84) (.tmp 85), true, []⟩,
 ⟨10, (some 87), none, .load none (.tmp 86), true, []⟩,
 ⟨11, (some 88), none, .mov (.tmp 13), true, []⟩,
 ⟨12, (some 89), none, .bin .add (.tmp 87) (.tmp 88), true, []⟩,
 ⟨13, (some 90), none, .mov (.tmp 10), true, []⟩,
 ⟨14, (some 91), none, .mov (.tmp 12), true, []⟩,
 ⟨15, (some 92), none, .indexAddr 1 none (.tmp 90) (.tmp 91), true, []⟩,
 ⟨16, (some 93), none, .load none (.tmp 92), true, []⟩,
 ⟨17, (some 94), none, .mov (.tmp 13), true, []⟩,
 ⟨18, (some 95), none, .bin .sub (.tmp 93) (.tmp 94), true, []⟩,
 ⟨19, (some 96), none, .indexAddr 1 none (.tmp 77) (.tmp 78), true, []⟩,
 ⟨20, none, none, .store 1 (.tmp 96) (.tmp 89), false, []⟩,
 ⟨21, (some 97), none, .indexAddr 1 none (.tmp 79) (.tmp 83), true, []⟩,
 ⟨22, none, none, .store 1 (.tmp 97) (.tmp 95), false, []⟩]))))
 (.region [] [⟨0, (some 98), none, .bin .add (.tmp 65) (.const (.v (.c (.int .i64 1)))), false, []⟩,
 ⟨1, (some 65), none, .mov (.tmp 98), false, []⟩])))))))
 (.seq (.region [] [⟨0, (some 99), none, .mov (.tmp 6), false, []⟩,
 ⟨1, (some 4), none, .mov (.tmp 99), false, []⟩])
 .ret)))))))⟩

/-- facet/fft.there -/
def c97 : AFun := ⟨14, [(4, none)],
 (.seq (.region [] [⟨0, (some 4), none, .mov (.const (.v (.c (.cpx (.f 0) (.f 0))))), false, []⟩])
 (.seq (.region [] [⟨0, (some 8), none, .mov (.tmp 0), false, []⟩,
 ⟨1, (some 9), none, .mov (.tmp 1), false, []⟩,
 ⟨2, (some 10), none, .call (.const (.v (.c (.fn 32 [])))) [(.tmp 8), (.tmp 9)], false, []⟩,
 ⟨3, (some 7), none, .mov (.tmp 10), false, []⟩,
 ⟨4, (some 11), none, .extract 0 (.tmp 7), false, []⟩,
 ⟨5, (some 12), none, .extract 1 (.tmp 7), false, []⟩,
 ⟨6, (some 5), none, .mov (.tmp 11), false, []⟩,
 ⟨7, (some 6), none, .mov (.tmp 12), false, []⟩])
 (.seq (.region [] [⟨0, (some 13), none, .mov (.tmp 5), false, []⟩,
 ⟨1, (some 4), none, .mov (.tmp 13), false, []⟩])
 .ret)))⟩

/-- facet/pairs.Friedel -/
def c98 : AFun := ⟨51, [(2, none), (3, none)],
 (.seq (.region [] [⟨0, (some 2), none, .mov (.const (.v (.c .nils))), false, []⟩,
 ⟨1, (some 3), none, .mov (.const (.v (.c (.int .i64 0)))), false, []⟩])
 (.seq (.seq (.region [] [⟨0, (some 11), none, .mov (.tmp 0), false, []⟩,
 ⟨1, (some 12), none, .call (.const (.v (.c (.fn 33 [])))) [(.tmp 11)], false, []⟩,
 ⟨2, (some 4), none, .mov (.tmp 12), false, []⟩])
 (.seq (.region [] [⟨0, (some 13), none, .mov (.tmp 4), false, []⟩,
 ⟨1, (some 14), none, .bin .neq (.tmp 13) (.const (.v (.c (.int .i64 0)))), false, []⟩])
 (.cond (.tmp 14) (.seq (.region [] [⟨0, (some 15), none, .mov (.tmp 4), false, []⟩,
 ⟨1, (some 2), none, .mov (.const (.v (.c .nils))), false, []⟩,
 ⟨2, (some 3), none, .mov (.tmp 15), false, []⟩])
 .ret)
 .skip)))
 (.seq (.region [] [⟨0, (some 16), none, .mov (.tmp 0), false, []⟩,
 ⟨1, (some 17), none, .call (.const (.v (.c (.fn 113 [])))) [(.tmp 16)], false, []⟩,
 ⟨2, (some 5), none, .mov (.tmp 17), false, []⟩])
 (.seq (.region [] [⟨0, (some 6), none, .mov (.const (.v (.c .nils))), false, []⟩])
 (.seq (.seq (.region [] [⟨0, (some 18), none, .mov (.tmp 0), false, []⟩,
 ⟨1, (some 19), none, .bi .len [(.tmp 18)], false, []⟩,
 ⟨2, (some 20), none, .mov (.const (.v (.c (.int .i64 0)))), false, []⟩])
 (.block 0 (.loop (.seq (.region [] [⟨0, (some 21), none, .bin .lss (.tmp 20) (.tmp 19), false, []⟩])
 (.seq (.cond (.tmp 21) .skip
 (.exit 0))
 (.seq (.block 1 (.seq (.region [] [⟨0, (some 22), none, .mov (.tmp 20), false, []⟩,
 ⟨1, (some 23), none, .indexAddr 4 none (.tmp 18) (.tmp 20), false, []⟩,
 ⟨2, (some 24), none, .load (some 4) (.tmp 23), false, []⟩,
 ⟨3, (some 8), none, .alloc [(.int .i64 0), (.int .i64 0), (.int .i64 0), (.cpx (.f 0) (.f 0))], false, []⟩,
 ⟨4, (some 7), none, .mov (.tmp 22), false, []⟩,
 ⟨5, none, none, .store 4 (.tmp 8) (.tmp 24), false, []⟩])
 (.seq (.region [] [⟨0, (some 26), none, .mov (.tmp 5), false, []⟩,
 ⟨1, (some 27), none, .addr 0 (.tmp 8), false, []⟩,
 ⟨2, (some 28), none, .load (some 3) (.tmp 27), false, []⟩,
 ⟨3, (some 29), none, .call (.const (.v (.c (.fn 114 [])))) [(.tmp 28)], false, []⟩,
 ⟨4, (some 30), none, .lookup (some 3) (.c (.int .i64 0)) (.tmp 26) (.tmp 29) true, false, []⟩,
 ⟨5, (some 25), none, .mov (.tmp 30), false, []⟩,
 ⟨6, (some 31), none, .extract 0 (.tmp 25), false, []⟩,
 ⟨7, (some 32), none, .extract 1 (.tmp 25), false, []⟩,
 ⟨8, (some 9), none, .mov (.tmp 31), false, []⟩,
 ⟨9, (some 10), none, .mov (.tmp 32), false, []⟩])
 (.seq (.region [] [⟨0, (some 33), none, .mov (.tmp 10), true, []⟩,
 ⟨1, (some 34), none, .mov (.tmp 33), true, []⟩,
 ⟨2, (some 35), (some (34, true)), .addr 3 (.tmp 8), true, []⟩,
 ⟨3, (some 36), (some (34, true)), .load none (.tmp 35), true, []⟩,
 ⟨4, (some 37), (some (34, true)), .mov (.tmp 0), true, []⟩,
 ⟨5, (some 38), (some (34, true)), .mov (.tmp 9), true, []⟩,
 ⟨6, (some 39), (some (34, true)), .indexAddr 4 none (.tmp 37) (.tmp 38), true, []⟩,
 ⟨7, (some 40), (some (34, true)), .addr 3 (.tmp 39), true, []⟩,
 ⟨8, (some 41), (some (34, true)), .load none (.tmp 40), true, []⟩,
 ⟨9, (some 42), (some (34, true)), .call (.const (.v (.c (.fn 115 [])))) [(.tmp 41)], false, [3]⟩,
 ⟨10, (some 43), (some (34, true)), .bin .neq (.tmp 36) (.tmp 42), true, []⟩,
 ⟨11, (some 44), none, .pick (.tmp 34) (.tmp 43) (.const (.v (.c (.bool false)))), true, []⟩])
 (.cond (.tmp 44) (.region [] [⟨0, (some 45), none, .mov (.tmp 6), false, []⟩,
 ⟨1, (some 46), none, .mov (.tmp 7), false, []⟩,
 ⟨2, (some 47), none, .buildSlice [(.int .i64 0)] [(0, 1, (.tmp 46))] 1, false, []⟩,
 ⟨3, (some 48), none, .bi (.append 1 [(.int .i64 0)] 8) [(.tmp 45), (.tmp 47)], false, []⟩,
 ⟨4, (some 6), none, .mov (.tmp 48), false, []⟩])
 .skip)))))
 (.region [] [⟨0, (some 49), none, .bin .add (.tmp 20) (.const (.v (.c (.int .i64 1)))), false, []⟩,
 ⟨1, (some 20), none, .mov (.tmp 49), false, []⟩])))))))
 (.seq (.region [] [⟨0, (some 50), none, .mov (.tmp 6), false, []⟩,
 ⟨1, (some 2), none, .mov (.tmp 50), false, []⟩,
 ⟨2, (some 3), none, .mov (.const (.v (.c (.int .i64 0)))), false, []⟩])
 .ret))))))⟩

/-- slices.IndexFunc[[]facet/api.Wave,facet/api.Wave] -/
def c99 : AFun := ⟨19, [(4, none)],
 (.seq (.region [] [⟨0, (some 4), none, .mov (.const (.v (.c (.int .i64 0)))), false, []⟩])
 (.seq (.seq (.region [] [⟨0, (some 6), none, .mov (.tmp 0), false, []⟩,
 ⟨1, (some 7), none, .bi .len [(.tmp 6)], false, []⟩,
 ⟨2, (some 8), none, .mov (.const (.v (.c (.int .i64 0)))), false, []⟩])
 (.block 0 (.loop (.seq (.region [] [⟨0, (some 9), none, .bin .lss (.tmp 8) (.tmp 7), false, []⟩])
 (.seq (.cond (.tmp 9) .skip
 (.exit 0))
 (.seq (.block 1 (.seq (.region [] [⟨0, (some 10), none, .mov (.tmp 8), false, []⟩,
 ⟨1, (some 5), none, .mov (.tmp 10), false, []⟩])
 (.seq (.region [] [⟨0, (some 11), none, .mov (.tmp 1), false, []⟩,
 ⟨1, (some 12), none, .mov (.tmp 0), false, []⟩,
 ⟨2, (some 13), none, .mov (.tmp 5), false, []⟩,
 ⟨3, (some 14), none, .indexAddr 4 none (.tmp 12) (.tmp 13), false, []⟩,
 ⟨4, (some 15), none, .load (some 4) (.tmp 14), false, []⟩,
 ⟨5, (some 16), none, .call (.tmp 11) [(.tmp 15)], false, []⟩])
 (.cond (.tmp 16) (.seq (.region [] [⟨0, (some 17), none, .mov (.tmp 5), false, []⟩,
 ⟨1, (some 4), none, .mov (.tmp 17), false, []⟩])
 .ret)
 .skip))))
 (.region [] [⟨0, (some 18), none, .bin .add (.tmp 8) (.const (.v (.c (.int .i64 1)))), false, []⟩,
 ⟨1, (some 8), none, .mov (.tmp 18), false, []⟩])))))))
 (.seq (.region [] [⟨0, (some 4), none, .mov (.const (.v (.c (.int .i64 (-1))))), false, []⟩])
 .ret)))⟩

/-- facet/fft.back -/
def c100 : AFun := ⟨9, [(4, none)],
 (.seq (.region [] [⟨0, (some 4), none, .mov (.const (.v (.c (.cpx (.f 0) (.f 0))))), false, []⟩])
 (.seq (.region [] [⟨0, (some 5), none, .mov (.tmp 0), false, []⟩,
 ⟨1, (some 6), none, .mov (.tmp 1), false, []⟩,
 ⟨2, (some 7), none, .call (.const (.v (.c (.fn 97 [])))) [(.tmp 5), (.tmp 6)], false, []⟩,
 ⟨3, (some 8), none, .call (.const (.v (.c (.fn 115 [])))) [(.tmp 7)], false, []⟩,
 ⟨4, (some 4), none, .mov (.tmp 8), false, []⟩])
 .ret))⟩

/-- slices.siftDownCmpFunc[facet/api.Wave] -/
def c101 : AFun := ⟨82, [],
 (.seq (.region [] [⟨0, (some 12), none, .mov (.tmp 1), false, []⟩,
 ⟨1, (some 10), none, .mov (.tmp 12), false, []⟩])
 (.block 0 (.loop (.block 1 (.seq (.region [] [⟨0, (some 13), none, .mov (.tmp 10), false, []⟩,
 ⟨1, (some 14), none, .bin .mul (.const (.v (.c (.int .i64 2)))) (.tmp 13), false, []⟩,
 ⟨2, (some 15), none, .bin .add (.tmp 14) (.const (.v (.c (.int .i64 1)))), false, []⟩,
 ⟨3, (some 11), none, .mov (.tmp 15), false, []⟩])
 (.seq (.seq (.region [] [⟨0, (some 16), none, .mov (.tmp 11), false, []⟩,
 ⟨1, (some 17), none, .mov (.tmp 2), false, []⟩,
 ⟨2, (some 18), none, .bin .geq (.tmp 16) (.tmp 17), false, []⟩])
 (.cond (.tmp 18) (.exit 0)
 .skip))
 (.seq (.seq (.region [] [⟨0, (some 19), none, .mov (.tmp 11), true, []⟩,
 ⟨1, (some 20), none, .bin .add (.tmp 19) (.const (.v (.c (.int .i64 1)))), true, []⟩,
 ⟨2, (some 21), none, .mov (.tmp 2), true, []⟩,
 ⟨3, (some 22), none, .bin .lss (.tmp 20) (.tmp 21), true, []⟩,
 ⟨4, (some 23), none, .mov (.tmp 22), true, []⟩,
 ⟨5, (some 24), (some (23, true)), .mov (.tmp 4), true, []⟩,
 ⟨6, (some 25), (some (23, true)), .mov (.tmp 0), true, []⟩,
 ⟨7, (some 26), (some (23, true)), .mov (.tmp 3), true, []⟩,
 ⟨8, (some 27), (some (23, true)), .mov (.tmp 11), true, []⟩,
 ⟨9, (some 28), (some (23, true)), .bin .add (.tmp 26) (.tmp 27), true, []⟩,
 ⟨10, (some 29), (some (23, true)), .indexAddr 4 none (.tmp 25) (.tmp 28), true, []⟩,
 ⟨11, (some 30), (some (23, true)), .load (some 4) (.tmp 29), true, []⟩,
 ⟨12, (some 31), (some (23, true)), .mov (.tmp 0), true, []⟩,
 ⟨13, (some 32), (some (23, true)), .mov (.tmp 3), true, []⟩,
 ⟨14, (some 33), (some (23, true)), .mov (.tmp 11), true, []⟩,
 ⟨15, (some 34), (some (23, true)), .bin .add (.tmp 32) (.tmp 33), true, []⟩,
 ⟨16, (some 35), (some (23, true)), .bin .add (.tmp 34) (.const (.v (.c (.int .i64 1)))), true, []⟩,
 ⟨17, (some 36), (some (23, true)), .indexAddr 4 none (.tmp 31) (.tmp 35), true, []⟩,
 ⟨18, (some 37), (some (23, true)), .load (some 4) (.tmp 36), true, []⟩,
 ⟨19, (some 38), (some (23, true)), .call (.tmp 24) [(.tmp 30), (.tmp 37)], false, []⟩,
 ⟨20, (some 39), (some (23, true)), .bin .lss (.tmp 38) (.const (.v (.c (.int .i64 0)))), true, []⟩,
 ⟨21, (some 40), none, .pick (.tmp 23) (.tmp 39) (.const (.v (.c (.bool false)))), true, []⟩])
 (.cond (.tmp 40) (.region [] [⟨0, (some 41), none, .mov (.tmp 11), false, []⟩,
 ⟨1, (some 42), none, .bin .add (.tmp 41) (.const (.v (.c (.int .i64 1)))), false, []⟩,
 ⟨2, (some 11), none, .mov (.tmp 42), false, []⟩])
 .skip))
 (.seq (.seq (.region [] [⟨0, (some 43), none, .mov (.tmp 4), true, []⟩,
 ⟨1, (some 44), none, .mov (.tmp 0), true, []⟩,
 ⟨2, (some 45), none, .mov (.tmp 3), true, []⟩,
 ⟨3, (some 46), none, .mov (.tmp 10), true, []⟩,
 ⟨4, (some 47), none, .bin .add (.tmp 45) (.tmp 46), true, []⟩,
 ⟨5, (some 48), none, .indexAddr 4 none (.tmp 44) (.tmp 47), true, []⟩,
 ⟨6, (some 49), none, .load (some 4) (.tmp 48), true, []⟩,
 ⟨7, (some 50), none, .mov (.tmp 0), true, []⟩,
 ⟨8, (some 51), none, .mov (.tmp 3), true, []⟩,
 ⟨9, (some 52), none, .mov (.tmp 11), true, []⟩,
 ⟨10, (some 53), none, .bin .add (.tmp 51) (.tmp 52), true, []⟩,
 ⟨11, (some 54), none, .indexAddr 4 none (.tmp 50) (.tmp 53), true, []⟩,
 ⟨12, (some 55), none, .load (some 4) (.tmp 54), true, []⟩,
 ⟨13, (some 56), none, .call (.tmp 43) [(.tmp 49), (.tmp 55)], false, []⟩,
 ⟨14, (some 57), none, .bin .lss (.tmp 56) (.const (.v (.c (.int .i64 0)))), true, []⟩,
 ⟨15, (some 58), none, .un .not (.tmp 57), true, []⟩])
 (.cond (.tmp 58) .ret
 .skip))
 (.seq (.region [] [⟨0, (some 59), none, .mov (.tmp 0), true, []⟩,
 ⟨1, (some 60), none, .mov (.tmp 3), true, []⟩,
 ⟨2, (some 61), none, .mov (.tmp 10), true, []⟩,
 ⟨3, (some 62), none, .bin .add (.tmp 60) (.tmp 61), true, []⟩,
 ⟨4, (some 63), none, .mov (.tmp 0), true, []⟩,
 ⟨5, (some 64), none, .mov (.tmp 3), true, []⟩,
 ⟨6, (some 65), none, .mov (.tmp 11), true, []⟩,
 ⟨7, (some 66), none, .bin .add (.tmp 64) (.tmp 65), true, []⟩,
 ⟨8, (some 67), none, .mov (.tmp 0), true, []⟩,
 ⟨9, (some 68), none, .mov (.tmp 3), true, []⟩,
 ⟨10, (some 69), none, .mov (.tmp 11), true, []⟩,
 ⟨11, (some 70), none, .bin .add (.tmp 68) (.tmp 69), true, []⟩,
 ⟨12, (some 71), none, .indexAddr 4 none (.tmp 67) (.tmp 70), true, []⟩,
 ⟨13, (some 72), none, .load (some 4) (.tmp 71), true, []⟩,
 ⟨14, (some 73), none, .mov (.tmp 0), true, []⟩,
 ⟨15, (some 74), none, .mov (.tmp 3), true, []⟩,
 ⟨16, (some 75), none, .mov (.tmp 10), true, []⟩,
 ⟨17, (some 76), none, .bin .add (.tmp 74) (.tmp 75), true, []⟩,
 ⟨18, (some 77), none, .indexAddr 4 none (.tmp 73) (.tmp 76), true, []⟩,
 ⟨19, (some 78), none, .load (some 4) (.tmp 77), true, []⟩,
 ⟨20, (some 79), none, .indexAddr 4 none (.tmp 59) (.tmp 62), true, []⟩,
 ⟨21, none, none, .store 4 (.tmp 79) (.tmp 72), false, []⟩,
 ⟨22, (some 80), none, .indexAddr 4 none (.tmp 63) (.tmp 66), true, []⟩,
 ⟨23, none, none, .store 4 (.tmp 80) (.tmp 78), false, []⟩])
 (.region [] [⟨0, (some 81), none, .mov (.tmp 11), false, []⟩,
 ⟨1, (some 10), none, .mov (.tmp 81), false, []⟩]))))))))))⟩

/-- slices.nextPowerOfTwo -/
def c102 : AFun := ⟨7, [(2, none)],
 (.seq (.region [] [⟨0, (some 2), none, .mov (.const (.v (.c (.int .u64 0)))), false, []⟩])
 (.seq (.region [] [⟨0, (some 3), none, .mov (.tmp 0), false, []⟩,
 ⟨1, (some 4), none, .toInt .u64 (.tmp 3), false, []⟩,
 ⟨2, (some 5), none, .call (.const (.v (.c (.fn 68 [])))) [(.tmp 4)], false, []⟩,
 ⟨3, (some 6), none, .bin .shl (.const (.v (.c (.int .u64 1)))) (.tmp 5), false, []⟩,
 ⟨4, (some 2), none, .mov (.tmp 6), false, []⟩])
 .ret))⟩

/-- (*slices.xorshift).Next -/
def c103 : AFun := ⟨33, [(2, none)],
 (.seq (.region [] [⟨0, (some 2), none, .mov (.const (.v (.c (.int .u64 0)))), false, []⟩])
 (.seq (.region [] [⟨0, (some 3), none, .mov (.tmp 0), true, []⟩,
 ⟨1, (some 4), none, .nilCheck (.tmp 3), true, []⟩,
 ⟨2, (some 5), none, .load none (.tmp 4), true, []⟩,
 ⟨3, (some 6), none, .mov (.tmp 0), true, []⟩,
 ⟨4, (some 7), none, .nilCheck (.tmp 6), true, []⟩,
 ⟨5, (some 8), none, .load none (.tmp 7), true, []⟩,
 ⟨6, (some 9), none, .bin .shl (.tmp 8) (.const (.v (.c (.int .u64 13)))), true, []⟩,
 ⟨7, (some 10), none, .bin .xor (.tmp 5) (.tmp 9), true, []⟩,
 ⟨8, (some 11), none, .nilCheck (.tmp 3), true, []⟩,
 ⟨9, none, none, .store 1 (.tmp 11) (.tmp 10), false, []⟩])
 (.seq (.region [] [⟨0, (some 12), none, .mov (.tmp 0), true, []⟩,
 ⟨1, (some 13), none, .nilCheck (.tmp 12), true, []⟩,
 ⟨2, (some 14), none, .load none (.tmp 13), true, []⟩,
 ⟨3, (some 15), none, .mov (.tmp 0), true, []⟩,
 ⟨4, (some 16), none, .nilCheck (.tmp 15), true, []⟩,
 ⟨5, (some 17), none, .load none (.tmp 16), true, []⟩,
 ⟨6, (some 18), none, .bin .shr (.tmp 17) (.const (.v (.c (.int .u64 7)))), true, []⟩,
 ⟨7, (some 19), none, .bin .xor (.tmp 14) (.tmp 18), true, []⟩,
 ⟨8, (some 20), none, .nilCheck (.tmp 12), true, []⟩,
 ⟨9, none, none, .store 1 (.tmp 20) (.tmp 19), false, []⟩])
 (.seq (.region [] [⟨0, (some 21), none, .mov (.tmp 0), true, []⟩,
 ⟨1, (some 22), none, .nilCheck (.tmp 21), true, []⟩,
 ⟨2, (some 23), none, .load none (.tmp 22), true, []⟩,
 ⟨3, (some 24), none, .mov (.tmp 0), true, []⟩,
 ⟨4, (some 25), none, .nilCheck (.tmp 24), true, []⟩,
 ⟨5, (some 26), none, .load none (.tmp 25), true, []⟩,
 ⟨6, (some 27), none, .bin .shl (.tmp 26) (.const (.v (.c (.int .u64 17)))), true, []⟩,
 ⟨7, (some 28), none, .bin .xor (.tmp 23) (.tmp 27), true, []⟩,
 ⟨8, (some 29), none, .nilCheck (.tmp 21), true, []⟩,
 ⟨9, none, none, .store 1 (.tmp 29) (.tmp 28), false, []⟩])
 (.seq (.region [] [⟨0, (some 30), none, .mov (.tmp 0), false, []⟩,
 ⟨1, (some 31), none, .nilCheck (.tmp 30), false, []⟩,
 ⟨2, (some 32), none, .load none (.tmp 31), false, []⟩,
 ⟨3, (some 2), none, .mov (.tmp 32), false, []⟩])
 .ret)))))⟩

/-- slices.medianAdjacentCmpFunc[facet/api.Wave] -/
def c104 : AFun := ⟨18, [(8, none)],
 (.seq (.region [] [⟨0, (some 8), none, .mov (.const (.v (.c (.int .i64 0)))), false, []⟩])
 (.seq (.region [] [⟨0, (some 9), none, .mov (.tmp 0), false, []⟩,
 ⟨1, (some 10), none, .mov (.tmp 1), false, []⟩,
 ⟨2, (some 11), none, .bin .sub (.tmp 10) (.const (.v (.c (.int .i64 1)))), false, []⟩,
 ⟨3, (some 12), none, .mov (.tmp 1), false, []⟩,
 ⟨4, (some 13), none, .mov (.tmp 1), false, []⟩,
 ⟨5, (some 14), none, .bin .add (.tmp 13) (.const (.v (.c (.int .i64 1)))), false, []⟩,
 ⟨6, (some 15), none, .mov (.tmp 2), false, []⟩,
 ⟨7, (some 16), none, .mov (.tmp 3), false, []⟩,
 ⟨8, (some 17), none, .call (.const (.v (.c (.fn 105 [])))) [(.tmp 9), (.tmp 11), (.tmp 12), (.tmp 14), (.tmp 15), (.tmp 16)], false, []⟩,
 ⟨9, (some 8), none, .mov (.tmp 17), false, []⟩])
 .ret))⟩

/-- slices.medianCmpFunc[facet/api.Wave] -/
def c105 : AFun := ⟨41, [(12, none)],
 (.seq (.region [] [⟨0, (some 12), none, .mov (.const (.v (.c (.int .i64 0)))), false, []⟩])
 (.seq (.region [] [⟨0, (some 14), none, .mov (.tmp 0), false, []⟩,
 ⟨1, (some 15), none, .mov (.tmp 1), false, []⟩,
 ⟨2, (some 16), none, .mov (.tmp 2), false, []⟩,
 ⟨3, (some 17), none, .mov (.tmp 4), false, []⟩,
 ⟨4, (some 18), none, .mov (.tmp 5), false, []⟩,
 ⟨5, (some 19), none, .call (.const (.v (.c (.fn 116 [])))) [(.tmp 14), (.tmp 15), (.tmp 16), (.tmp 17), (.tmp 18)], false, []⟩,
 ⟨6, (some 13), none, .mov (.tmp 19), false, []⟩,
 ⟨7, (some 20), none, .extract 0 (.tmp 13), false, []⟩,
 ⟨8, (some 21), none, .extract 1 (.tmp 13), false, []⟩,
 ⟨9, (some 1), none, .mov (.tmp 20), false, []⟩,
 ⟨10, (some 2), none, .mov (.tmp 21), false, []⟩])
 (.seq (.region [] [⟨0, (some 23), none, .mov (.tmp 0), false, []⟩,
 ⟨1, (some 24), none, .mov (.tmp 2), false, []⟩,
 ⟨2, (some 25), none, .mov (.tmp 3), false, []⟩,
 ⟨3, (some 26), none, .mov (.tmp 4), false, []⟩,
 ⟨4, (some 27), none, .mov (.tmp 5), false, []⟩,
 ⟨5, (some 28), none, .call (.const (.v (.c (.fn 116 [])))) [(.tmp 23), (.tmp 24), (.tmp 25), (.tmp 26), (.tmp 27)], false, []⟩,
 ⟨6, (some 22), none, .mov (.tmp 28), false, []⟩,
 ⟨7, (some 29), none, .extract 0 (.tmp 22), false, []⟩,
 ⟨8, (some 30), none, .extract 1 (.tmp 22), false, []⟩,
 ⟨9, (some 2), none, .mov (.tmp 29), false, []⟩,
 ⟨10, (some 3), none, .mov (.tmp 30), false, []⟩])
 (.seq (.region [] [⟨0, (some 32), none, .mov (.tmp 0), false, []⟩,
 ⟨1, (some 33), none, .mov (.tmp 1), false, []⟩,
 ⟨2, (some 34), none, .mov (.tmp 2), false, []⟩,
 ⟨3, (some 35), none, .mov (.tmp 4), false, []⟩,
 ⟨4, (some 36), none, .mov (.tmp 5), false, []⟩,
 ⟨5, (some 37), none, .call (.const (.v (.c (.fn 116 [])))) [(.tmp 32), (.tmp 33), (.tmp 34), (.tmp 35), (.tmp 36)], false, []⟩,
 ⟨6, (some 31), none, .mov (.tmp 37), false, []⟩,
 ⟨7, (some 38), none, .extract 0 (.tmp 31), false, []⟩,
 ⟨8, (some 39), none, .extract 1 (.tmp 31), false, []⟩,
 ⟨9, (some 1), none, .mov (.tmp 38), false, []⟩,
 ⟨10, (some 2), none, .mov (.tmp 39), false, []⟩])
 (.seq (.region [] [⟨0, (some 40), none, .mov (.tmp 2), false, []⟩,
 ⟨1, (some 12), none, .mov (.tmp 40), false, []⟩])
 .ret)))))⟩

/-- facet/hkl.right -/
def c106 : AFun := ⟨16, [(2, none)],
 (.seq (.region [] [⟨0, (some 1), none, .box (.tmp 0), false, []⟩,
 ⟨1, (some 2), none, .mov (.const (.v (.c (.bool false)))), false, []⟩])
 (.seq (.seq (.region [] [⟨0, (some 5), none, .load (some 3) (.tmp 1), false, []⟩,
 ⟨1, (some 6), none, .mov (.const (.v (.c (.int .i64 0)))), false, []⟩])
 (.block 0 (.loop (.seq (.region [] [⟨0, (some 7), none, .bin .lss (.tmp 6) (.const (.v (.c (.int .i64 3)))), false, []⟩])
 (.seq (.cond (.tmp 7) .skip
 (.exit 0))
 (.seq (.block 1 (.seq (.region [] [⟨0, (some 8), none, .index none 1 3 (.tmp 5) (.tmp 6), false, []⟩,
 ⟨1, (some 4), none, .mov (.tmp 8), false, []⟩])
 (.seq (.region [] [⟨0, (some 9), none, .mov (.tmp 4), false, []⟩,
 ⟨1, (some 10), none, .bin .lss (.tmp 9) (.const (.v (.c (.int .i64 (-512))))), false, []⟩,
 ⟨2, (some 11), none, .mov (.tmp 10), false, []⟩,
 ⟨3, (some 12), (some (11, false)), .mov (.tmp 4), false, []⟩,
 ⟨4, (some 13), (some (11, false)), .bin .gtr (.tmp 12) (.const (.v (.c (.int .i64 512)))), false, []⟩,
 ⟨5, (some 14), none, .pick (.tmp 11) (.const (.v (.c (.bool true)))) (.tmp 13), false, []⟩])
 (.cond (.tmp 14) (.seq (.region [] [⟨0, (some 2), none, .mov (.const (.v (.c (.bool false)))), false, []⟩])
 .ret)
 .skip))))
 (.region [] [⟨0, (some 15), none, .bin .add (.tmp 6) (.const (.v (.c (.int .i64 1)))), false, []⟩,
 ⟨1, (some 6), none, .mov (.tmp 15), false, []⟩])))))))
 (.seq (.region [] [⟨0, (some 2), none, .mov (.const (.v (.c (.bool true)))), false, []⟩])
 .ret)))⟩

/-- facet/op.Mul -/
def c107 : AFun := ⟨21, [(4, (some (some 12))), (5, none)],
 (.seq (.region [] [⟨0, (some 2), none, .box (.tmp 0), false, []⟩,
 ⟨1, (some 3), none, .box (.tmp 1), false, []⟩,
 ⟨2, (some 4), none, .alloc [(.int .i64 0), (.int .i64 0), (.int .i64 0), (.int .i64 0), (.int .i64 0), (.int .i64 0), (.int .i64 0), (.int .i64 0), (.int .i64 0), (.int .i64 0), (.int .i64 0), (.int .i64 0)], false, []⟩,
 ⟨3, (some 5), none, .mov (.const (.v (.c (.int .i64 0)))), false, []⟩])
 (.seq (.seq (.region [] [⟨0, (some 7), none, .load (some 12) (.tmp 2), false, []⟩,
 ⟨1, (some 8), none, .load (some 12) (.tmp 3), false, []⟩,
 ⟨2, (some 9), none, .buildSlice [(.int .i64 0), (.int .i64 0), (.int .i64 0), (.int .i64 0), (.int .i64 0), (.int .i64 0), (.int .i64 0), (.int .i64 0), (.int .i64 0), (.int .i64 0), (.int .i64 0), (.int .i64 0), (.int .i64 0), (.int .i64 0), (.int .i64 0), (.int .i64 0), (.int .i64 0), (.int .i64 0), (.int .i64 0), (.int .i64 0), (.int .i64 0), (.int .i64 0), (.int .i64 0), (.int .i64 0)] [(0, 12, (.tmp 7)), (12, 12, (.tmp 8))] 2, false, []⟩,
 ⟨3, (some 10), none, .call (.const (.v (.c (.fn 117 [])))) [(.tmp 9)], false, []⟩,
 ⟨4, (some 6), none, .mov (.tmp 10), false, []⟩])
 (.seq (.region [] [⟨0, (some 11), none, .mov (.tmp 6), false, []⟩,
 ⟨1, (some 12), none, .bin .neq (.tmp 11) (.const (.v (.c (.int .i64 0)))), false, []⟩])
 (.cond (.tmp 12) (.seq (.region [] [⟨0, (some 13), none, .build [(.int .i64 0), (.int .i64 0), (.int .i64 0), (.int .i64 0), (.int .i64 0), (.int .i64 0), (.int .i64 0), (.int .i64 0), (.int .i64 0), (.int .i64 0), (.int .i64 0), (.int .i64 0)] [], false, []⟩,
 ⟨1, (some 14), none, .mov (.tmp 6), false, []⟩,
 ⟨2, none, none, .store 12 (.tmp 4) (.tmp 13), false, []⟩,
 ⟨3, (some 5), none, .mov (.tmp 14), false, []⟩])
 .ret)
 .skip)))
 (.seq (.region [] [⟨0, (some 15), none, .load (some 12) (.tmp 2), false, []⟩,
 ⟨1, (some 16), none, .load (some 12) (.tmp 3), false, []⟩,
 ⟨2, (some 17), none, .call (.const (.v (.c (.fn 119 [])))) [(.tmp 15), (.tmp 16)], false, []⟩,
 ⟨3, (some 18), none, .call (.const (.v (.c (.fn 118 [])))) [(.tmp 17)], false, []⟩,
 ⟨4, (some 19), none, .extract 0 (.tmp 18), false, []⟩,
 ⟨5, (some 20), none, .extract 1 (.tmp 18), false, []⟩,
 ⟨6, none, none, .store 12 (.tmp 4) (.tmp 19), false, []⟩,
 ⟨7, (some 5), none, .mov (.tmp 20), false, []⟩])
 .ret)))⟩

/-- facet/op.One -/
def c108 : AFun := ⟨3, [(0, (some (some 12)))],
 (.seq (.region [] [⟨0, (some 0), none, .alloc [(.int .i64 0), (.int .i64 0), (.int .i64 0), (.int .i64 0), (.int .i64 0), (.int .i64 0), (.int .i64 0), (.int .i64 0), (.int .i64 0), (.int .i64 0), (.int .i64 0), (.int .i64 0)], false, []⟩])
 (.seq (.region [] [⟨0, (some 1), none, .call (.const (.v (.c (.fn 120 [])))) [], false, []⟩,
 ⟨1, (some 2), none, .build [(.int .i64 0), (.int .i64 0), (.int .i64 0), (.int .i64 0), (.int .i64 0), (.int .i64 0), (.int .i64 0), (.int .i64 0), (.int .i64 0), (.int .i64 0), (.int .i64 0), (.int .i64 0)] [(0, 9, (.tmp 1))], false, []⟩,
 ⟨2, none, none, .store 12 (.tmp 0) (.tmp 2), false, []⟩])
 .ret))⟩

/-- facet/hkl.turned -/
def c109 : AFun := ⟨33, [(4, (some (some 3)))],
 (.seq (.region [] [⟨0, (some 2), none, .box (.tmp 0), false, []⟩,
 ⟨1, (some 3), none, .box (.tmp 1), false, []⟩,
 ⟨2, (some 4), none, .alloc [(.int .i64 0), (.int .i64 0), (.int .i64 0)], false, []⟩])
 (.seq (.region [] [⟨0, (some 5), none, .alloc [(.int .i64 0), (.int .i64 0), (.int .i64 0)], false, []⟩])
 (.seq (.seq (.region [] [⟨0, (some 10), none, .load (some 9) (.tmp 2), false, []⟩,
 ⟨1, (some 11), none, .mov (.const (.v (.c (.int .i64 0)))), false, []⟩])
 (.block 0 (.loop (.seq (.region [] [⟨0, (some 12), none, .bin .lss (.tmp 11) (.const (.v (.c (.int .i64 3)))), false, []⟩])
 (.seq (.cond (.tmp 12) .skip
 (.exit 0))
 (.seq (.block 1 (.seq (.region [] [⟨0, (some 13), none, .mov (.tmp 11), false, []⟩,
 ⟨1, (some 14), none, .index (some 3) 3 3 (.tmp 10) (.tmp 11), false, []⟩,
 ⟨2, (some 7), none, .alloc [(.int .i64 0), (.int .i64 0), (.int .i64 0)], false, []⟩,
 ⟨3, (some 6), none, .mov (.tmp 13), false, []⟩,
 ⟨4, none, none, .store 3 (.tmp 7) (.tmp 14), false, []⟩])
 (.seq (.region [] [⟨0, (some 15), none, .load (some 3) (.tmp 7), false, []⟩,
 ⟨1, (some 16), none, .mov (.const (.v (.c (.int .i64 0)))), false, []⟩])
 (.block 2 (.loop (.seq (.region [] [⟨0, (some 17), none, .bin .lss (.tmp 16) (.const (.v (.c (.int .i64 3)))), false, []⟩])
 (.seq (.cond (.tmp 17) .skip
 (.exit 2))
 (.seq (.block 3 (.seq (.region [] [⟨0, (some 18), none, .mov (.tmp 16), false, []⟩,
 ⟨1, (some 19), none, .index none 1 3 (.tmp 15) (.tmp 16), false, []⟩,
 ⟨2, (some 8), none, .mov (.tmp 18), false, []⟩,
 ⟨3, (some 9), none, .mov (.tmp 19), false, []⟩])
 (.region [] [⟨0, (some 20), none, .mov (.tmp 8), true, []⟩,
 ⟨1, (some 21), none, .indexAddr 1 (some 3) (.tmp 5) (.tmp 20), true, []⟩,
 ⟨2, (some 22), none, .load none (.tmp 21), true, []⟩,
 ⟨3, (some 23), none, .mov (.tmp 6), true, []⟩,
 ⟨4, (some 24), none, .indexAddr 1 (some 3) (.tmp 3) (.tmp 23), true, []⟩,
 ⟨5, (some 25), none, .load none (.tmp 24), true, []⟩,
 ⟨6, (some 26), none, .mov (.tmp 9), true, []⟩,
 ⟨7, (some 27), none, .bin .mul (.tmp 25) (.tmp 26), true, []⟩,
 ⟨8, (some 28), none, .bin .add (.tmp 22) (.tmp 27), true, []⟩,
 ⟨9, (some 29), none, .indexAddr 1 (some 3) (.tmp 5) (.tmp 20), true, []⟩,
 ⟨10, none, none, .store 1 (.tmp 29) (.tmp 28), false, []⟩])))
 (.region [] [⟨0, (some 30), none, .bin .add (.tmp 16) (.const (.v (.c (.int .i64 1)))), false, []⟩,
 ⟨1, (some 16), none, .mov (.tmp 30), false, []⟩])))))))))
 (.region [] [⟨0, (some 31), none, .bin .add (.tmp 11) (.const (.v (.c (.int .i64 1)))), false, []⟩,
 ⟨1, (some 11), none, .mov (.tmp 31), false, []⟩])))))))
 (.seq (.region [] [⟨0, (some 32), none, .load (some 3) (.tmp 5), false, []⟩,
 ⟨1, none, none, .store 3 (.tmp 4) (.tmp 32), false, []⟩])
 .ret))))⟩

/-- facet/fft.divides -/
def c110 : AFun := ⟨14, [(2, none)],
 (.seq (.region [] [⟨0, (some 2), none, .mov (.const (.v (.c (.bool false)))), false, []⟩])
 (.seq (.region [] [⟨0, (some 3), none, .mov (.tmp 0), false, []⟩,
 ⟨1, (some 4), none, .bin .geq (.tmp 3) (.const (.v (.c (.int .i64 1)))), false, []⟩,
 ⟨2, (some 5), none, .mov (.tmp 4), false, []⟩,
 ⟨3, (some 6), (some (5, true)), .mov (.tmp 0), false, []⟩,
 ⟨4, (some 7), (some (5, true)), .bin .leq (.tmp 6) (.const (.v (.c (.int .i64 192)))), false, []⟩,
 ⟨5, (some 8), none, .pick (.tmp 5) (.tmp 7) (.const (.v (.c (.bool false)))), false, []⟩,
 ⟨6, (some 9), none, .mov (.tmp 8), false, []⟩,
 ⟨7, (some 10), (some (9, true)), .mov (.tmp 0), false, []⟩,
 ⟨8, (some 11), (some (9, true)), .bin .rem (.const (.v (.c (.int .i64 192)))) (.tmp 10), false, []⟩,
 ⟨9, (some 12), (some (9, true)), .bin .eql (.tmp 11) (.const (.v (.c (.int .i64 0)))), false, []⟩,
 ⟨10, (some 13), none, .pick (.tmp 9) (.tmp 12) (.const (.v (.c (.bool false)))), false, []⟩,
 ⟨11, (some 2), none, .mov (.tmp 13), false, []⟩])
 .ret))⟩

/-- facet/cplx.Sum -/
def c111 : AFun := ⟨17, [(2, none)],
 (.seq (.region [] [⟨0, (some 2), none, .mov (.const (.v (.c (.cpx (.f 0) (.f 0))))), false, []⟩])
 (.seq (.region [] [⟨0, (some 3), none, .mov (.const (.v (.c (.cpx (.f 0) (.f 0))))), false, []⟩])
 (.seq (.seq (.region [] [⟨0, (some 6), none, .mov (.tmp 0), false, []⟩,
 ⟨1, (some 7), none, .bi .len [(.tmp 6)], false, []⟩,
 ⟨2, (some 8), none, .mov (.const (.v (.c (.int .i64 0)))), false, []⟩])
 (.block 0 (.loop (.seq (.region [] [⟨0, (some 9), none, .bin .lss (.tmp 8) (.tmp 7), false, []⟩])
 (.seq (.cond (.tmp 9) .skip
 (.exit 0))
 (.seq (.block 1 (.seq (.region [] [⟨0, (some 10), none, .indexAddr 1 none (.tmp 6) (.tmp 8), false, []⟩,
 ⟨1, (some 11), none, .load none (.tmp 10), false, []⟩,
 ⟨2, (some 5), none, .mov (.tmp 11), false, []⟩])
 (.region [] [⟨0, (some 12), none, .mov (.tmp 3), false, []⟩,
 ⟨1, (some 13), none, .mov (.tmp 5), false, []⟩,
 ⟨2, (some 14), none, .bin .add (.tmp 12) (.tmp 13), false, []⟩,
 ⟨3, (some 3), none, .mov (.tmp 14), false, []⟩])))
 (.region [] [⟨0, (some 15), none, .bin .add (.tmp 8) (.const (.v (.c (.int .i64 1)))), false, []⟩,
 ⟨1, (some 8), none, .mov (.tmp 15), false, []⟩])))))))
 (.seq (.region [] [⟨0, (some 16), none, .mov (.tmp 3), false, []⟩,
 ⟨1, (some 2), none, .mov (.tmp 16), false, []⟩])
 .ret))))⟩

/-- facet/fft.parted[complex128] -/
def c112 : AFun := ⟨20, [(4, none)],
 (.seq (.region [] [⟨0, (some 4), none, .mov (.const (.v (.c .nils))), false, []⟩])
 (.seq (.region [] [⟨0, (some 5), none, .mov (.const (.v (.c .nils))), false, []⟩])
 (.seq (.block 0 (.loop (.seq (.seq (.region [] [⟨0, (some 6), none, .mov (.tmp 1), false, []⟩,
 ⟨1, (some 7), none, .mov (.tmp 0), false, []⟩,
 ⟨2, (some 8), none, .bi .len [(.tmp 7)], false, []⟩,
 ⟨3, (some 9), none, .bin .lss (.tmp 6) (.tmp 8), false, []⟩])
 (.cond (.tmp 9) .skip
 (.exit 0)))
 (.seq (.block 1 (.region [] [⟨0, (some 12), none, .mov (.tmp 5), false, []⟩,
 ⟨1, (some 13), none, .mov (.tmp 0), false, []⟩,
 ⟨2, (some 14), none, .mov (.tmp 1), false, []⟩,
 ⟨3, (some 15), none, .indexAddr 1 none (.tmp 13) (.tmp 14), false, []⟩,
 ⟨4, (some 16), none, .load none (.tmp 15), false, []⟩,
 ⟨5, (some 17), none, .buildSlice [(.cpx (.f 0) (.f 0))] [(0, 1, (.tmp 16))] 1, false, []⟩,
 ⟨6, (some 18), none, .bi (.append 1 [(.cpx (.f 0) (.f 0))] 16) [(.tmp 12), (.tmp 17)], false, []⟩,
 ⟨7, (some 5), none, .mov (.tmp 18), false, []⟩]))
 (.region [] [⟨0, (some 10), none, .mov (.tmp 1), false, []⟩,
 ⟨1, (some 11), none, .bin .add (.tmp 10) (.const (.v (.c (.int .i64 2)))), false, []⟩,
 ⟨2, (some 1), none, .mov (.tmp 11), false, []⟩])))))
 (.seq (.region [] [⟨0, (some 19), none, .mov (.tmp 5), false, []⟩,
 ⟨1, (some 4), none, .mov (.tmp 19), false, []⟩])
 .ret))))⟩

/-- facet/pairs.places -/
def c113 : AFun := ⟨20, [(2, none)],
 (.seq (.region [] [⟨0, (some 2), none, .mov (.const (.v (.c .nilm))), false, []⟩])
 (.seq (.region [] [⟨0, (some 6), none, .mkMap, false, []⟩,
 ⟨1, (some 3), none, .mov (.tmp 6), false, []⟩])
 (.seq (.seq (.region [] [⟨0, (some 7), none, .mov (.tmp 0), false, []⟩,
 ⟨1, (some 8), none, .bi .len [(.tmp 7)], false, []⟩,
 ⟨2, (some 9), none, .mov (.const (.v (.c (.int .i64 0)))), false, []⟩])
 (.block 0 (.loop (.seq (.region [] [⟨0, (some 10), none, .bin .lss (.tmp 9) (.tmp 8), false, []⟩])
 (.seq (.cond (.tmp 10) .skip
 (.exit 0))
 (.seq (.block 1 (.seq (.region [] [⟨0, (some 11), none, .mov (.tmp 9), false, []⟩,
 ⟨1, (some 12), none, .indexAddr 4 none (.tmp 7) (.tmp 9), false, []⟩,
 ⟨2, (some 13), none, .load (some 4) (.tmp 12), false, []⟩,
 ⟨3, (some 5), none, .alloc [(.int .i64 0), (.int .i64 0), (.int .i64 0), (.cpx (.f 0) (.f 0))], false, []⟩,
 ⟨4, (some 4), none, .mov (.tmp 11), false, []⟩,
 ⟨5, none, none, .store 4 (.tmp 5) (.tmp 13), false, []⟩])
 (.region [] [⟨0, (some 14), none, .mov (.tmp 3), false, []⟩,
 ⟨1, (some 15), none, .addr 0 (.tmp 5), false, []⟩,
 ⟨2, (some 16), none, .load (some 3) (.tmp 15), false, []⟩,
 ⟨3, (some 17), none, .mov (.tmp 4), false, []⟩,
 ⟨4, none, none, .mapUpdate (some 3) (.tmp 14) (.tmp 16) (.tmp 17), false, []⟩])))
 (.region [] [⟨0, (some 18), none, .bin .add (.tmp 9) (.const (.v (.c (.int .i64 1)))), false, []⟩,
 ⟨1, (some 9), none, .mov (.tmp 18), false, []⟩])))))))
 (.seq (.region [] [⟨0, (some 19), none, .mov (.tmp 3), false, []⟩,
 ⟨1, (some 2), none, .mov (.tmp 19), false, []⟩])
 .ret))))⟩

/-- facet/pairs.opposite -/
def c114 : AFun := ⟨13, [(2, (some (some 3)))],
 (.seq (.region [] [⟨0, (some 1), none, .box (.tmp 0), false, []⟩,
 ⟨1, (some 2), none, .alloc [(.int .i64 0), (.int .i64 0), (.int .i64 0)], false, []⟩])
 (.seq (.region [] [⟨0, (some 3), none, .indexAddr 1 (some 3) (.tmp 1) (.const (.v (.c (.int .i64 0)))), false, []⟩,
 ⟨1, (some 4), none, .load none (.tmp 3), false, []⟩,
 ⟨2, (some 5), none, .un .neg (.tmp 4), false, []⟩,
 ⟨3, (some 6), none, .indexAddr 1 (some 3) (.tmp 1) (.const (.v (.c (.int .i64 1)))), false, []⟩,
 ⟨4, (some 7), none, .load none (.tmp 6), false, []⟩,
 ⟨5, (some 8), none, .un .neg (.tmp 7), false, []⟩,
 ⟨6, (some 9), none, .indexAddr 1 (some 3) (.tmp 1) (.const (.v (.c (.int .i64 2)))), false, []⟩,
 ⟨7, (some 10), none, .load none (.tmp 9), false, []⟩,
 ⟨8, (some 11), none, .un .neg (.tmp 10), false, []⟩,
 ⟨9, (some 12), none, .build [(.int .i64 0), (.int .i64 0), (.int .i64 0)] [(0, 1, (.tmp 5)), (1, 1, (.tmp 8)), (2, 1, (.tmp 11))], false, []⟩,
 ⟨10, none, none, .store 3 (.tmp 2) (.tmp 12), false, []⟩])
 .ret))⟩

/-- facet/cplx.Conj -/
def c115 : AFun := ⟨9, [(2, none)],
 (.seq (.region [] [⟨0, (some 2), none, .mov (.const (.v (.c (.cpx (.f 0) (.f 0))))), false, []⟩])
 (.seq (.region [] [⟨0, (some 3), none, .mov (.tmp 0), false, []⟩,
 ⟨1, (some 4), none, .bi .real [(.tmp 3)], false, []⟩,
 ⟨2, (some 5), none, .mov (.tmp 0), false, []⟩,
 ⟨3, (some 6), none, .bi .imag [(.tmp 5)], false, []⟩,
 ⟨4, (some 7), none, .un .neg (.tmp 6), false, []⟩,
 ⟨5, (some 8), none, .bi .complex [(.tmp 4), (.tmp 7)], false, []⟩,
 ⟨6, (some 2), none, .mov (.tmp 8), false, []⟩])
 .ret))⟩

/-- slices.order2CmpFunc[facet/api.Wave] -/
def c116 : AFun := ⟨32, [(10, none), (11, none)],
 (.seq (.region [] [⟨0, (some 10), none, .mov (.const (.v (.c (.int .i64 0)))), false, []⟩,
 ⟨1, (some 11), none, .mov (.const (.v (.c (.int .i64 0)))), false, []⟩])
 (.seq (.seq (.region [] [⟨0, (some 12), none, .mov (.tmp 4), true, []⟩,
 ⟨1, (some 13), none, .mov (.tmp 0), true, []⟩,
 ⟨2, (some 14), none, .mov (.tmp 2), true, []⟩,
 ⟨3, (some 15), none, .indexAddr 4 none (.tmp 13) (.tmp 14), true, []⟩,
 ⟨4, (some 16), none, .load (some 4) (.tmp 15), true, []⟩,
 ⟨5, (some 17), none, .mov (.tmp 0), true, []⟩,
 ⟨6, (some 18), none, .mov (.tmp 1), true, []⟩,
 ⟨7, (some 19), none, .indexAddr 4 none (.tmp 17) (.tmp 18), true, []⟩,
 ⟨8, (some 20), none, .load (some 4) (.tmp 19), true, []⟩,
 ⟨9, (some 21), none, .call (.tmp 12) [(.tmp 16), (.tmp 20)], false, []⟩,
 ⟨10, (some 22), none, .bin .lss (.tmp 21) (.const (.v (.c (.int .i64 0)))), true, []⟩])
 (.cond (.tmp 22) (.seq (.region [] [⟨0, (some 23), none, .mov (.tmp 3), false, []⟩,
 ⟨1, (some 24), none, .nilCheck (.tmp 23), false, []⟩,
 ⟨2, (some 25), none, .load none (.tmp 24), false, []⟩,
 ⟨3, (some 26), none, .bin .add (.tmp 25) (.const (.v (.c (.int .i64 1)))), false, []⟩,
 ⟨4, (some 27), none, .nilCheck (.tmp 23), false, []⟩,
 ⟨5, none, none, .store 1 (.tmp 27) (.tmp 26), false, []⟩])
 (.seq (.region [] [⟨0, (some 28), none, .mov (.tmp 2), false, []⟩,
 ⟨1, (some 29), none, .mov (.tmp 1), false, []⟩,
 ⟨2, (some 10), none, .mov (.tmp 28), false, []⟩,
 ⟨3, (some 11), none, .mov (.tmp 29), false, []⟩])
 .ret))
 .skip))
 (.seq (.region [] [⟨0, (some 30), none, .mov (.tmp 1), false, []⟩,
 ⟨1, (some 31), none, .mov (.tmp 2), false, []⟩,
 ⟨2, (some 10), none, .mov (.tmp 30), false, []⟩,
 ⟨3, (some 11), none, .mov (.tmp 31), false, []⟩])
 .ret)))⟩

/-- facet/op.check -/
def c117 : AFun := ⟨35, [(2, none)],
 (.seq (.region [] [⟨0, (some 2), none, .mov (.const (.v (.c (.int .i64 0)))), false, []⟩])
 (.seq (.region [] [⟨0, (some 3), none, .mov (.const (.v (.c (.int .i64 0)))), false, []⟩])
 (.seq (.seq (.region [] [⟨0, (some 8), none, .mov (.tmp 0), false, []⟩,
 ⟨1, (some 9), none, .bi .len [(.tmp 8)], false, []⟩,
 ⟨2, (some 10), none, .mov (.const (.v (.c (.int .i64 0)))), false, []⟩])
 (.block 0 (.loop (.seq (.region [] [⟨0, (some 11), none, .bin .lss (.tmp 10) (.tmp 9), false, []⟩])
 (.seq (.cond (.tmp 11) .skip
 (.exit 0))
 (.seq (.block 1 (.seq (.region [] [⟨0, (some 12), none, .indexAddr 12 none (.tmp 8) (.tmp 10), false, []⟩,
 ⟨1, (some 13), none, .load (some 12) (.tmp 12), false, []⟩,
 ⟨2, (some 5), none, .alloc [(.int .i64 0), (.int .i64 0), (.int .i64 0), (.int .i64 0), (.int .i64 0), (.int .i64 0), (.int .i64 0), (.int .i64 0), (.int .i64 0), (.int .i64 0), (.int .i64 0), (.int .i64 0)], false, []⟩,
 ⟨3, none, none, .store 12 (.tmp 5) (.tmp 13), false, []⟩])
 (.seq (.seq (.region [] [⟨0, (some 14), none, .addr 9 (.tmp 5), false, []⟩,
 ⟨1, (some 15), none, .load (some 3) (.tmp 14), false, []⟩,
 ⟨2, (some 16), none, .mov (.const (.v (.c (.int .i64 0)))), false, []⟩])
 (.block 2 (.loop (.seq (.region [] [⟨0, (some 17), none, .bin .lss (.tmp 16) (.const (.v (.c (.int .i64 3)))), false, []⟩])
 (.seq (.cond (.tmp 17) .skip
 (.exit 2))
 (.seq (.block 3 (.seq (.region [] [⟨0, (some 18), none, .index none 1 3 (.tmp 15) (.tmp 16), false, []⟩,
 ⟨1, (some 7), none, .mov (.tmp 18), false, []⟩])
 (.seq (.region [] [⟨0, (some 19), none, .mov (.tmp 7), false, []⟩,
 ⟨1, (some 20), none, .bin .lss (.tmp 19) (.const (.v (.c (.int .i64 0)))), false, []⟩,
 ⟨2, (some 21), none, .mov (.tmp 20), false, []⟩,
 ⟨3, (some 22), (some (21, false)), .mov (.tmp 7), false, []⟩,
 ⟨4, (some 23), (some (21, false)), .bin .geq (.tmp 22) (.const (.v (.c (.int .i64 24)))), false, []⟩,
 ⟨5, (some 24), none, .pick (.tmp 21) (.const (.v (.c (.bool true)))) (.tmp 23), false, []⟩])
 (.cond (.tmp 24) (.seq (.region [] [⟨0, (some 2), none, .mov (.const (.v (.c (.int .i64 3)))), false, []⟩])
 .ret)
 .skip))))
 (.region [] [⟨0, (some 25), none, .bin .add (.tmp 16) (.const (.v (.c (.int .i64 1)))), false, []⟩,
 ⟨1, (some 16), none, .mov (.tmp 25), false, []⟩])))))))
 (.seq (.region [] [⟨0, (some 26), none, .addr 0 (.tmp 5), false, []⟩,
 ⟨1, (some 27), none, .load (some 9) (.tmp 26), false, []⟩,
 ⟨2, (some 28), none, .call (.const (.v (.c (.fn 121 [])))) [(.tmp 27)], false, []⟩])
 (.block 4 (.seq (.region [] [⟨0, (some 30), none, .bin .eql (.tmp 28) (.const (.v (.c (.int .i64 3)))), false, []⟩,
 ⟨1, (some 29), none, .mov (.tmp 30), false, []⟩])
 (.cond (.tmp 29) (.seq (.region [] [⟨0, (some 2), none, .mov (.const (.v (.c (.int .i64 3)))), false, []⟩])
 .ret)
 (.seq (.region [] [⟨0, (some 32), none, .bin .eql (.tmp 28) (.const (.v (.c (.int .i64 4)))), false, []⟩,
 ⟨1, (some 31), none, .mov (.tmp 32), false, []⟩])
 (.cond (.tmp 31) (.region [] [⟨0, (some 3), none, .mov (.const (.v (.c (.int .i64 4)))), false, []⟩])
 .skip)))))))))
 (.region [] [⟨0, (some 33), none, .bin .add (.tmp 10) (.const (.v (.c (.int .i64 1)))), false, []⟩,
 ⟨1, (some 10), none, .mov (.tmp 33), false, []⟩])))))))
 (.seq (.region [] [⟨0, (some 34), none, .mov (.tmp 3), false, []⟩,
 ⟨1, (some 2), none, .mov (.tmp 34), false, []⟩])
 .ret))))⟩

/-- facet/op.made -/
def c118 : AFun := ⟨13, [(2, (some (some 12))), (3, none)],
 (.seq (.region [] [⟨0, (some 1), none, .box (.tmp 0), false, []⟩,
 ⟨1, (some 2), none, .alloc [(.int .i64 0), (.int .i64 0), (.int .i64 0), (.int .i64 0), (.int .i64 0), (.int .i64 0), (.int .i64 0), (.int .i64 0), (.int .i64 0), (.int .i64 0), (.int .i64 0), (.int .i64 0)], false, []⟩,
 ⟨2, (some 3), none, .mov (.const (.v (.c (.int .i64 0)))), false, []⟩])
 (.seq (.seq (.region [] [⟨0, (some 5), none, .addr 0 (.tmp 1), false, []⟩,
 ⟨1, (some 6), none, .load (some 9) (.tmp 5), false, []⟩,
 ⟨2, (some 7), none, .call (.const (.v (.c (.fn 122 [])))) [(.tmp 6)], false, []⟩,
 ⟨3, (some 4), none, .mov (.tmp 7), false, []⟩])
 (.seq (.region [] [⟨0, (some 8), none, .mov (.tmp 4), false, []⟩,
 ⟨1, (some 9), none, .bin .neq (.tmp 8) (.const (.v (.c (.int .i64 0)))), false, []⟩])
 (.cond (.tmp 9) (.seq (.region [] [⟨0, (some 10), none, .build [(.int .i64 0), (.int .i64 0), (.int .i64 0), (.int .i64 0), (.int .i64 0), (.int .i64 0), (.int .i64 0), (.int .i64 0), (.int .i64 0), (.int .i64 0), (.int .i64 0), (.int .i64 0)] [], false, []⟩,
 ⟨1, (some 11), none, .mov (.tmp 4), false, []⟩,
 ⟨2, none, none, .store 12 (.tmp 2) (.tmp 10), false, []⟩,
 ⟨3, (some 3), none, .mov (.tmp 11), false, []⟩])
 .ret)
 .skip)))
 (.seq (.region [] [⟨0, (some 12), none, .load (some 12) (.tmp 1), false, []⟩,
 ⟨1, none, none, .store 12 (.tmp 2) (.tmp 12), false, []⟩,
 ⟨2, (some 3), none, .mov (.const (.v (.c (.int .i64 0)))), false, []⟩])
 .ret)))⟩

/-- facet/op.mul -/
def c119 : AFun := ⟨25, [(4, (some (some 12)))],
 (.seq (.region [] [⟨0, (some 2), none, .box (.tmp 0), false, []⟩,
 ⟨1, (some 3), none, .box (.tmp 1), false, []⟩,
 ⟨2, (some 4), none, .alloc [(.int .i64 0), (.int .i64 0), (.int .i64 0), (.int .i64 0), (.int .i64 0), (.int .i64 0), (.int .i64 0), (.int .i64 0), (.int .i64 0), (.int .i64 0), (.int .i64 0), (.int .i64 0)], false, []⟩])
 (.seq (.region [] [⟨0, (some 8), none, .addr 0 (.tmp 2), false, []⟩,
 ⟨1, (some 9), none, .load (some 9) (.tmp 8), false, []⟩,
 ⟨2, (some 10), none, .addr 0 (.tmp 3), false, []⟩,
 ⟨3, (some 11), none, .load (some 9) (.tmp 10), false, []⟩,
 ⟨4, (some 12), none, .call (.const (.v (.c (.fn 123 [])))) [(.tmp 9), (.tmp 11)], false, []⟩,
 ⟨5, (some 7), none, .mov (.tmp 12), false, []⟩,
 ⟨6, (some 13), none, .extract 0 (.tmp 7), false, []⟩,
 ⟨7, (some 14), none, .extract 1 (.tmp 7), false, []⟩,
 ⟨8, (some 5), none, .alloc [(.int .i64 0), (.int .i64 0), (.int .i64 0), (.int .i64 0), (.int .i64 0), (.int .i64 0), (.int .i64 0), (.int .i64 0), (.int .i64 0)], false, []⟩,
 ⟨9, none, none, .store 9 (.tmp 5) (.tmp 13), false, []⟩,
 ⟨10, (some 6), none, .mov (.tmp 14), false, []⟩])
 (.seq (.region [] [⟨0, (some 15), none, .load (some 9) (.tmp 5), true, []⟩,
 ⟨1, (some 16), none, .addr 0 (.tmp 2), true, []⟩,
 ⟨2, (some 17), none, .load (some 9) (.tmp 16), true, []⟩,
 ⟨3, (some 18), none, .addr 9 (.tmp 3), true, []⟩,
 ⟨4, (some 19), none, .load (some 3) (.tmp 18), true, []⟩,
 ⟨6, (some 21), none, .addr 9 (.tmp 2), true, []⟩,
 ⟨7, (some 22), none, .load (some 3) (.tmp 21), true, []⟩,
 ⟨5, (some 20), none, .call (.const (.v (.c (.fn 125 [])))) [(.tmp 17), (.tmp 19)], false, [0, 7]⟩,
 ⟨8, (some 23), none, .call (.const (.v (.c (.fn 124 [])))) [(.tmp 20), (.tmp 22)], false, [0]⟩,
 ⟨9, (some 24), none, .build [(.int .i64 0), (.int .i64 0), (.int .i64 0), (.int .i64 0), (.int .i64 0), (.int .i64 0), (.int .i64 0), (.int .i64 0), (.int .i64 0), (.int .i64 0), (.int .i64 0), (.int .i64 0)] [(0, 9, (.tmp 15)), (9, 3, (.tmp 23))], true, []⟩,
 ⟨10, none, none, .store 12 (.tmp 4) (.tmp 24), false, []⟩])
 .ret)))⟩

/-- facet/vec.Identity -/
def c120 : AFun := ⟨5, [(0, (some (some 9)))],
 (.seq (.region [] [⟨0, (some 0), none, .alloc [(.int .i64 0), (.int .i64 0), (.int .i64 0), (.int .i64 0), (.int .i64 0), (.int .i64 0), (.int .i64 0), (.int .i64 0), (.int .i64 0)], false, []⟩])
 (.seq (.region [] [⟨0, (some 1), none, .build [(.int .i64 0), (.int .i64 0), (.int .i64 0)] [(0, 1, (.const (.v (.c (.int .i64 1))))), (1, 1, (.const (.v (.c (.int .i64 0))))), (2, 1, (.const (.v (.c (.int .i64 0)))))], false, []⟩,
 ⟨1, (some 2), none, .build [(.int .i64 0), (.int .i64 0), (.int .i64 0)] [(0, 1, (.const (.v (.c (.int .i64 0))))), (1, 1, (.const (.v (.c (.int .i64 1))))), (2, 1, (.const (.v (.c (.int .i64 0)))))], false, []⟩,
 ⟨2, (some 3), none, .build [(.int .i64 0), (.int .i64 0), (.int .i64 0)] [(0, 1, (.const (.v (.c (.int .i64 0))))), (1, 1, (.const (.v (.c (.int .i64 0))))), (2, 1, (.const (.v (.c (.int .i64 1)))))], false, []⟩,
 ⟨3, (some 4), none, .build [(.int .i64 0), (.int .i64 0), (.int .i64 0), (.int .i64 0), (.int .i64 0), (.int .i64 0), (.int .i64 0), (.int .i64 0), (.int .i64 0)] [(0, 3, (.tmp 1)), (3, 3, (.tmp 2)), (6, 3, (.tmp 3))], false, []⟩,
 ⟨4, none, none, .store 9 (.tmp 0) (.tmp 4), false, []⟩])
 .ret))⟩

/-- facet/op.matrix -/
def c121 : AFun := ⟨21, [(2, none)],
 (.seq (.region [] [⟨0, (some 1), none, .box (.tmp 0), false, []⟩,
 ⟨1, (some 2), none, .mov (.const (.v (.c (.int .i64 0)))), false, []⟩])
 (.seq (.region [] [⟨0, (some 6), none, .load (some 9) (.tmp 1), false, []⟩,
 ⟨1, (some 7), none, .call (.const (.v (.c (.fn 126 [])))) [(.tmp 6)], false, []⟩,
 ⟨2, (some 5), none, .mov (.tmp 7), false, []⟩,
 ⟨3, (some 8), none, .extract 0 (.tmp 5), false, []⟩,
 ⟨4, (some 9), none, .extract 1 (.tmp 5), false, []⟩,
 ⟨5, (some 3), none, .mov (.tmp 8), false, []⟩,
 ⟨6, (some 4), none, .mov (.tmp 9), false, []⟩])
 (.seq (.seq (.region [] [⟨0, (some 10), none, .mov (.tmp 4), false, []⟩,
 ⟨1, (some 11), none, .bin .eql (.tmp 10) (.const (.v (.c (.int .i64 0)))), false, []⟩,
 ⟨2, (some 12), none, .mov (.tmp 11), false, []⟩,
 ⟨3, (some 13), (some (12, true)), .mov (.tmp 3), false, []⟩,
 ⟨4, (some 14), (some (12, true)), .bin .neq (.tmp 13) (.const (.v (.c (.int .i64 1)))), false, []⟩,
 ⟨5, (some 15), none, .pick (.tmp 12) (.tmp 14) (.const (.v (.c (.bool false)))), false, []⟩,
 ⟨6, (some 16), none, .mov (.tmp 15), false, []⟩,
 ⟨7, (some 17), (some (16, true)), .mov (.tmp 3), false, []⟩,
 ⟨8, (some 18), (some (16, true)), .bin .neq (.tmp 17) (.const (.v (.c (.int .i64 (-1))))), false, []⟩,
 ⟨9, (some 19), none, .pick (.tmp 16) (.tmp 18) (.const (.v (.c (.bool false)))), false, []⟩])
 (.cond (.tmp 19) (.seq (.region [] [⟨0, (some 2), none, .mov (.const (.v (.c (.int .i64 3)))), false, []⟩])
 .ret)
 .skip))
 (.seq (.region [] [⟨0, (some 20), none, .mov (.tmp 4), false, []⟩,
 ⟨1, (some 2), none, .mov (.tmp 20), false, []⟩])
 .ret))))⟩

/-- facet/vec.Check -/
def c122 : AFun := ⟨19, [(2, none)],
 (.seq (.region [] [⟨0, (some 1), none, .box (.tmp 0), false, []⟩,
 ⟨1, (some 2), none, .mov (.const (.v (.c (.int .i64 0)))), false, []⟩])
 (.seq (.seq (.region [] [⟨0, (some 7), none, .load (some 9) (.tmp 1), false, []⟩,
 ⟨1, (some 8), none, .mov (.const (.v (.c (.int .i64 0)))), false, []⟩])
 (.block 0 (.loop (.seq (.region [] [⟨0, (some 9), none, .bin .lss (.tmp 8) (.const (.v (.c (.int .i64 3)))), false, []⟩])
 (.seq (.cond (.tmp 9) .skip
 (.exit 0))
 (.seq (.block 1 (.seq (.region [] [⟨0, (some 10), none, .index (some 3) 3 3 (.tmp 7) (.tmp 8), false, []⟩,
 ⟨1, (some 4), none, .alloc [(.int .i64 0), (.int .i64 0), (.int .i64 0)], false, []⟩,
 ⟨2, none, none, .store 3 (.tmp 4) (.tmp 10), false, []⟩])
 (.seq (.region [] [⟨0, (some 11), none, .load (some 3) (.tmp 4), false, []⟩,
 ⟨1, (some 12), none, .mov (.const (.v (.c (.int .i64 0)))), false, []⟩])
 (.block 2 (.loop (.seq (.region [] [⟨0, (some 13), none, .bin .lss (.tmp 12) (.const (.v (.c (.int .i64 3)))), false, []⟩])
 (.seq (.cond (.tmp 13) .skip
 (.exit 2))
 (.seq (.block 3 (.seq (.region [] [⟨0, (some 14), none, .index none 1 3 (.tmp 11) (.tmp 12), false, []⟩,
 ⟨1, (some 6), none, .mov (.tmp 14), false, []⟩])
 (.seq (.region [] [⟨0, (some 15), none, .mov (.tmp 6), false, []⟩,
 ⟨1, (some 16), none, .call (.const (.v (.c (.fn 127 [])))) [(.tmp 15), (.const (.v (.c (.int .i64 1000))))], false, []⟩])
 (.cond (.tmp 16) (.seq (.region [] [⟨0, (some 2), none, .mov (.const (.v (.c (.int .i64 4)))), false, []⟩])
 .ret)
 .skip))))
 (.region [] [⟨0, (some 17), none, .bin .add (.tmp 12) (.const (.v (.c (.int .i64 1)))), false, []⟩,
 ⟨1, (some 12), none, .mov (.tmp 17), false, []⟩])))))))))
 (.region [] [⟨0, (some 18), none, .bin .add (.tmp 8) (.const (.v (.c (.int .i64 1)))), false, []⟩,
 ⟨1, (some 8), none, .mov (.tmp 18), false, []⟩])))))))
 (.seq (.region [] [⟨0, (some 2), none, .mov (.const (.v (.c (.int .i64 0)))), false, []⟩])
 .ret)))⟩

end Go.Proofs.YtfgkhpoibfbnkaaGreat
