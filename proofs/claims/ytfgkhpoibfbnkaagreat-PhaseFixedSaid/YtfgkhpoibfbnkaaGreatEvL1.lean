/-
  The evaluator's code of functions, printed by a program of ours. No conditions.
-/
import Derived.Test.YtfgkhpoibfbnkaaGreatEvA
namespace Go.Proofs.YtfgkhpoibfbnkaaGreat
open Go.Ev

/-- facet/phase.check -/
def c30 : AFun := ⟨138, [(8, none)],
 (.seq (.region [] [⟨0, (some 5), none, .box (.tmp 1), false, []⟩,
 ⟨1, (some 8), none, .mov (.const (.v (.c (.int .i64 0)))), false, []⟩])
 (.seq (.region [] [⟨0, (some 24), none, .load (some 4) (.tmp 5), false, []⟩,
 ⟨1, (some 25), none, .call (.const (.v (.c (.fn 23 [])))) [(.tmp 24)], false, []⟩,
 ⟨2, (some 9), none, .mov (.tmp 25), false, []⟩])
 (.seq (.seq (.region [] [⟨0, (some 26), none, .addr 0 (.tmp 5), false, []⟩,
 ⟨1, (some 27), none, .load (some 3) (.tmp 26), false, []⟩,
 ⟨2, (some 28), none, .mov (.const (.v (.c (.int .i64 0)))), false, []⟩])
 (.block 0 (.loop (.seq (.region [] [⟨0, (some 29), none, .bin .lss (.tmp 28) (.const (.v (.c (.int .i64 3)))), false, []⟩])
 (.seq (.cond (.tmp 29) .skip
 (.exit 0))
 (.seq (.block 1 (.seq (.region [] [⟨0, (some 30), none, .index none 1 3 (.tmp 27) (.tmp 28), false, []⟩,
 ⟨1, (some 11), none, .mov (.tmp 30), false, []⟩])
 (.seq (.region [] [⟨0, (some 31), none, .mov (.tmp 11), false, []⟩,
 ⟨1, (some 32), none, .bin .lss (.tmp 31) (.const (.v (.c (.int .i64 1)))), false, []⟩,
 ⟨2, (some 33), none, .mov (.tmp 32), false, []⟩,
 ⟨3, (some 34), (some (33, false)), .mov (.tmp 11), false, []⟩,
 ⟨4, (some 35), (some (33, false)), .bin .rem (.const (.v (.c (.int .i64 192)))) (.tmp 34), false, []⟩,
 ⟨5, (some 36), (some (33, false)), .bin .neq (.tmp 35) (.const (.v (.c (.int .i64 0)))), false, []⟩,
 ⟨6, (some 37), none, .pick (.tmp 33) (.const (.v (.c (.bool true)))) (.tmp 36), false, []⟩])
 (.cond (.tmp 37) (.region [] [⟨0, (some 9), none, .mov (.const (.v (.c (.int .i64 1)))), false, []⟩])
 .skip))))
 (.region [] [⟨0, (some 38), none, .bin .add (.tmp 28) (.const (.v (.c (.int .i64 1)))), false, []⟩,
 ⟨1, (some 28), none, .mov (.tmp 38), false, []⟩])))))))
 (.seq (.seq (.region [] [⟨0, (some 39), none, .mov (.tmp 3), false, []⟩,
 ⟨1, (some 40), none, .bin .lss (.tmp 39) (.const (.v (.c (.int .i64 0)))), false, []⟩,
 ⟨2, (some 41), none, .mov (.tmp 40), false, []⟩,
 ⟨3, (some 42), (some (41, false)), .mov (.tmp 3), false, []⟩,
 ⟨4, (some 43), (some (41, false)), .bin .gtr (.tmp 42) (.const (.v (.c (.int .i64 64)))), false, []⟩,
 ⟨5, (some 44), none, .pick (.tmp 41) (.const (.v (.c (.bool true)))) (.tmp 43), false, []⟩])
 (.cond (.tmp 44) (.region [] [⟨0, (some 9), none, .mov (.const (.v (.c (.int .i64 1)))), false, []⟩])
 .skip))
 (.seq (.region [] [⟨0, (some 46), none, .mov (.tmp 0), false, []⟩,
 ⟨1, (some 47), none, .call (.const (.v (.c (.fn 17 [])))) [(.tmp 46)], false, []⟩,
 ⟨2, (some 45), none, .mov (.tmp 47), false, []⟩,
 ⟨3, (some 48), none, .extract 0 (.tmp 45), false, []⟩,
 ⟨4, (some 49), none, .extract 1 (.tmp 45), false, []⟩,
 ⟨5, (some 12), none, .mov (.tmp 48), false, []⟩,
 ⟨6, (some 13), none, .mov (.tmp 49), false, []⟩])
 (.seq (.region [] [⟨0, (some 50), none, .mov (.tmp 13), false, []⟩,
 ⟨1, (some 51), none, .buildSlice [(.int .i64 0)] [(0, 1, (.tmp 50))] 1, false, []⟩,
 ⟨2, (some 14), none, .mov (.tmp 51), false, []⟩])
 (.seq (.region [] [⟨0, (some 52), none, .mkMap, false, []⟩,
 ⟨1, (some 15), none, .mov (.const (.v (.c (.flt (.f 0))))), false, []⟩,
 ⟨2, (some 16), none, .mov (.tmp 52), false, []⟩])
 (.seq (.seq (.region [] [⟨0, (some 53), none, .mov (.tmp 0), false, []⟩,
 ⟨1, (some 54), none, .bi .len [(.tmp 53)], false, []⟩,
 ⟨2, (some 55), none, .mov (.const (.v (.c (.int .i64 0)))), false, []⟩])
 (.block 2 (.loop (.seq (.region [] [⟨0, (some 56), none, .bin .lss (.tmp 55) (.tmp 54), false, []⟩])
 (.seq (.cond (.tmp 56) .skip
 (.exit 2))
 (.seq (.block 3 (.seq (.region [] [⟨0, (some 57), none, .indexAddr 4 none (.tmp 53) (.tmp 55), false, []⟩,
 ⟨1, (some 58), none, .load (some 4) (.tmp 57), false, []⟩,
 ⟨2, (some 18), none, .alloc [(.int .i64 0), (.int .i64 0), (.int .i64 0), (.cpx (.f 0) (.f 0))], false, []⟩,
 ⟨3, none, none, .store 4 (.tmp 18) (.tmp 58), false, []⟩])
 (.seq (.seq (.region [] [⟨0, (some 59), none, .addr 3 (.tmp 18), false, []⟩,
 ⟨1, (some 60), none, .load none (.tmp 59), false, []⟩,
 ⟨2, (some 61), none, .call (.const (.v (.c (.fn 40 [])))) [(.tmp 60)], false, []⟩,
 ⟨3, (some 62), none, .un .not (.tmp 61), false, []⟩])
 (.cond (.tmp 62) (.region [] [⟨0, (some 63), none, .mov (.tmp 14), false, []⟩,
 ⟨1, (some 64), none, .buildSlice [(.int .i64 0)] [(0, 1, (.const (.v (.c (.int .i64 7)))))] 1, false, []⟩,
 ⟨2, (some 65), none, .bi (.append 1 [(.int .i64 0)] 8) [(.tmp 63), (.tmp 64)], false, []⟩,
 ⟨3, (some 14), none, .mov (.tmp 65), false, []⟩])
 .skip))
 (.seq (.region [] [⟨0, (some 66), none, .mov (.tmp 15), false, []⟩,
 ⟨1, (some 67), none, .addr 3 (.tmp 18), false, []⟩,
 ⟨2, (some 68), none, .load none (.tmp 67), false, []⟩,
 ⟨3, (some 69), none, .call (.const (.v (.c (.fn 26 [])))) [(.tmp 68)], false, []⟩,
 ⟨4, (some 70), none, .bin .add (.tmp 66) (.tmp 69), false, []⟩,
 ⟨5, (some 15), none, .mov (.tmp 70), false, []⟩])
 (.seq (.region [] [⟨0, (some 71), none, .addr 0 (.tmp 18), false, []⟩,
 ⟨1, (some 72), none, .load (some 3) (.tmp 71), false, []⟩,
 ⟨2, (some 19), none, .alloc [(.int .i64 0), (.int .i64 0), (.int .i64 0)], false, []⟩,
 ⟨3, none, none, .store 3 (.tmp 19) (.tmp 72), false, []⟩])
 (.seq (.seq (.region [] [⟨0, (some 73), none, .addr 0 (.tmp 5), false, []⟩,
 ⟨1, (some 74), none, .load (some 3) (.tmp 73), false, []⟩,
 ⟨2, (some 75), none, .mov (.const (.v (.c (.int .i64 0)))), false, []⟩])
 (.block 4 (.loop (.seq (.region [] [⟨0, (some 76), none, .bin .lss (.tmp 75) (.const (.v (.c (.int .i64 3)))), false, []⟩])
 (.seq (.cond (.tmp 76) .skip
 (.exit 4))
 (.seq (.block 5 (.seq (.region [] [⟨0, (some 77), none, .mov (.tmp 75), false, []⟩,
 ⟨1, (some 78), none, .index none 1 3 (.tmp 74) (.tmp 75), false, []⟩,
 ⟨2, (some 20), none, .mov (.tmp 77), false, []⟩,
 ⟨3, (some 21), none, .mov (.tmp 78), false, []⟩])
 (.seq (.region [] [⟨0, (some 79), none, .mov (.tmp 21), false, []⟩,
 ⟨1, (some 80), none, .bin .gtr (.tmp 79) (.const (.v (.c (.int .i64 0)))), false, []⟩])
 (.cond (.tmp 80) (.region [] [⟨0, (some 81), none, .mov (.tmp 20), false, []⟩,
 ⟨1, (some 82), none, .mov (.tmp 20), false, []⟩,
 ⟨2, (some 83), none, .indexAddr 1 (some 3) (.tmp 19) (.tmp 82), false, []⟩,
 ⟨3, (some 84), none, .load none (.tmp 83), false, []⟩,
 ⟨4, (some 85), none, .mov (.tmp 21), false, []⟩,
 ⟨5, (some 86), none, .bin .rem (.tmp 84) (.tmp 85), false, []⟩,
 ⟨6, (some 87), none, .mov (.tmp 21), false, []⟩,
 ⟨7, (some 88), none, .bin .add (.tmp 86) (.tmp 87), false, []⟩,
 ⟨8, (some 89), none, .mov (.tmp 21), false, []⟩,
 ⟨9, (some 90), none, .bin .rem (.tmp 88) (.tmp 89), false, []⟩,
 ⟨10, (some 91), none, .indexAddr 1 (some 3) (.tmp 19) (.tmp 81), false, []⟩,
 ⟨11, none, none, .store 1 (.tmp 91) (.tmp 90), false, []⟩])
 .skip))))
 (.region [] [⟨0, (some 92), none, .bin .add (.tmp 75) (.const (.v (.c (.int .i64 1)))), false, []⟩,
 ⟨1, (some 75), none, .mov (.tmp 92), false, []⟩])))))))
 (.seq (.region [] [⟨0, (some 93), none, .mov (.tmp 16), true, []⟩,
 ⟨1, (some 94), none, .load (some 3) (.tmp 19), true, []⟩,
 ⟨2, (some 95), none, .lookup (some 3) (.c (.int .i64 0)) (.tmp 93) (.tmp 94) false, true, []⟩,
 ⟨3, (some 96), none, .bin .add (.tmp 95) (.const (.v (.c (.int .i64 1)))), true, []⟩,
 ⟨4, (some 97), none, .mapEntry (some 3) (.c (.int .i64 0)) (.tmp 93) (.tmp 94), false, [2]⟩,
 ⟨5, (some 98), none, .extract 1 (.tmp 97), true, []⟩,
 ⟨6, none, none, .entryStore (.tmp 93) (.tmp 98) (.tmp 96), false, []⟩])
 (.seq (.region [] [⟨0, (some 99), none, .mov (.tmp 16), false, []⟩,
 ⟨1, (some 100), none, .load (some 3) (.tmp 19), false, []⟩,
 ⟨2, (some 101), none, .lookup (some 3) (.c (.int .i64 0)) (.tmp 99) (.tmp 100) false, false, []⟩,
 ⟨3, (some 102), none, .bin .gtr (.tmp 101) (.const (.v (.c (.int .i64 1)))), false, []⟩])
 (.cond (.tmp 102) (.region [] [⟨0, (some 103), none, .mov (.tmp 14), false, []⟩,
 ⟨1, (some 104), none, .buildSlice [(.int .i64 0)] [(0, 1, (.const (.v (.c (.int .i64 10)))))] 1, false, []⟩,
 ⟨2, (some 105), none, .bi (.append 1 [(.int .i64 0)] 8) [(.tmp 103), (.tmp 104)], false, []⟩,
 ⟨3, (some 14), none, .mov (.tmp 105), false, []⟩])
 .skip)))))))))
 (.region [] [⟨0, (some 106), none, .bin .add (.tmp 55) (.const (.v (.c (.int .i64 1)))), false, []⟩,
 ⟨1, (some 55), none, .mov (.tmp 106), false, []⟩])))))))
 (.seq (.seq (.region [] [⟨0, (some 107), none, .mov (.tmp 2), false, []⟩,
 ⟨1, (some 108), none, .mov (.tmp 2), false, []⟩,
 ⟨2, (some 109), none, .bin .neq (.tmp 107) (.tmp 108), false, []⟩])
 (.cond (.tmp 109) (.region [] [⟨0, (some 110), none, .mov (.tmp 14), false, []⟩,
 ⟨1, (some 111), none, .buildSlice [(.int .i64 0)] [(0, 1, (.const (.v (.c (.int .i64 7)))))] 1, false, []⟩,
 ⟨2, (some 112), none, .bi (.append 1 [(.int .i64 0)] 8) [(.tmp 110), (.tmp 111)], false, []⟩,
 ⟨3, (some 14), none, .mov (.tmp 112), false, []⟩])
 .skip))
 (.seq (.seq (.region [] [⟨0, (some 113), none, .mov (.tmp 15), false, []⟩,
 ⟨1, (some 114), none, .bin .eql (.tmp 113) (.const (.v (.c (.flt (.f 0))))), false, []⟩])
 (.cond (.tmp 114) (.region [] [⟨0, (some 115), none, .mov (.tmp 14), false, []⟩,
 ⟨1, (some 116), none, .buildSlice [(.int .i64 0)] [(0, 1, (.const (.v (.c (.int .i64 8)))))] 1, false, []⟩,
 ⟨2, (some 117), none, .bi (.append 1 [(.int .i64 0)] 8) [(.tmp 115), (.tmp 116)], false, []⟩,
 ⟨3, (some 14), none, .mov (.tmp 117), false, []⟩])
 .skip))
 (.seq (.seq (.region [] [⟨0, (some 118), none, .mov (.tmp 14), false, []⟩,
 ⟨1, (some 119), none, .bi .len [(.tmp 118)], false, []⟩,
 ⟨2, (some 120), none, .mov (.const (.v (.c (.int .i64 0)))), false, []⟩])
 (.block 6 (.loop (.seq (.region [] [⟨0, (some 121), none, .bin .lss (.tmp 120) (.tmp 119), false, []⟩])
 (.seq (.cond (.tmp 121) .skip
 (.exit 6))
 (.seq (.block 7 (.seq (.region [] [⟨0, (some 122), none, .indexAddr 1 none (.tmp 118) (.tmp 120), false, []⟩,
 ⟨1, (some 123), none, .load none (.tmp 122), false, []⟩,
 ⟨2, (some 23), none, .mov (.tmp 123), false, []⟩])
 (.seq (.region [] [⟨0, (some 124), none, .mov (.tmp 23), false, []⟩,
 ⟨1, (some 125), none, .bin .neq (.tmp 124) (.const (.v (.c (.int .i64 0)))), false, []⟩,
 ⟨2, (some 126), none, .mov (.tmp 125), false, []⟩,
 ⟨3, (some 127), (some (126, true)), .mov (.tmp 9), false, []⟩,
 ⟨4, (some 128), (some (126, true)), .bin .eql (.tmp 127) (.const (.v (.c (.int .i64 0)))), false, []⟩,
 ⟨5, (some 129), (some (126, true)), .mov (.tmp 128), false, []⟩,
 ⟨6, (some 130), (some (129, false)), .mov (.tmp 23), false, []⟩,
 ⟨7, (some 131), (some (129, false)), .mov (.tmp 9), false, []⟩,
 ⟨8, (some 132), (some (129, false)), .bin .lss (.tmp 130) (.tmp 131), false, []⟩,
 ⟨9, (some 133), (some (126, true)), .pick (.tmp 129) (.const (.v (.c (.bool true)))) (.tmp 132), false, []⟩,
 ⟨10, (some 134), none, .pick (.tmp 126) (.tmp 133) (.const (.v (.c (.bool false)))), false, []⟩])
 (.cond (.tmp 134) (.region [] [⟨0, (some 135), none, .mov (.tmp 23), false, []⟩,
 ⟨1, (some 9), none, .mov (.tmp 135), false, []⟩])
 .skip))))
 (.region [] [⟨0, (some 136), none, .bin .add (.tmp 120) (.const (.v (.c (.int .i64 1)))), false, []⟩,
 ⟨1, (some 120), none, .mov (.tmp 136), false, []⟩])))))))
 (.seq (.region [] [⟨0, (some 137), none, .mov (.tmp 9), false, []⟩,
 ⟨1, (some 8), none, .mov (.tmp 137), false, []⟩])
 .ret))))))))))))⟩

/-- facet/phase.charge -/
def c31 : AFun := ⟨80, [(4, (some (some 4))), (5, none), (6, none)],
 (.seq (.region [] [⟨0, (some 3), none, .box (.tmp 1), false, []⟩,
 ⟨1, (some 4), none, .alloc [(.int .i64 0), (.int .i64 0), (.int .i64 0), .nils], false, []⟩,
 ⟨2, (some 5), none, .mov (.const (.v (.c (.flt (.f 0))))), false, []⟩,
 ⟨3, (some 6), none, .mov (.const (.v (.c (.int .i64 0)))), false, []⟩])
 (.seq (.region [] [⟨0, (some 15), none, .load (some 4) (.tmp 3), true, []⟩,
 ⟨1, (some 16), none, .mov (.tmp 0), true, []⟩,
 ⟨2, (some 17), none, .nilCheck (.tmp 16), true, []⟩,
 ⟨3, (some 18), none, .addr 2 (.tmp 17), true, []⟩,
 ⟨4, (some 19), none, .load none (.tmp 18), true, []⟩,
 ⟨6, (some 21), none, .mov (.tmp 0), true, []⟩,
 ⟨7, (some 22), none, .nilCheck (.tmp 21), true, []⟩,
 ⟨8, (some 23), none, .addr 1 (.tmp 22), true, []⟩,
 ⟨9, (some 24), none, .load none (.tmp 23), true, []⟩,
 ⟨5, (some 20), none, .call (.const (.v (.c (.fn 24 [])))) [(.tmp 15), (.tmp 19)], false, [9]⟩,
 ⟨10, (some 25), none, .call (.const (.v (.c (.fn 42 [])))) [(.tmp 20), (.tmp 24)], false, []⟩,
 ⟨11, (some 14), none, .mov (.tmp 25), true, []⟩,
 ⟨12, (some 26), none, .extract 0 (.tmp 14), true, []⟩,
 ⟨13, (some 27), none, .extract 1 (.tmp 14), true, []⟩,
 ⟨14, (some 7), none, .mov (.tmp 26), true, []⟩,
 ⟨15, (some 8), none, .mov (.tmp 27), true, []⟩])
 (.seq (.seq (.region [] [⟨0, (some 28), none, .mov (.tmp 8), false, []⟩,
 ⟨1, (some 29), none, .bin .neq (.tmp 28) (.const (.v (.c (.int .i64 0)))), false, []⟩])
 (.cond (.tmp 29) (.seq (.region [] [⟨0, (some 30), none, .build [(.int .i64 0), (.int .i64 0), (.int .i64 0), .nils] [], false, []⟩,
 ⟨1, (some 31), none, .mov (.tmp 8), false, []⟩,
 ⟨2, none, none, .store 4 (.tmp 4) (.tmp 30), false, []⟩,
 ⟨3, (some 5), none, .mov (.const (.v (.c (.flt (.f 0))))), false, []⟩,
 ⟨4, (some 6), none, .mov (.tmp 31), false, []⟩])
 .ret)
 .skip))
 (.seq (.seq (.region [] [⟨0, (some 32), none, .mov (.tmp 7), false, []⟩,
 ⟨1, (some 33), none, .bi .len [(.tmp 32)], false, []⟩,
 ⟨2, (some 34), none, .mov (.const (.v (.c (.int .i64 0)))), false, []⟩])
 (.block 0 (.loop (.seq (.region [] [⟨0, (some 35), none, .bin .lss (.tmp 34) (.tmp 33), false, []⟩])
 (.seq (.cond (.tmp 35) .skip
 (.exit 0))
 (.seq (.block 1 (.seq (.region [] [⟨0, (some 36), none, .indexAddr 4 none (.tmp 32) (.tmp 34), false, []⟩,
 ⟨1, (some 37), none, .load (some 4) (.tmp 36), false, []⟩,
 ⟨2, (some 10), none, .alloc [(.int .i64 0), (.int .i64 0), (.int .i64 0), (.cpx (.f 0) (.f 0))], false, []⟩,
 ⟨3, none, none, .store 4 (.tmp 10) (.tmp 37), false, []⟩])
 (.seq (.region [] [⟨0, (some 38), none, .addr 3 (.tmp 10), false, []⟩,
 ⟨1, (some 39), none, .load none (.tmp 38), false, []⟩,
 ⟨2, (some 40), none, .call (.const (.v (.c (.fn 40 [])))) [(.tmp 39)], false, []⟩,
 ⟨3, (some 41), none, .un .not (.tmp 40), false, []⟩])
 (.cond (.tmp 41) (.seq (.region [] [⟨0, (some 42), none, .build [(.int .i64 0), (.int .i64 0), (.int .i64 0), .nils] [], false, []⟩,
 ⟨1, none, none, .store 4 (.tmp 4) (.tmp 42), false, []⟩,
 ⟨2, (some 5), none, .mov (.const (.v (.c (.flt (.f 0))))), false, []⟩,
 ⟨3, (some 6), none, .mov (.const (.v (.c (.int .i64 7)))), false, []⟩])
 .ret)
 .skip))))
 (.region [] [⟨0, (some 43), none, .bin .add (.tmp 34) (.const (.v (.c (.int .i64 1)))), false, []⟩,
 ⟨1, (some 34), none, .mov (.tmp 43), false, []⟩])))))))
 (.seq (.region [] [⟨0, (some 45), none, .mov (.tmp 0), false, []⟩,
 ⟨1, (some 46), none, .nilCheck (.tmp 45), false, []⟩,
 ⟨2, (some 47), none, .addr 0 (.tmp 46), false, []⟩,
 ⟨3, (some 48), none, .load none (.tmp 47), false, []⟩,
 ⟨4, (some 49), none, .mov (.tmp 7), false, []⟩,
 ⟨5, (some 50), none, .call (.const (.v (.c (.fn 43 [])))) [(.tmp 48), (.tmp 49)], false, []⟩,
 ⟨6, (some 44), none, .mov (.tmp 50), false, []⟩,
 ⟨7, (some 51), none, .extract 0 (.tmp 44), false, []⟩,
 ⟨8, (some 52), none, .extract 1 (.tmp 44), false, []⟩,
 ⟨9, (some 11), none, .mov (.tmp 51), false, []⟩,
 ⟨10, (some 8), none, .mov (.tmp 52), false, []⟩])
 (.seq (.seq (.region [] [⟨0, (some 53), none, .mov (.tmp 8), false, []⟩,
 ⟨1, (some 54), none, .bin .neq (.tmp 53) (.const (.v (.c (.int .i64 0)))), false, []⟩])
 (.cond (.tmp 54) (.seq (.region [] [⟨0, (some 55), none, .build [(.int .i64 0), (.int .i64 0), (.int .i64 0), .nils] [], false, []⟩,
 ⟨1, (some 56), none, .mov (.tmp 8), false, []⟩,
 ⟨2, none, none, .store 4 (.tmp 4) (.tmp 55), false, []⟩,
 ⟨3, (some 5), none, .mov (.const (.v (.c (.flt (.f 0))))), false, []⟩,
 ⟨4, (some 6), none, .mov (.tmp 56), false, []⟩])
 .ret)
 .skip))
 (.seq (.region [] [⟨0, (some 58), none, .mov (.tmp 7), false, []⟩,
 ⟨1, (some 59), none, .mov (.tmp 0), false, []⟩,
 ⟨2, (some 60), none, .nilCheck (.tmp 59), false, []⟩,
 ⟨3, (some 61), none, .addr 0 (.tmp 60), false, []⟩,
 ⟨4, (some 62), none, .load none (.tmp 61), false, []⟩,
 ⟨5, (some 63), none, .call (.const (.v (.c (.fn 13 [])))) [(.tmp 58), (.tmp 62)], false, []⟩,
 ⟨6, (some 57), none, .mov (.tmp 63), false, []⟩,
 ⟨7, (some 64), none, .extract 0 (.tmp 57), false, []⟩,
 ⟨8, (some 65), none, .extract 1 (.tmp 57), false, []⟩,
 ⟨9, (some 12), none, .mov (.tmp 64), false, []⟩,
 ⟨10, (some 8), none, .mov (.tmp 65), false, []⟩])
 (.seq (.seq (.region [] [⟨0, (some 66), none, .mov (.tmp 8), false, []⟩,
 ⟨1, (some 67), none, .bin .neq (.tmp 66) (.const (.v (.c (.int .i64 0)))), false, []⟩])
 (.cond (.tmp 67) (.seq (.region [] [⟨0, (some 68), none, .build [(.int .i64 0), (.int .i64 0), (.int .i64 0), .nils] [], false, []⟩,
 ⟨1, (some 69), none, .mov (.tmp 8), false, []⟩,
 ⟨2, none, none, .store 4 (.tmp 4) (.tmp 68), false, []⟩,
 ⟨3, (some 5), none, .mov (.const (.v (.c (.flt (.f 0))))), false, []⟩,
 ⟨4, (some 6), none, .mov (.tmp 69), false, []⟩])
 .ret)
 .skip))
 (.seq (.region [] [⟨0, (some 71), none, .mov (.tmp 12), false, []⟩,
 ⟨1, (some 72), none, .addr 0 (.tmp 3), false, []⟩,
 ⟨2, (some 73), none, .load (some 3) (.tmp 72), false, []⟩,
 ⟨3, (some 74), none, .call (.const (.v (.c (.fn 44 [])))) [(.tmp 71), (.tmp 73)], false, []⟩,
 ⟨4, (some 70), none, .mov (.tmp 74), false, []⟩,
 ⟨5, (some 75), none, .extract 0 (.tmp 70), false, []⟩,
 ⟨6, (some 76), none, .extract 1 (.tmp 70), false, []⟩,
 ⟨7, (some 13), none, .alloc [(.int .i64 0), (.int .i64 0), (.int .i64 0), .nils], false, []⟩,
 ⟨8, none, none, .store 4 (.tmp 13) (.tmp 75), false, []⟩,
 ⟨9, (some 8), none, .mov (.tmp 76), false, []⟩])
 (.seq (.region [] [⟨0, (some 77), none, .load (some 4) (.tmp 13), false, []⟩,
 ⟨1, (some 78), none, .mov (.tmp 11), false, []⟩,
 ⟨2, (some 79), none, .mov (.tmp 8), false, []⟩,
 ⟨3, none, none, .store 4 (.tmp 4) (.tmp 77), false, []⟩,
 ⟨4, (some 5), none, .mov (.tmp 78), false, []⟩,
 ⟨5, (some 6), none, .mov (.tmp 79), false, []⟩])
 .ret))))))))))⟩

/-- facet/turn.Of -/
def c32 : AFun := ⟨33, [(4, none), (5, none)],
 (.seq (.region [] [⟨0, (some 4), none, .mov (.const (.v (.c (.cpx (.f 0) (.f 0))))), false, []⟩,
 ⟨1, (some 5), none, .mov (.const (.v (.c (.int .i64 0)))), false, []⟩])
 (.seq (.seq (.region [] [⟨0, (some 6), none, .mov (.tmp 1), false, []⟩,
 ⟨1, (some 7), none, .bin .lss (.tmp 6) (.const (.v (.c (.int .i64 1)))), false, []⟩,
 ⟨2, (some 8), none, .mov (.tmp 7), false, []⟩,
 ⟨3, (some 9), (some (8, false)), .mov (.tmp 1), false, []⟩,
 ⟨4, (some 10), (some (8, false)), .bin .gtr (.tmp 9) (.const (.v (.c (.int .i64 192)))), false, []⟩,
 ⟨5, (some 11), none, .pick (.tmp 8) (.const (.v (.c (.bool true)))) (.tmp 10), false, []⟩,
 ⟨6, (some 12), none, .mov (.tmp 11), false, []⟩,
 ⟨7, (some 13), (some (12, false)), .mov (.tmp 1), false, []⟩,
 ⟨8, (some 14), (some (12, false)), .bin .rem (.const (.v (.c (.int .i64 192)))) (.tmp 13), false, []⟩,
 ⟨9, (some 15), (some (12, false)), .bin .neq (.tmp 14) (.const (.v (.c (.int .i64 0)))), false, []⟩,
 ⟨10, (some 16), none, .pick (.tmp 12) (.const (.v (.c (.bool true)))) (.tmp 15), false, []⟩])
 (.cond (.tmp 16) (.seq (.region [] [⟨0, (some 4), none, .mov (.const (.v (.c (.cpx (.f 0) (.f 0))))), false, []⟩,
 ⟨1, (some 5), none, .mov (.const (.v (.c (.int .i64 1)))), false, []⟩])
 .ret)
 .skip))
 (.seq (.region [] [⟨0, (some 17), none, .mov (.tmp 0), true, []⟩,
 ⟨1, (some 18), none, .mov (.tmp 1), true, []⟩,
 ⟨2, (some 19), none, .bin .rem (.tmp 17) (.tmp 18), true, []⟩,
 ⟨3, (some 20), none, .mov (.tmp 1), true, []⟩,
 ⟨4, (some 21), none, .bin .add (.tmp 19) (.tmp 20), true, []⟩,
 ⟨5, (some 22), none, .mov (.tmp 1), true, []⟩,
 ⟨6, (some 23), none, .bin .rem (.tmp 21) (.tmp 22), true, []⟩,
 ⟨7, (some 24), none, .mov (.tmp 1), true, []⟩,
 ⟨8, (some 25), none, .bin .quo (.const (.v (.c (.int .i64 192)))) (.tmp 24), true, []⟩,
 ⟨9, (some 26), none, .bin .mul (.tmp 23) (.tmp 25), true, []⟩,
 ⟨10, (some 0), none, .mov (.tmp 26), true, []⟩])
 (.seq (.region [] [⟨0, (some 27), none, .mov (.tmp 0), false, []⟩,
 ⟨1, (some 28), none, .call (.const (.v (.c (.fn 45 [])))) [(.tmp 27)], false, []⟩,
 ⟨2, (some 29), none, .mov (.tmp 0), false, []⟩,
 ⟨3, (some 30), none, .bin .add (.tmp 29) (.const (.v (.c (.int .i64 144)))), false, []⟩,
 ⟨4, (some 31), none, .call (.const (.v (.c (.fn 45 [])))) [(.tmp 30)], false, []⟩,
 ⟨5, (some 32), none, .bi .complex [(.tmp 28), (.tmp 31)], false, []⟩,
 ⟨6, (some 4), none, .mov (.tmp 32), false, []⟩,
 ⟨7, (some 5), none, .mov (.const (.v (.c (.int .i64 0)))), false, []⟩])
 .ret))))⟩

/-- facet/pairs.check -/
def c33 : AFun := ⟨38, [(2, none)],
 (.seq (.region [] [⟨0, (some 2), none, .mov (.const (.v (.c (.int .i64 0)))), false, []⟩])
 (.seq (.region [] [⟨0, (some 6), none, .mkMap, false, []⟩,
 ⟨1, (some 3), none, .mov (.tmp 6), false, []⟩])
 (.seq (.seq (.region [] [⟨0, (some 7), none, .mov (.tmp 0), false, []⟩,
 ⟨1, (some 8), none, .bi .len [(.tmp 7)], false, []⟩,
 ⟨2, (some 9), none, .mov (.const (.v (.c (.int .i64 0)))), false, []⟩])
 (.block 0 (.loop (.seq (.region [] [⟨0, (some 10), none, .bin .lss (.tmp 9) (.tmp 8), false, []⟩])
 (.seq (.cond (.tmp 10) .skip
 (.exit 0))
 (.seq (.block 1 (.seq (.region [] [⟨0, (some 11), none, .mov (.tmp 9), false, []⟩,
 ⟨1, (some 12), none, .indexAddr 4 none (.tmp 7) (.tmp 9), false, []⟩,
 ⟨2, (some 13), none, .load (some 4) (.tmp 12), false, []⟩,
 ⟨3, (some 5), none, .alloc [(.int .i64 0), (.int .i64 0), (.int .i64 0), (.cpx (.f 0) (.f 0))], false, []⟩,
 ⟨4, (some 4), none, .mov (.tmp 11), false, []⟩,
 ⟨5, none, none, .store 4 (.tmp 5) (.tmp 13), false, []⟩])
 (.seq (.seq (.region [] [⟨0, (some 14), none, .addr 0 (.tmp 5), false, []⟩,
 ⟨1, (some 15), none, .load (some 3) (.tmp 14), false, []⟩,
 ⟨2, (some 16), none, .call (.const (.v (.c (.fn 46 [])))) [(.tmp 15)], false, []⟩,
 ⟨3, (some 17), none, .un .not (.tmp 16), false, []⟩])
 (.cond (.tmp 17) (.seq (.region [] [⟨0, (some 2), none, .mov (.const (.v (.c (.int .i64 1)))), false, []⟩])
 .ret)
 .skip))
 (.seq (.region [] [⟨0, (some 18), none, .mov (.tmp 4), false, []⟩,
 ⟨1, (some 19), none, .bin .leq (.tmp 18) (.const (.v (.c (.int .i64 4096)))), false, []⟩])
 (.cond (.tmp 19) (.region [] [⟨0, (some 20), none, .mov (.tmp 3), true, []⟩,
 ⟨1, (some 21), none, .addr 0 (.tmp 5), true, []⟩,
 ⟨2, (some 22), none, .load (some 3) (.tmp 21), true, []⟩,
 ⟨3, (some 23), none, .lookup (some 3) (.c (.int .i64 0)) (.tmp 20) (.tmp 22) false, true, []⟩,
 ⟨4, (some 24), none, .bin .add (.tmp 23) (.const (.v (.c (.int .i64 1)))), true, []⟩,
 ⟨5, (some 25), none, .mapEntry (some 3) (.c (.int .i64 0)) (.tmp 20) (.tmp 22), false, [3]⟩,
 ⟨6, (some 26), none, .extract 1 (.tmp 25), true, []⟩,
 ⟨7, none, none, .entryStore (.tmp 20) (.tmp 26) (.tmp 24), false, []⟩])
 .skip)))))
 (.region [] [⟨0, (some 27), none, .bin .add (.tmp 9) (.const (.v (.c (.int .i64 1)))), false, []⟩,
 ⟨1, (some 9), none, .mov (.tmp 27), false, []⟩])))))))
 (.seq (.block 2 (.seq (.region [] [⟨0, (some 29), none, .mov (.tmp 0), false, []⟩,
 ⟨1, (some 30), none, .bi .len [(.tmp 29)], false, []⟩,
 ⟨2, (some 31), none, .bin .gtr (.tmp 30) (.const (.v (.c (.int .i64 4096)))), false, []⟩,
 ⟨3, (some 28), none, .mov (.tmp 31), false, []⟩])
 (.cond (.tmp 28) (.seq (.region [] [⟨0, (some 2), none, .mov (.const (.v (.c (.int .i64 2)))), false, []⟩])
 .ret)
 (.seq (.region [] [⟨0, (some 33), none, .mov (.tmp 3), false, []⟩,
 ⟨1, (some 34), none, .bi .lenM [(.tmp 33)], false, []⟩,
 ⟨2, (some 35), none, .mov (.tmp 0), false, []⟩,
 ⟨3, (some 36), none, .bi .len [(.tmp 35)], false, []⟩,
 ⟨4, (some 37), none, .bin .lss (.tmp 34) (.tmp 36), false, []⟩,
 ⟨5, (some 32), none, .mov (.tmp 37), false, []⟩])
 (.cond (.tmp 32) (.seq (.region [] [⟨0, (some 2), none, .mov (.const (.v (.c (.int .i64 10)))), false, []⟩])
 .ret)
 .skip)))))
 (.seq (.region [] [⟨0, (some 2), none, .mov (.const (.v (.c (.int .i64 0)))), false, []⟩])
 .ret)))))⟩

/-- facet/pairs.sorted -/
def c34 : AFun := ⟨9, [(2, none)],
 (.seq (.region [] [⟨0, (some 2), none, .mov (.const (.v (.c .nils))), false, []⟩])
 (.seq (.region [] [⟨0, (some 4), none, .mov (.tmp 0), false, []⟩,
 ⟨1, (some 5), none, .call (.const (.v (.c (.fn 47 [])))) [(.tmp 4)], false, []⟩,
 ⟨2, (some 3), none, .mov (.tmp 5), false, []⟩])
 (.seq (.region [] [⟨0, (some 6), none, .mov (.tmp 3), false, []⟩,
 ⟨1, (some 7), none, .call (.const (.v (.c (.fn 48 [])))) [(.tmp 6), (.const (.v (.c (.fn 49 []))))], false, []⟩])
 (.seq (.region [] [⟨0, (some 8), none, .mov (.tmp 3), false, []⟩,
 ⟨1, (some 2), none, .mov (.tmp 8), false, []⟩])
 .ret))))⟩

/-- facet/facetref17.Same -/
def c35 : AFun := ⟨17, [(4, none)],
 (.seq (.region [] [⟨0, (some 4), none, .mov (.const (.v (.c (.bool false)))), false, []⟩])
 (.seq (.region [] [⟨0, (some 5), none, .mov (.tmp 0), false, []⟩,
 ⟨1, (some 6), none, .bi .real [(.tmp 5)], false, []⟩,
 ⟨2, (some 7), none, .mov (.tmp 1), false, []⟩,
 ⟨3, (some 8), none, .bi .real [(.tmp 7)], false, []⟩,
 ⟨4, (some 9), none, .call (.const (.v (.c (.fn 51 [])))) [(.tmp 6), (.tmp 8)], false, []⟩,
 ⟨5, (some 10), none, .mov (.tmp 9), false, []⟩,
 ⟨6, (some 11), (some (10, true)), .mov (.tmp 0), false, []⟩,
 ⟨7, (some 12), (some (10, true)), .bi .imag [(.tmp 11)], false, []⟩,
 ⟨8, (some 13), (some (10, true)), .mov (.tmp 1), false, []⟩,
 ⟨9, (some 14), (some (10, true)), .bi .imag [(.tmp 13)], false, []⟩,
 ⟨10, (some 15), (some (10, true)), .call (.const (.v (.c (.fn 51 [])))) [(.tmp 12), (.tmp 14)], false, []⟩,
 ⟨11, (some 16), none, .pick (.tmp 10) (.tmp 15) (.const (.v (.c (.bool false)))), false, []⟩,
 ⟨12, (some 4), none, .mov (.tmp 16), false, []⟩])
 .ret))⟩

/-- math.Abs -/
def c36 : AFun := ⟨7, [(2, none)],
 (.seq (.region [] [⟨0, (some 2), none, .mov (.const (.v (.c (.flt (.f 0))))), false, []⟩])
 (.seq (.region [] [⟨0, (some 3), none, .mov (.tmp 0), false, []⟩,
 ⟨1, (some 4), none, .fbits (.tmp 3), false, []⟩,
 ⟨2, (some 5), none, .bin .andNot (.tmp 4) (.const (.v (.c (.int .u64 9223372036854775808)))), false, []⟩,
 ⟨3, (some 6), none, .ffrom (.tmp 5), false, []⟩,
 ⟨4, (some 2), none, .mov (.tmp 6), false, []⟩])
 .ret))⟩

/-- math.IsInf -/
def c37 : AFun := ⟨15, [(4, none)],
 (.seq (.region [] [⟨0, (some 4), none, .mov (.const (.v (.c (.bool false)))), false, []⟩])
 (.seq (.seq (.region [] [⟨0, (some 5), none, .mov (.tmp 1), false, []⟩,
 ⟨1, (some 6), none, .bin .eql (.tmp 5) (.const (.v (.c (.int .i64 0)))), false, []⟩])
 (.cond (.tmp 6) (.region [] [⟨0, (some 7), none, .mov (.tmp 0), false, []⟩,
 ⟨1, (some 8), none, .call (.const (.v (.c (.fn 36 [])))) [(.tmp 7)], false, []⟩,
 ⟨2, (some 0), none, .mov (.tmp 8), false, []⟩])
 (.seq (.region [] [⟨0, (some 9), none, .mov (.tmp 1), false, []⟩,
 ⟨1, (some 10), none, .bin .lss (.tmp 9) (.const (.v (.c (.int .i64 0)))), false, []⟩])
 (.cond (.tmp 10) (.region [] [⟨0, (some 11), none, .mov (.tmp 0), false, []⟩,
 ⟨1, (some 12), none, .un .neg (.tmp 11), false, []⟩,
 ⟨2, (some 0), none, .mov (.tmp 12), false, []⟩])
 .skip))))
 (.seq (.region [] [⟨0, (some 13), none, .mov (.tmp 0), false, []⟩,
 ⟨1, (some 14), none, .bin .gtr (.tmp 13) (.const (.v (.c (.flt (.f 9218868437227405311))))), false, []⟩,
 ⟨2, (some 4), none, .mov (.tmp 14), false, []⟩])
 .ret)))⟩

/-- math.IsNaN -/
def c38 : AFun := ⟨6, [(2, none)],
 (.seq (.region [] [⟨0, (some 2), none, .mov (.const (.v (.c (.bool false)))), false, []⟩])
 (.seq (.region [] [⟨0, (some 3), none, .mov (.tmp 0), false, []⟩,
 ⟨1, (some 4), none, .mov (.tmp 0), false, []⟩,
 ⟨2, (some 5), none, .bin .neq (.tmp 3) (.tmp 4), false, []⟩,
 ⟨3, (some 2), none, .mov (.tmp 5), false, []⟩])
 .ret))⟩

/-- math.Sqrt -/
def c39 : AFun := ⟨5, [(2, none)],
 (.seq (.region [] [⟨0, (some 2), none, .mov (.const (.v (.c (.flt (.f 0))))), false, []⟩])
 (.seq (.region [] [⟨0, (some 3), none, .mov (.tmp 0), false, []⟩,
 ⟨1, (some 4), none, .sqrt (.tmp 3), false, []⟩,
 ⟨2, (some 2), none, .mov (.tmp 4), false, []⟩])
 .ret))⟩

/-- facet/cplx.Finite -/
def c40 : AFun := ⟨11, [(2, none)],
 (.seq (.region [] [⟨0, (some 2), none, .mov (.const (.v (.c (.bool false)))), false, []⟩])
 (.seq (.region [] [⟨0, (some 3), none, .mov (.tmp 0), false, []⟩,
 ⟨1, (some 4), none, .bi .real [(.tmp 3)], false, []⟩,
 ⟨2, (some 5), none, .call (.const (.v (.c (.fn 53 [])))) [(.tmp 4)], false, []⟩,
 ⟨3, (some 6), none, .mov (.tmp 5), false, []⟩,
 ⟨4, (some 7), (some (6, true)), .mov (.tmp 0), false, []⟩,
 ⟨5, (some 8), (some (6, true)), .bi .imag [(.tmp 7)], false, []⟩,
 ⟨6, (some 9), (some (6, true)), .call (.const (.v (.c (.fn 53 [])))) [(.tmp 8)], false, []⟩,
 ⟨7, (some 10), none, .pick (.tmp 6) (.tmp 9) (.const (.v (.c (.bool false)))), false, []⟩,
 ⟨8, (some 2), none, .mov (.tmp 10), false, []⟩])
 .ret))⟩

/-- facet/facetref16.SameFloat -/
def c41 : AFun := ⟨18, [(4, none)],
 (.seq (.region [] [⟨0, (some 4), none, .mov (.const (.v (.c (.bool false)))), false, []⟩])
 (.seq (.region [] [⟨0, (some 5), none, .mov (.tmp 0), false, []⟩,
 ⟨1, (some 6), none, .fbits (.tmp 5), false, []⟩,
 ⟨2, (some 7), none, .mov (.tmp 1), false, []⟩,
 ⟨3, (some 8), none, .fbits (.tmp 7), false, []⟩,
 ⟨4, (some 9), none, .bin .eql (.tmp 6) (.tmp 8), false, []⟩,
 ⟨5, (some 10), none, .mov (.tmp 9), false, []⟩,
 ⟨6, (some 11), (some (10, false)), .mov (.tmp 0), false, []⟩,
 ⟨7, (some 12), (some (10, false)), .call (.const (.v (.c (.fn 54 [])))) [(.tmp 11)], false, []⟩,
 ⟨8, (some 13), (some (10, false)), .mov (.tmp 12), false, []⟩,
 ⟨9, (some 14), (some (13, true)), .mov (.tmp 1), false, []⟩,
 ⟨10, (some 15), (some (13, true)), .call (.const (.v (.c (.fn 54 [])))) [(.tmp 14)], false, []⟩,
 ⟨11, (some 16), (some (10, false)), .pick (.tmp 13) (.tmp 15) (.const (.v (.c (.bool false)))), false, []⟩,
 ⟨12, (some 17), none, .pick (.tmp 10) (.const (.v (.c (.bool true)))) (.tmp 16), false, []⟩,
 ⟨13, (some 4), none, .mov (.tmp 17), false, []⟩])
 .ret))⟩

/-- facet/density.Waves -/
def c42 : AFun := ⟨74, [(4, none), (5, none)],
 (.seq (.region [] [⟨0, (some 2), none, .box (.tmp 0), false, []⟩,
 ⟨1, (some 4), none, .mov (.const (.v (.c .nils))), false, []⟩,
 ⟨2, (some 5), none, .mov (.const (.v (.c (.int .i64 0)))), false, []⟩])
 (.seq (.region [] [⟨0, (some 13), none, .addr 0 (.tmp 2), true, []⟩,
 ⟨1, (some 14), none, .load (some 3) (.tmp 13), true, []⟩,
 ⟨3, (some 16), none, .addr 0 (.tmp 2), true, []⟩,
 ⟨4, (some 17), none, .load (some 3) (.tmp 16), true, []⟩,
 ⟨5, (some 18), none, .addr 3 (.tmp 2), true, []⟩,
 ⟨6, (some 19), none, .load none (.tmp 18), true, []⟩,
 ⟨7, (some 20), none, .bi .len [(.tmp 19)], true, []⟩,
 ⟨2, (some 15), none, .call (.const (.v (.c (.fn 56 [])))) [(.tmp 14)], false, [4, 6]⟩,
 ⟨8, (some 21), none, .call (.const (.v (.c (.fn 57 [])))) [(.tmp 17), (.tmp 20)], false, []⟩,
 ⟨9, (some 22), none, .call (.const (.v (.c (.fn 55 [])))) [(.tmp 15), (.tmp 21)], false, []⟩,
 ⟨10, (some 6), none, .mov (.tmp 22), true, []⟩])
 (.seq (.seq (.region [] [⟨0, (some 23), none, .mov (.tmp 1), false, []⟩,
 ⟨1, (some 24), none, .bi .len [(.tmp 23)], false, []⟩,
 ⟨2, (some 25), none, .bin .gtr (.tmp 24) (.const (.v (.c (.int .i64 4096)))), false, []⟩])
 (.cond (.tmp 25) (.region [] [⟨0, (some 26), none, .mov (.tmp 6), false, []⟩,
 ⟨1, (some 27), none, .call (.const (.v (.c (.fn 55 [])))) [(.tmp 26), (.const (.v (.c (.int .i64 2))))], false, []⟩,
 ⟨2, (some 6), none, .mov (.tmp 27), false, []⟩])
 .skip))
 (.seq (.seq (.region [] [⟨0, (some 28), none, .mov (.tmp 1), false, []⟩,
 ⟨1, (some 29), none, .bi .len [(.tmp 28)], false, []⟩,
 ⟨2, (some 30), none, .mov (.const (.v (.c (.int .i64 0)))), false, []⟩])
 (.block 0 (.loop (.seq (.region [] [⟨0, (some 31), none, .bin .lss (.tmp 30) (.tmp 29), false, []⟩])
 (.seq (.cond (.tmp 31) .skip
 (.exit 0))
 (.seq (.block 1 (.seq (.region [] [⟨0, (some 32), none, .indexAddr 3 none (.tmp 28) (.tmp 30), false, []⟩,
 ⟨1, (some 33), none, .load (some 3) (.tmp 32), false, []⟩,
 ⟨2, (some 8), none, .alloc [(.int .i64 0), (.int .i64 0), (.int .i64 0)], false, []⟩,
 ⟨3, none, none, .store 3 (.tmp 8) (.tmp 33), false, []⟩])
 (.region [] [⟨0, (some 34), none, .mov (.tmp 6), false, []⟩,
 ⟨1, (some 35), none, .load (some 3) (.tmp 8), false, []⟩,
 ⟨2, (some 36), none, .call (.const (.v (.c (.fn 58 [])))) [(.tmp 35)], false, []⟩,
 ⟨3, (some 37), none, .call (.const (.v (.c (.fn 55 [])))) [(.tmp 34), (.tmp 36)], false, []⟩,
 ⟨4, (some 6), none, .mov (.tmp 37), false, []⟩])))
 (.region [] [⟨0, (some 38), none, .bin .add (.tmp 30) (.const (.v (.c (.int .i64 1)))), false, []⟩,
 ⟨1, (some 30), none, .mov (.tmp 38), false, []⟩])))))))
 (.seq (.seq (.region [] [⟨0, (some 39), none, .mov (.tmp 6), false, []⟩,
 ⟨1, (some 40), none, .bin .neq (.tmp 39) (.const (.v (.c (.int .i64 0)))), false, []⟩])
 (.cond (.tmp 40) (.seq (.region [] [⟨0, (some 41), none, .mov (.tmp 6), false, []⟩,
 ⟨1, (some 4), none, .mov (.const (.v (.c .nils))), false, []⟩,
 ⟨2, (some 5), none, .mov (.tmp 41), false, []⟩])
 .ret)
 .skip))
 (.seq (.region [] [⟨0, (some 43), none, .load (some 4) (.tmp 2), false, []⟩,
 ⟨1, (some 44), none, .call (.const (.v (.c (.fn 59 [])))) [(.tmp 43)], false, []⟩,
 ⟨2, (some 42), none, .mov (.tmp 44), false, []⟩,
 ⟨3, (some 45), none, .extract 0 (.tmp 42), false, []⟩,
 ⟨4, (some 46), none, .extract 1 (.tmp 42), false, []⟩,
 ⟨5, (some 9), none, .alloc [(.int .i64 0), (.int .i64 0), (.int .i64 0), .nils], false, []⟩,
 ⟨6, none, none, .store 4 (.tmp 9) (.tmp 45), false, []⟩,
 ⟨7, (some 6), none, .mov (.tmp 46), false, []⟩])
 (.seq (.seq (.region [] [⟨0, (some 47), none, .mov (.tmp 6), false, []⟩,
 ⟨1, (some 48), none, .bin .neq (.tmp 47) (.const (.v (.c (.int .i64 0)))), false, []⟩])
 (.cond (.tmp 48) (.seq (.region [] [⟨0, (some 49), none, .mov (.tmp 6), false, []⟩,
 ⟨1, (some 4), none, .mov (.const (.v (.c .nils))), false, []⟩,
 ⟨2, (some 5), none, .mov (.tmp 49), false, []⟩])
 .ret)
 .skip))
 (.seq (.region [] [⟨0, (some 10), none, .mov (.const (.v (.c .nils))), false, []⟩])
 (.seq (.seq (.region [] [⟨0, (some 50), none, .mov (.tmp 1), false, []⟩,
 ⟨1, (some 51), none, .bi .len [(.tmp 50)], false, []⟩,
 ⟨2, (some 52), none, .mov (.const (.v (.c (.int .i64 0)))), false, []⟩])
 (.block 2 (.loop (.seq (.region [] [⟨0, (some 53), none, .bin .lss (.tmp 52) (.tmp 51), false, []⟩])
 (.seq (.cond (.tmp 53) .skip
 (.exit 2))
 (.seq (.block 3 (.seq (.region [] [⟨0, (some 54), none, .indexAddr 3 none (.tmp 50) (.tmp 52), false, []⟩,
 ⟨1, (some 55), none, .load (some 3) (.tmp 54), false, []⟩,
 ⟨2, (some 12), none, .alloc [(.int .i64 0), (.int .i64 0), (.int .i64 0)], false, []⟩,
 ⟨3, none, none, .store 3 (.tmp 12) (.tmp 55), false, []⟩])
 (.region [] [⟨0, (some 56), none, .mov (.tmp 10), true, []⟩,
 ⟨1, (some 57), none, .load (some 3) (.tmp 12), true, []⟩,
 ⟨2, (some 58), none, .addr 3 (.tmp 9), true, []⟩,
 ⟨3, (some 59), none, .load none (.tmp 58), true, []⟩,
 ⟨4, (some 60), none, .addr 0 (.tmp 2), true, []⟩,
 ⟨5, (some 61), none, .load (some 3) (.tmp 60), true, []⟩,
 ⟨6, (some 62), none, .load (some 3) (.tmp 12), true, []⟩,
 ⟨7, (some 63), none, .addr 0 (.tmp 2), true, []⟩,
 ⟨8, (some 64), none, .load (some 3) (.tmp 63), true, []⟩,
 ⟨9, (some 65), none, .call (.const (.v (.c (.fn 61 [])))) [(.tmp 62), (.tmp 64)], false, [1, 3, 5]⟩,
 ⟨10, (some 66), none, .call (.const (.v (.c (.fn 60 [])))) [(.tmp 61), (.tmp 65)], false, [1, 3]⟩,
 ⟨11, (some 67), none, .indexAddr 1 none (.tmp 59) (.tmp 66), true, []⟩,
 ⟨12, (some 68), none, .load none (.tmp 67), true, []⟩,
 ⟨13, (some 69), none, .build [(.int .i64 0), (.int .i64 0), (.int .i64 0), (.cpx (.f 0) (.f 0))] [(0, 3, (.tmp 57)), (3, 1, (.tmp 68))], true, []⟩,
 ⟨14, (some 70), none, .buildSlice [(.int .i64 0), (.int .i64 0), (.int .i64 0), (.cpx (.f 0) (.f 0))] [(0, 4, (.tmp 69))] 1, false, []⟩,
 ⟨15, (some 71), none, .bi (.append 4 [(.int .i64 0), (.int .i64 0), (.int .i64 0), (.cpx (.f 0) (.f 0))] 40) [(.tmp 56), (.tmp 70)], false, []⟩,
 ⟨16, (some 10), none, .mov (.tmp 71), true, []⟩])))
 (.region [] [⟨0, (some 72), none, .bin .add (.tmp 52) (.const (.v (.c (.int .i64 1)))), false, []⟩,
 ⟨1, (some 52), none, .mov (.tmp 72), false, []⟩])))))))
 (.seq (.region [] [⟨0, (some 73), none, .mov (.tmp 10), false, []⟩,
 ⟨1, (some 4), none, .mov (.tmp 73), false, []⟩,
 ⟨2, (some 5), none, .mov (.const (.v (.c (.int .i64 0)))), false, []⟩])
 .ret))))))))))⟩

/-- facet/scale.Off -/
def c43 : AFun := ⟨55, [(4, none), (5, none)],
 (.seq (.region [] [⟨0, (some 4), none, .mov (.const (.v (.c (.flt (.f 0))))), false, []⟩,
 ⟨1, (some 5), none, .mov (.const (.v (.c (.int .i64 0)))), false, []⟩])
 (.seq (.region [] [⟨0, (some 12), none, .mov (.tmp 0), false, []⟩,
 ⟨1, (some 13), none, .mov (.tmp 1), false, []⟩,
 ⟨2, (some 14), none, .call (.const (.v (.c (.fn 62 [])))) [(.tmp 12), (.tmp 13)], false, []⟩,
 ⟨3, (some 6), none, .mov (.tmp 14), false, []⟩])
 (.seq (.seq (.region [] [⟨0, (some 15), none, .mov (.tmp 6), false, []⟩,
 ⟨1, (some 16), none, .bin .neq (.tmp 15) (.const (.v (.c (.int .i64 0)))), false, []⟩,
 ⟨2, (some 17), none, .mov (.tmp 16), false, []⟩,
 ⟨3, (some 18), (some (17, true)), .mov (.tmp 6), false, []⟩,
 ⟨4, (some 19), (some (17, true)), .bin .lss (.tmp 18) (.const (.v (.c (.int .i64 8)))), false, []⟩,
 ⟨5, (some 20), none, .pick (.tmp 17) (.tmp 19) (.const (.v (.c (.bool false)))), false, []⟩])
 (.cond (.tmp 20) (.seq (.region [] [⟨0, (some 21), none, .mov (.tmp 6), false, []⟩,
 ⟨1, (some 4), none, .mov (.const (.v (.c (.flt (.f 0))))), false, []⟩,
 ⟨2, (some 5), none, .mov (.tmp 21), false, []⟩])
 .ret)
 .skip))
 (.seq (.region [] [⟨0, (some 7), none, .mov (.const (.v (.c (.flt (.f 0))))), false, []⟩,
 ⟨1, (some 8), none, .mov (.const (.v (.c (.flt (.f 0))))), false, []⟩])
 (.seq (.seq (.region [] [⟨0, (some 22), none, .mov (.tmp 0), false, []⟩,
 ⟨1, (some 23), none, .bi .len [(.tmp 22)], false, []⟩,
 ⟨2, (some 24), none, .mov (.const (.v (.c (.int .i64 0)))), false, []⟩])
 (.block 0 (.loop (.seq (.region [] [⟨0, (some 25), none, .bin .lss (.tmp 24) (.tmp 23), false, []⟩])
 (.seq (.cond (.tmp 25) .skip
 (.exit 0))
 (.seq (.block 1 (.seq (.region [] [⟨0, (some 26), none, .mov (.tmp 24), false, []⟩,
 ⟨1, (some 9), none, .mov (.tmp 26), false, []⟩])
 (.seq (.region [] [⟨0, (some 27), none, .mov (.tmp 0), true, []⟩,
 ⟨1, (some 28), none, .mov (.tmp 9), true, []⟩,
 ⟨2, (some 29), none, .indexAddr 4 none (.tmp 27) (.tmp 28), true, []⟩,
 ⟨3, (some 30), none, .addr 3 (.tmp 29), true, []⟩,
 ⟨4, (some 31), none, .load none (.tmp 30), true, []⟩,
 ⟨6, (some 33), none, .mov (.tmp 1), true, []⟩,
 ⟨7, (some 34), none, .mov (.tmp 9), true, []⟩,
 ⟨8, (some 35), none, .indexAddr 4 none (.tmp 33) (.tmp 34), true, []⟩,
 ⟨9, (some 36), none, .addr 3 (.tmp 35), true, []⟩,
 ⟨10, (some 37), none, .load none (.tmp 36), true, []⟩,
 ⟨5, (some 32), none, .call (.const (.v (.c (.fn 26 [])))) [(.tmp 31)], false, [10]⟩,
 ⟨11, (some 38), none, .call (.const (.v (.c (.fn 26 [])))) [(.tmp 37)], false, []⟩,
 ⟨12, (some 10), none, .mov (.tmp 32), true, []⟩,
 ⟨13, (some 11), none, .mov (.tmp 38), true, []⟩])
 (.seq (.region [] [⟨0, (some 39), none, .mov (.tmp 7), false, []⟩,
 ⟨1, (some 40), none, .mov (.tmp 10), false, []⟩,
 ⟨2, (some 41), none, .mov (.tmp 11), false, []⟩,
 ⟨3, (some 42), none, .bin .sub (.tmp 40) (.tmp 41), false, []⟩,
 ⟨4, (some 43), none, .call (.const (.v (.c (.fn 36 [])))) [(.tmp 42)], false, []⟩,
 ⟨5, (some 44), none, .bin .add (.tmp 39) (.tmp 43), false, []⟩,
 ⟨6, (some 7), none, .mov (.tmp 44), false, []⟩])
 (.region [] [⟨0, (some 45), none, .mov (.tmp 8), false, []⟩,
 ⟨1, (some 46), none, .mov (.tmp 10), false, []⟩,
 ⟨2, (some 47), none, .bin .add (.tmp 45) (.tmp 46), false, []⟩,
 ⟨3, (some 8), none, .mov (.tmp 47), false, []⟩])))))
 (.region [] [⟨0, (some 48), none, .bin .add (.tmp 24) (.const (.v (.c (.int .i64 1)))), false, []⟩,
 ⟨1, (some 24), none, .mov (.tmp 48), false, []⟩])))))))
 (.seq (.region [] [⟨0, (some 49), none, .mov (.tmp 7), false, []⟩,
 ⟨1, (some 50), none, .mov (.tmp 8), false, []⟩,
 ⟨2, (some 51), none, .mov (.tmp 6), false, []⟩,
 ⟨3, (some 52), none, .call (.const (.v (.c (.fn 63 [])))) [(.tmp 49), (.tmp 50), (.tmp 51)], false, []⟩,
 ⟨4, (some 53), none, .extract 0 (.tmp 52), false, []⟩,
 ⟨5, (some 54), none, .extract 1 (.tmp 52), false, []⟩,
 ⟨6, (some 4), none, .mov (.tmp 53), false, []⟩,
 ⟨7, (some 5), none, .mov (.tmp 54), false, []⟩])
 .ret))))))⟩

/-- facet/density.Map -/
def c44 : AFun := ⟨73, [(4, (some (some 4))), (5, none)],
 (.seq (.region [] [⟨0, (some 3), none, .box (.tmp 1), false, []⟩,
 ⟨1, (some 4), none, .alloc [(.int .i64 0), (.int .i64 0), (.int .i64 0), .nils], false, []⟩,
 ⟨2, (some 5), none, .mov (.const (.v (.c (.int .i64 0)))), false, []⟩])
 (.seq (.region [] [⟨0, (some 14), none, .load (some 3) (.tmp 3), false, []⟩,
 ⟨1, (some 15), none, .call (.const (.v (.c (.fn 56 [])))) [(.tmp 14)], false, []⟩,
 ⟨2, (some 6), none, .mov (.tmp 15), false, []⟩])
 (.seq (.seq (.region [] [⟨0, (some 16), none, .mov (.tmp 0), false, []⟩,
 ⟨1, (some 17), none, .bi .len [(.tmp 16)], false, []⟩,
 ⟨2, (some 18), none, .bin .gtr (.tmp 17) (.const (.v (.c (.int .i64 4096)))), false, []⟩])
 (.cond (.tmp 18) (.region [] [⟨0, (some 19), none, .mov (.tmp 6), false, []⟩,
 ⟨1, (some 20), none, .call (.const (.v (.c (.fn 55 [])))) [(.tmp 19), (.const (.v (.c (.int .i64 2))))], false, []⟩,
 ⟨2, (some 6), none, .mov (.tmp 20), false, []⟩])
 .skip))
 (.seq (.seq (.region [] [⟨0, (some 21), none, .mov (.tmp 0), false, []⟩,
 ⟨1, (some 22), none, .bi .len [(.tmp 21)], false, []⟩,
 ⟨2, (some 23), none, .mov (.const (.v (.c (.int .i64 0)))), false, []⟩])
 (.block 0 (.loop (.seq (.region [] [⟨0, (some 24), none, .bin .lss (.tmp 23) (.tmp 22), false, []⟩])
 (.seq (.cond (.tmp 24) .skip
 (.exit 0))
 (.seq (.block 1 (.seq (.region [] [⟨0, (some 25), none, .indexAddr 4 none (.tmp 21) (.tmp 23), false, []⟩,
 ⟨1, (some 26), none, .load (some 4) (.tmp 25), false, []⟩,
 ⟨2, (some 8), none, .alloc [(.int .i64 0), (.int .i64 0), (.int .i64 0), (.cpx (.f 0) (.f 0))], false, []⟩,
 ⟨3, none, none, .store 4 (.tmp 8) (.tmp 26), false, []⟩])
 (.region [] [⟨0, (some 27), none, .mov (.tmp 6), false, []⟩,
 ⟨1, (some 28), none, .addr 0 (.tmp 8), false, []⟩,
 ⟨2, (some 29), none, .load (some 3) (.tmp 28), false, []⟩,
 ⟨3, (some 30), none, .call (.const (.v (.c (.fn 58 [])))) [(.tmp 29)], false, []⟩,
 ⟨4, (some 31), none, .call (.const (.v (.c (.fn 55 [])))) [(.tmp 27), (.tmp 30)], false, []⟩,
 ⟨5, (some 6), none, .mov (.tmp 31), false, []⟩])))
 (.region [] [⟨0, (some 32), none, .bin .add (.tmp 23) (.const (.v (.c (.int .i64 1)))), false, []⟩,
 ⟨1, (some 23), none, .mov (.tmp 32), false, []⟩])))))))
 (.seq (.seq (.region [] [⟨0, (some 33), none, .mov (.tmp 6), false, []⟩,
 ⟨1, (some 34), none, .bin .neq (.tmp 33) (.const (.v (.c (.int .i64 0)))), false, []⟩])
 (.cond (.tmp 34) (.seq (.region [] [⟨0, (some 35), none, .build [(.int .i64 0), (.int .i64 0), (.int .i64 0), .nils] [], false, []⟩,
 ⟨1, (some 36), none, .mov (.tmp 6), false, []⟩,
 ⟨2, none, none, .store 4 (.tmp 4) (.tmp 35), false, []⟩,
 ⟨3, (some 5), none, .mov (.tmp 36), false, []⟩])
 .ret)
 .skip))
 (.seq (.region [9] [⟨0, (some 37), none, .load (some 3) (.tmp 3), true, []⟩,
 ⟨1, (some 38), none, .load (some 3) (.tmp 3), true, []⟩,
 ⟨2, (some 39), none, .call (.const (.v (.c (.fn 64 [])))) [(.tmp 38)], false, [0]⟩,
 ⟨3, (some 40), none, .mkSlice 1 [(.cpx (.f 0) (.f 0))] 16 (.tmp 39) (.tmp 39), false, [0]⟩,
 ⟨4, (some 41), none, .build [(.int .i64 0), (.int .i64 0), (.int .i64 0), .nils] [(0, 3, (.tmp 37)), (3, 1, (.tmp 40))], true, []⟩,
 ⟨5, (some 9), none, .alloc [(.int .i64 0), (.int .i64 0), (.int .i64 0), .nils], false, []⟩,
 ⟨6, none, none, .store 4 (.tmp 9) (.tmp 41), false, []⟩])
 (.seq (.region [] [⟨0, (some 42), none, .mkMap, false, []⟩,
 ⟨1, (some 10), none, .mov (.tmp 42), false, []⟩])
 (.seq (.seq (.region [] [⟨0, (some 43), none, .mov (.tmp 0), false, []⟩,
 ⟨1, (some 44), none, .bi .len [(.tmp 43)], false, []⟩,
 ⟨2, (some 45), none, .mov (.const (.v (.c (.int .i64 0)))), false, []⟩])
 (.block 2 (.loop (.seq (.region [] [⟨0, (some 46), none, .bin .lss (.tmp 45) (.tmp 44), false, []⟩])
 (.seq (.cond (.tmp 46) .skip
 (.exit 2))
 (.seq (.block 3 (.seq (.region [] [⟨0, (some 47), none, .indexAddr 4 none (.tmp 43) (.tmp 45), false, []⟩,
 ⟨1, (some 48), none, .load (some 4) (.tmp 47), false, []⟩,
 ⟨2, (some 12), none, .alloc [(.int .i64 0), (.int .i64 0), (.int .i64 0), (.cpx (.f 0) (.f 0))], false, []⟩,
 ⟨3, none, none, .store 4 (.tmp 12) (.tmp 48), false, []⟩])
 (.seq (.region [] [⟨0, (some 49), none, .load (some 3) (.tmp 3), true, []⟩,
 ⟨1, (some 50), none, .addr 0 (.tmp 12), true, []⟩,
 ⟨2, (some 51), none, .load (some 3) (.tmp 50), true, []⟩,
 ⟨3, (some 52), none, .load (some 3) (.tmp 3), true, []⟩,
 ⟨4, (some 53), none, .call (.const (.v (.c (.fn 61 [])))) [(.tmp 51), (.tmp 52)], false, [0]⟩,
 ⟨5, (some 54), none, .call (.const (.v (.c (.fn 60 [])))) [(.tmp 49), (.tmp 53)], false, []⟩,
 ⟨6, (some 13), none, .mov (.tmp 54), true, []⟩])
 (.seq (.seq (.region [] [⟨0, (some 55), none, .mov (.tmp 10), false, []⟩,
 ⟨1, (some 56), none, .mov (.tmp 13), false, []⟩,
 ⟨2, (some 57), none, .lookup none (.c (.int .i64 0)) (.tmp 55) (.tmp 56) false, false, []⟩,
 ⟨3, (some 58), none, .bin .gtr (.tmp 57) (.const (.v (.c (.int .i64 0)))), false, []⟩])
 (.cond (.tmp 58) (.seq (.region [] [⟨0, (some 59), none, .build [(.int .i64 0), (.int .i64 0), (.int .i64 0), .nils] [], false, []⟩,
 ⟨1, none, none, .store 4 (.tmp 4) (.tmp 59), false, []⟩,
 ⟨2, (some 5), none, .mov (.const (.v (.c (.int .i64 10)))), false, []⟩])
 .ret)
 .skip))
 (.seq (.region [] [⟨0, (some 60), none, .mov (.tmp 10), false, []⟩,
 ⟨1, (some 61), none, .mov (.tmp 13), false, []⟩,
 ⟨2, none, none, .mapUpdate none (.tmp 60) (.tmp 61) (.const (.v (.c (.int .i64 1)))), false, []⟩])
 (.region [] [⟨0, (some 62), none, .addr 3 (.tmp 9), false, []⟩,
 ⟨1, (some 63), none, .load none (.tmp 62), false, []⟩,
 ⟨2, (some 64), none, .mov (.tmp 13), false, []⟩,
 ⟨3, (some 65), none, .addr 3 (.tmp 12), false, []⟩,
 ⟨4, (some 66), none, .load none (.tmp 65), false, []⟩,
 ⟨5, (some 67), none, .indexAddr 1 none (.tmp 63) (.tmp 64), false, []⟩,
 ⟨6, none, none, .store 1 (.tmp 67) (.tmp 66), false, []⟩]))))))
 (.region [] [⟨0, (some 68), none, .bin .add (.tmp 45) (.const (.v (.c (.int .i64 1)))), false, []⟩,
 ⟨1, (some 45), none, .mov (.tmp 68), false, []⟩])))))))
 (.seq (.region [] [⟨0, (some 69), none, .load (some 4) (.tmp 9), false, []⟩,
 ⟨1, (some 70), none, .call (.const (.v (.c (.fn 65 [])))) [(.tmp 69)], false, []⟩,
 ⟨2, (some 71), none, .extract 0 (.tmp 70), false, []⟩,
 ⟨3, (some 72), none, .extract 1 (.tmp 70), false, []⟩,
 ⟨4, none, none, .store 4 (.tmp 4) (.tmp 71), false, []⟩,
 ⟨5, (some 5), none, .mov (.tmp 72), false, []⟩])
 .ret)))))))))⟩

/-- facet/turn.cosine -/
def c45 : AFun := ⟨25, [(2, none)],
 (.seq (.region [] [⟨0, (some 2), none, .mov (.const (.v (.c (.flt (.f 0))))), false, []⟩])
 (.seq (.region [] [⟨0, (some 3), none, .mov (.tmp 0), false, []⟩,
 ⟨1, (some 4), none, .bin .rem (.tmp 3) (.const (.v (.c (.int .i64 192)))), false, []⟩,
 ⟨2, (some 0), none, .mov (.tmp 4), false, []⟩])
 (.seq (.seq (.region [] [⟨0, (some 5), none, .mov (.tmp 0), false, []⟩,
 ⟨1, (some 6), none, .bin .gtr (.tmp 5) (.const (.v (.c (.int .i64 96)))), false, []⟩])
 (.cond (.tmp 6) (.region [] [⟨0, (some 7), none, .mov (.tmp 0), false, []⟩,
 ⟨1, (some 8), none, .bin .sub (.const (.v (.c (.int .i64 192)))) (.tmp 7), false, []⟩,
 ⟨2, (some 0), none, .mov (.tmp 8), false, []⟩])
 .skip))
 (.seq (.block 0 (.seq (.region [] [⟨0, (some 10), none, .mov (.tmp 0), false, []⟩,
 ⟨1, (some 11), none, .bin .lss (.tmp 10) (.const (.v (.c (.int .i64 48)))), false, []⟩,
 ⟨2, (some 9), none, .mov (.tmp 11), false, []⟩])
 (.cond (.tmp 9) (.seq (.region [] [⟨0, (some 12), none, .call (.const (.v (.c (.fn 66 [])))) [], false, []⟩,
 ⟨1, (some 13), none, .mov (.tmp 0), false, []⟩,
 ⟨2, (some 14), none, .index none 1 48 (.tmp 12) (.tmp 13), false, []⟩,
 ⟨3, (some 15), none, .ffrom (.tmp 14), false, []⟩,
 ⟨4, (some 2), none, .mov (.tmp 15), false, []⟩])
 .ret)
 (.seq (.region [] [⟨0, (some 17), none, .mov (.tmp 0), false, []⟩,
 ⟨1, (some 18), none, .bin .gtr (.tmp 17) (.const (.v (.c (.int .i64 48)))), false, []⟩,
 ⟨2, (some 16), none, .mov (.tmp 18), false, []⟩])
 (.cond (.tmp 16) (.seq (.region [] [⟨0, (some 19), none, .call (.const (.v (.c (.fn 66 [])))) [], false, []⟩,
 ⟨1, (some 20), none, .mov (.tmp 0), false, []⟩,
 ⟨2, (some 21), none, .bin .sub (.const (.v (.c (.int .i64 96)))) (.tmp 20), false, []⟩,
 ⟨3, (some 22), none, .index none 1 48 (.tmp 19) (.tmp 21), false, []⟩,
 ⟨4, (some 23), none, .ffrom (.tmp 22), false, []⟩,
 ⟨5, (some 24), none, .un .neg (.tmp 23), false, []⟩,
 ⟨6, (some 2), none, .mov (.tmp 24), false, []⟩])
 .ret)
 .skip)))))
 (.seq (.region [] [⟨0, (some 2), none, .mov (.const (.v (.c (.flt (.f 0))))), false, []⟩])
 .ret)))))⟩

/-- facet/pairs.right -/
def c46 : AFun := ⟨16, [(2, none)],
 (.seq (.region [] [⟨0, (some 1), none, .box (.tmp 0), false, []⟩,
 ⟨1, (some 2), none, .mov (.const (.v (.c (.bool false)))), false, []⟩])
 (.seq (.seq (.region [] [⟨0, (some 5), none, .load (some 3) (.tmp 1), false, []⟩,
 ⟨1, (some 6), none, .mov (.const (.v (.c (.int .i64 0)))), false, []⟩])
 (.block 0 (.loop (.seq (.region [] [⟨0, (some 7), none, .bin .lss (.tmp 6) (.const (.v (.c (.int .i64 3)))), false, []⟩])
 (.seq (.cond (.tmp 7) .skip
 (.exit 0))
 (.seq (.block 1 (.seq (.region [] [⟨0, (some 8), none, .index none 1 3 (.tmp 5) (.tmp 6), false, []⟩,
 ⟨1, (some 4), none, .mov (.tmp 8), false, []⟩])
 (.seq (.region [] [⟨0, (some 9), none, .mov (.tmp 4), false, []⟩,
 ⟨1, (some 10), none, .bin .lss (.tmp 9) (.const (.v (.c (.int .i64 (-512))))), false, []⟩,
 ⟨2, (some 11), none, .mov (.tmp 10), false, []⟩,
 ⟨3, (some 12), (some (11, false)), .mov (.tmp 4), false, []⟩,
 ⟨4, (some 13), (some (11, false)), .bin .gtr (.tmp 12) (.const (.v (.c (.int .i64 512)))), false, []⟩,
 ⟨5, (some 14), none, .pick (.tmp 11) (.const (.v (.c (.bool true)))) (.tmp 13), false, []⟩])
 (.cond (.tmp 14) (.seq (.region [] [⟨0, (some 2), none, .mov (.const (.v (.c (.bool false)))), false, []⟩])
 .ret)
 .skip))))
 (.region [] [⟨0, (some 15), none, .bin .add (.tmp 6) (.const (.v (.c (.int .i64 1)))), false, []⟩,
 ⟨1, (some 6), none, .mov (.tmp 15), false, []⟩])))))))
 (.seq (.region [] [⟨0, (some 2), none, .mov (.const (.v (.c (.bool true)))), false, []⟩])
 .ret)))⟩

/-- slices.Clone[[]facet/api.Wave,facet/api.Wave] -/
def c47 : AFun := ⟨8, [(2, none)],
 (.seq (.region [] [⟨0, (some 2), none, .mov (.const (.v (.c .nils))), false, []⟩])
 (.seq (.seq (.region [] [⟨0, (some 3), none, .mov (.tmp 0), false, []⟩,
 ⟨1, (some 4), none, .isNil false (.tmp 3), false, []⟩])
 (.cond (.tmp 4) (.seq (.region [] [⟨0, (some 2), none, .mov (.const (.v (.c .nils))), false, []⟩])
 .ret)
 .skip))
 (.seq (.region [] [⟨0, (some 5), none, .buildSlice [] [] 0, false, []⟩,
 ⟨1, (some 6), none, .mov (.tmp 0), false, []⟩,
 ⟨2, (some 7), none, .bi (.append 4 [(.int .i64 0), (.int .i64 0), (.int .i64 0), (.cpx (.f 0) (.f 0))] 40) [(.tmp 5), (.tmp 6)], false, []⟩,
 ⟨3, (some 2), none, .mov (.tmp 7), false, []⟩])
 .ret)))⟩

/-- slices.SortFunc[[]facet/api.Wave,facet/api.Wave] -/
def c48 : AFun := ⟨14, [],
 (.seq (.region [] [⟨0, (some 5), none, .mov (.tmp 0), false, []⟩,
 ⟨1, (some 6), none, .bi .len [(.tmp 5)], false, []⟩,
 ⟨2, (some 4), none, .mov (.tmp 6), false, []⟩])
 (.region [] [⟨0, (some 7), none, .mov (.tmp 0), false, []⟩,
 ⟨1, (some 8), none, .mov (.tmp 4), false, []⟩,
 ⟨2, (some 9), none, .mov (.tmp 4), false, []⟩,
 ⟨3, (some 10), none, .toInt .u64 (.tmp 9), false, []⟩,
 ⟨4, (some 11), none, .call (.const (.v (.c (.fn 68 [])))) [(.tmp 10)], false, []⟩,
 ⟨5, (some 12), none, .mov (.tmp 1), false, []⟩,
 ⟨6, (some 13), none, .call (.const (.v (.c (.fn 67 [])))) [(.tmp 7), (.const (.v (.c (.int .i64 0)))), (.tmp 8), (.tmp 11), (.tmp 12)], false, []⟩]))⟩

/-- facet/pairs.sorted$1 -/
def c49 : AFun := ⟨10, [(4, none)],
 (.seq (.region [] [⟨0, (some 2), none, .box (.tmp 0), false, []⟩,
 ⟨1, (some 3), none, .box (.tmp 1), false, []⟩,
 ⟨2, (some 4), none, .mov (.const (.v (.c (.int .i64 0)))), false, []⟩])
 (.seq (.region [] [⟨0, (some 5), none, .addr 0 (.tmp 2), false, []⟩,
 ⟨1, (some 6), none, .load (some 3) (.tmp 5), false, []⟩,
 ⟨2, (some 7), none, .addr 0 (.tmp 3), false, []⟩,
 ⟨3, (some 8), none, .load (some 3) (.tmp 7), false, []⟩,
 ⟨4, (some 9), none, .call (.const (.v (.c (.fn 50 [])))) [(.tmp 6), (.tmp 8)], false, []⟩,
 ⟨5, (some 4), none, .mov (.tmp 9), false, []⟩])
 .ret))⟩

/-- facet/hkl.Compare -/
def c50 : AFun := ⟨21, [(4, none)],
 (.seq (.region [] [⟨0, (some 2), none, .box (.tmp 0), false, []⟩,
 ⟨1, (some 3), none, .box (.tmp 1), false, []⟩,
 ⟨2, (some 4), none, .mov (.const (.v (.c (.int .i64 0)))), false, []⟩])
 (.seq (.seq (.region [] [⟨0, (some 7), none, .mov (.const (.v (.c (.int .i64 0)))), false, []⟩])
 (.block 0 (.loop (.seq (.region [] [⟨0, (some 8), none, .bin .lss (.tmp 7) (.const (.v (.c (.int .i64 3)))), false, []⟩])
 (.seq (.cond (.tmp 8) .skip
 (.exit 0))
 (.seq (.block 1 (.seq (.region [] [⟨0, (some 9), none, .mov (.tmp 7), false, []⟩,
 ⟨1, (some 5), none, .mov (.tmp 9), false, []⟩])
 (.seq (.region [] [⟨0, (some 10), none, .mov (.tmp 5), true, []⟩,
 ⟨1, (some 11), none, .indexAddr 1 (some 3) (.tmp 2) (.tmp 10), true, []⟩,
 ⟨2, (some 12), none, .load none (.tmp 11), true, []⟩,
 ⟨3, (some 13), none, .mov (.tmp 5), true, []⟩,
 ⟨4, (some 14), none, .indexAddr 1 (some 3) (.tmp 3) (.tmp 13), true, []⟩,
 ⟨5, (some 15), none, .load none (.tmp 14), true, []⟩,
 ⟨6, (some 16), none, .call (.const (.v (.c (.fn 69 [])))) [(.tmp 12), (.tmp 15)], false, []⟩,
 ⟨7, (some 6), none, .mov (.tmp 16), true, []⟩])
 (.seq (.region [] [⟨0, (some 17), none, .mov (.tmp 6), false, []⟩,
 ⟨1, (some 18), none, .bin .neq (.tmp 17) (.const (.v (.c (.int .i64 0)))), false, []⟩])
 (.cond (.tmp 18) (.seq (.region [] [⟨0, (some 19), none, .mov (.tmp 6), false, []⟩,
 ⟨1, (some 4), none, .mov (.tmp 19), false, []⟩])
 .ret)
 .skip)))))
 (.region [] [⟨0, (some 20), none, .bin .add (.tmp 7) (.const (.v (.c (.int .i64 1)))), false, []⟩,
 ⟨1, (some 7), none, .mov (.tmp 20), false, []⟩])))))))
 (.seq (.region [] [⟨0, (some 4), none, .mov (.const (.v (.c (.int .i64 0)))), false, []⟩])
 .ret)))⟩

/-- facet/facetref17.same -/
def c51 : AFun := ⟨20, [(4, none)],
 (.seq (.region [] [⟨0, (some 4), none, .mov (.const (.v (.c (.bool false)))), false, []⟩])
 (.seq (.region [] [⟨0, (some 5), none, .mov (.tmp 0), false, []⟩,
 ⟨1, (some 6), none, .fbits (.tmp 5), false, []⟩,
 ⟨2, (some 7), none, .mov (.tmp 1), false, []⟩,
 ⟨3, (some 8), none, .fbits (.tmp 7), false, []⟩,
 ⟨4, (some 9), none, .bin .eql (.tmp 6) (.tmp 8), false, []⟩,
 ⟨5, (some 10), none, .mov (.tmp 9), false, []⟩,
 ⟨6, (some 11), (some (10, false)), .mov (.tmp 0), false, []⟩,
 ⟨7, (some 12), (some (10, false)), .mov (.tmp 0), false, []⟩,
 ⟨8, (some 13), (some (10, false)), .bin .neq (.tmp 11) (.tmp 12), false, []⟩,
 ⟨9, (some 14), (some (10, false)), .mov (.tmp 13), false, []⟩,
 ⟨10, (some 15), (some (14, true)), .mov (.tmp 1), false, []⟩,
 ⟨11, (some 16), (some (14, true)), .mov (.tmp 1), false, []⟩,
 ⟨12, (some 17), (some (14, true)), .bin .neq (.tmp 15) (.tmp 16), false, []⟩,
 ⟨13, (some 18), (some (10, false)), .pick (.tmp 14) (.tmp 17) (.const (.v (.c (.bool false)))), false, []⟩,
 ⟨14, (some 19), none, .pick (.tmp 10) (.const (.v (.c (.bool true)))) (.tmp 18), false, []⟩,
 ⟨15, (some 4), none, .mov (.tmp 19), false, []⟩])
 .ret))⟩

/-- facet/cplx.finite -/
def c53 : AFun := ⟨11, [(2, none)],
 (.seq (.region [] [⟨0, (some 2), none, .mov (.const (.v (.c (.bool false)))), false, []⟩])
 (.seq (.region [] [⟨0, (some 3), none, .mov (.tmp 0), false, []⟩,
 ⟨1, (some 4), none, .call (.const (.v (.c (.fn 38 [])))) [(.tmp 3)], false, []⟩,
 ⟨2, (some 5), none, .un .not (.tmp 4), false, []⟩,
 ⟨3, (some 6), none, .mov (.tmp 5), false, []⟩,
 ⟨4, (some 7), (some (6, true)), .mov (.tmp 0), false, []⟩,
 ⟨5, (some 8), (some (6, true)), .call (.const (.v (.c (.fn 37 [])))) [(.tmp 7), (.const (.v (.c (.int .i64 0))))], false, []⟩,
 ⟨6, (some 9), (some (6, true)), .un .not (.tmp 8), false, []⟩,
 ⟨7, (some 10), none, .pick (.tmp 6) (.tmp 9) (.const (.v (.c (.bool false)))), false, []⟩,
 ⟨8, (some 2), none, .mov (.tmp 10), false, []⟩])
 .ret))⟩

/-- facet/facetref16.IsNaN -/
def c54 : AFun := ⟨6, [(2, none)],
 (.seq (.region [] [⟨0, (some 2), none, .mov (.const (.v (.c (.bool false)))), false, []⟩])
 (.seq (.region [] [⟨0, (some 3), none, .mov (.tmp 0), false, []⟩,
 ⟨1, (some 4), none, .call (.const (.v (.c (.fn 70 [])))) [(.tmp 3)], false, []⟩,
 ⟨2, (some 5), none, .bin .gtr (.tmp 4) (.const (.v (.c (.int .u64 9218868437227405312)))), false, []⟩,
 ⟨3, (some 2), none, .mov (.tmp 5), false, []⟩])
 .ret))⟩

/-- facet/density.worse -/
def c55 : AFun := ⟨18, [(4, none)],
 (.seq (.region [] [⟨0, (some 4), none, .mov (.const (.v (.c (.int .i64 0)))), false, []⟩])
 (.seq (.seq (.region [] [⟨0, (some 5), none, .mov (.tmp 0), false, []⟩,
 ⟨1, (some 6), none, .bin .eql (.tmp 5) (.const (.v (.c (.int .i64 0)))), false, []⟩,
 ⟨2, (some 7), none, .mov (.tmp 6), false, []⟩,
 ⟨3, (some 8), (some (7, false)), .mov (.tmp 1), false, []⟩,
 ⟨4, (some 9), (some (7, false)), .bin .neq (.tmp 8) (.const (.v (.c (.int .i64 0)))), false, []⟩,
 ⟨5, (some 10), (some (7, false)), .mov (.tmp 9), false, []⟩,
 ⟨6, (some 11), (some (10, true)), .mov (.tmp 1), false, []⟩,
 ⟨7, (some 12), (some (10, true)), .mov (.tmp 0), false, []⟩,
 ⟨8, (some 13), (some (10, true)), .bin .lss (.tmp 11) (.tmp 12), false, []⟩,
 ⟨9, (some 14), (some (7, false)), .pick (.tmp 10) (.tmp 13) (.const (.v (.c (.bool false)))), false, []⟩,
 ⟨10, (some 15), none, .pick (.tmp 7) (.const (.v (.c (.bool true)))) (.tmp 14), false, []⟩])
 (.cond (.tmp 15) (.seq (.region [] [⟨0, (some 16), none, .mov (.tmp 1), false, []⟩,
 ⟨1, (some 4), none, .mov (.tmp 16), false, []⟩])
 .ret)
 .skip))
 (.seq (.region [] [⟨0, (some 17), none, .mov (.tmp 0), false, []⟩,
 ⟨1, (some 4), none, .mov (.tmp 17), false, []⟩])
 .ret)))⟩

/-- facet/density.cut -/
def c56 : AFun := ⟨23, [(2, none)],
 (.seq (.region [] [⟨0, (some 1), none, .box (.tmp 0), false, []⟩,
 ⟨1, (some 2), none, .mov (.const (.v (.c (.int .i64 0)))), false, []⟩])
 (.seq (.seq (.region [] [⟨0, (some 5), none, .load (some 3) (.tmp 1), false, []⟩,
 ⟨1, (some 6), none, .mov (.const (.v (.c (.int .i64 0)))), false, []⟩])
 (.block 0 (.loop (.seq (.region [] [⟨0, (some 7), none, .bin .lss (.tmp 6) (.const (.v (.c (.int .i64 3)))), false, []⟩])
 (.seq (.cond (.tmp 7) .skip
 (.exit 0))
 (.seq (.block 1 (.seq (.region [] [⟨0, (some 8), none, .index none 1 3 (.tmp 5) (.tmp 6), false, []⟩,
 ⟨1, (some 4), none, .mov (.tmp 8), false, []⟩])
 (.seq (.region [] [⟨0, (some 9), none, .mov (.tmp 4), false, []⟩,
 ⟨1, (some 10), none, .bin .lss (.tmp 9) (.const (.v (.c (.int .i64 1)))), false, []⟩,
 ⟨2, (some 11), none, .mov (.tmp 10), false, []⟩,
 ⟨3, (some 12), (some (11, false)), .mov (.tmp 4), false, []⟩,
 ⟨4, (some 13), (some (11, false)), .bin .gtr (.tmp 12) (.const (.v (.c (.int .i64 192)))), false, []⟩,
 ⟨5, (some 14), none, .pick (.tmp 11) (.const (.v (.c (.bool true)))) (.tmp 13), false, []⟩,
 ⟨6, (some 15), none, .mov (.tmp 14), false, []⟩,
 ⟨7, (some 16), (some (15, false)), .mov (.tmp 4), false, []⟩,
 ⟨8, (some 17), (some (15, false)), .bin .rem (.const (.v (.c (.int .i64 192)))) (.tmp 16), false, []⟩,
 ⟨9, (some 18), (some (15, false)), .bin .neq (.tmp 17) (.const (.v (.c (.int .i64 0)))), false, []⟩,
 ⟨10, (some 19), none, .pick (.tmp 15) (.const (.v (.c (.bool true)))) (.tmp 18), false, []⟩])
 (.cond (.tmp 19) (.seq (.region [] [⟨0, (some 2), none, .mov (.const (.v (.c (.int .i64 1)))), false, []⟩])
 .ret)
 .skip))))
 (.region [] [⟨0, (some 20), none, .bin .add (.tmp 6) (.const (.v (.c (.int .i64 1)))), false, []⟩,
 ⟨1, (some 6), none, .mov (.tmp 20), false, []⟩])))))))
 (.seq (.region [] [⟨0, (some 21), none, .load (some 3) (.tmp 1), false, []⟩,
 ⟨1, (some 22), none, .call (.const (.v (.c (.fn 71 [])))) [(.tmp 21)], false, []⟩,
 ⟨2, (some 2), none, .mov (.tmp 22), false, []⟩])
 .ret)))⟩

/-- facet/density.grid -/
def c57 : AFun := ⟨17, [(4, none)],
 (.seq (.region [] [⟨0, (some 2), none, .box (.tmp 0), false, []⟩,
 ⟨1, (some 4), none, .mov (.const (.v (.c (.int .i64 0)))), false, []⟩])
 (.seq (.region [] [⟨0, (some 6), none, .load (some 3) (.tmp 2), false, []⟩,
 ⟨1, (some 7), none, .call (.const (.v (.c (.fn 71 [])))) [(.tmp 6)], false, []⟩,
 ⟨2, (some 5), none, .mov (.tmp 7), false, []⟩])
 (.seq (.seq (.region [] [⟨0, (some 8), none, .mov (.tmp 5), false, []⟩,
 ⟨1, (some 9), none, .bin .eql (.tmp 8) (.const (.v (.c (.int .i64 0)))), false, []⟩,
 ⟨2, (some 10), none, .mov (.tmp 9), false, []⟩,
 ⟨3, (some 11), (some (10, true)), .mov (.tmp 1), false, []⟩,
 ⟨4, (some 12), (some (10, true)), .load (some 3) (.tmp 2), false, []⟩,
 ⟨5, (some 13), (some (10, true)), .call (.const (.v (.c (.fn 64 [])))) [(.tmp 12)], false, []⟩,
 ⟨6, (some 14), (some (10, true)), .bin .neq (.tmp 11) (.tmp 13), false, []⟩,
 ⟨7, (some 15), none, .pick (.tmp 10) (.tmp 14) (.const (.v (.c (.bool false)))), false, []⟩])
 (.cond (.tmp 15) (.seq (.region [] [⟨0, (some 4), none, .mov (.const (.v (.c (.int .i64 3)))), false, []⟩])
 .ret)
 .skip))
 (.seq (.region [] [⟨0, (some 16), none, .mov (.tmp 5), false, []⟩,
 ⟨1, (some 4), none, .mov (.tmp 16), false, []⟩])
 .ret))))⟩

/-- facet/density.index -/
def c58 : AFun := ⟨16, [(2, none)],
 (.seq (.region [] [⟨0, (some 1), none, .box (.tmp 0), false, []⟩,
 ⟨1, (some 2), none, .mov (.const (.v (.c (.int .i64 0)))), false, []⟩])
 (.seq (.region [] [⟨0, (some 6), none, .build [(.int .i64 0), (.int .i64 0), (.int .i64 0)] [(0, 1, (.const (.v (.c (.int .i64 1))))), (1, 1, (.const (.v (.c (.int .i64 0))))), (2, 1, (.const (.v (.c (.int .i64 0)))))], false, []⟩,
 ⟨1, (some 7), none, .build [(.int .i64 0), (.int .i64 0), (.int .i64 0)] [(0, 1, (.const (.v (.c (.int .i64 0))))), (1, 1, (.const (.v (.c (.int .i64 1))))), (2, 1, (.const (.v (.c (.int .i64 0)))))], false, []⟩,
 ⟨2, (some 8), none, .build [(.int .i64 0), (.int .i64 0), (.int .i64 0)] [(0, 1, (.const (.v (.c (.int .i64 0))))), (1, 1, (.const (.v (.c (.int .i64 0))))), (2, 1, (.const (.v (.c (.int .i64 1)))))], false, []⟩,
 ⟨3, (some 9), none, .build [(.int .i64 0), (.int .i64 0), (.int .i64 0), (.int .i64 0), (.int .i64 0), (.int .i64 0), (.int .i64 0), (.int .i64 0), (.int .i64 0)] [(0, 3, (.tmp 6)), (3, 3, (.tmp 7)), (6, 3, (.tmp 8))], false, []⟩,
 ⟨4, (some 10), none, .build [(.int .i64 0), (.int .i64 0), (.int .i64 0), (.int .i64 0), (.int .i64 0), (.int .i64 0), (.int .i64 0), (.int .i64 0), (.int .i64 0), (.int .i64 0), (.int .i64 0), (.int .i64 0)] [(0, 9, (.tmp 9))], false, []⟩,
 ⟨5, (some 11), none, .load (some 3) (.tmp 1), false, []⟩,
 ⟨6, (some 12), none, .call (.const (.v (.c (.fn 72 [])))) [(.tmp 10), (.tmp 11)], false, []⟩,
 ⟨7, (some 5), none, .mov (.tmp 12), false, []⟩,
 ⟨8, (some 13), none, .extract 0 (.tmp 5), false, []⟩,
 ⟨9, (some 14), none, .extract 1 (.tmp 5), false, []⟩,
 ⟨10, (some 3), none, .mov (.tmp 13), false, []⟩,
 ⟨11, (some 4), none, .mov (.tmp 14), false, []⟩])
 (.seq (.region [] [⟨0, (some 15), none, .mov (.tmp 4), false, []⟩,
 ⟨1, (some 2), none, .mov (.tmp 15), false, []⟩])
 .ret)))⟩

/-- facet/fft.Box -/
def c59 : AFun := ⟨8, [(2, (some (some 4))), (3, none)],
 (.seq (.region [] [⟨0, (some 1), none, .box (.tmp 0), false, []⟩,
 ⟨1, (some 2), none, .alloc [(.int .i64 0), (.int .i64 0), (.int .i64 0), .nils], false, []⟩,
 ⟨2, (some 3), none, .mov (.const (.v (.c (.int .i64 0)))), false, []⟩])
 (.seq (.region [] [⟨0, (some 4), none, .load (some 4) (.tmp 1), false, []⟩,
 ⟨1, (some 5), none, .call (.const (.v (.c (.fn 73 [])))) [(.tmp 4), (.const (.v (.c (.fn 74 []))))], false, []⟩,
 ⟨2, (some 6), none, .extract 0 (.tmp 5), false, []⟩,
 ⟨3, (some 7), none, .extract 1 (.tmp 5), false, []⟩,
 ⟨4, none, none, .store 4 (.tmp 2) (.tmp 6), false, []⟩,
 ⟨5, (some 3), none, .mov (.tmp 7), false, []⟩])
 .ret))⟩

/-- facet/density.number -/
def c60 : AFun := ⟨19, [(4, none)],
 (.seq (.region [] [⟨0, (some 2), none, .box (.tmp 0), false, []⟩,
 ⟨1, (some 3), none, .box (.tmp 1), false, []⟩,
 ⟨2, (some 4), none, .mov (.const (.v (.c (.int .i64 0)))), false, []⟩])
 (.seq (.region [] [⟨0, (some 5), none, .indexAddr 1 (some 3) (.tmp 3) (.const (.v (.c (.int .i64 0)))), false, []⟩,
 ⟨1, (some 6), none, .load none (.tmp 5), false, []⟩,
 ⟨2, (some 7), none, .indexAddr 1 (some 3) (.tmp 2) (.const (.v (.c (.int .i64 1)))), false, []⟩,
 ⟨3, (some 8), none, .load none (.tmp 7), false, []⟩,
 ⟨4, (some 9), none, .bin .mul (.tmp 6) (.tmp 8), false, []⟩,
 ⟨5, (some 10), none, .indexAddr 1 (some 3) (.tmp 3) (.const (.v (.c (.int .i64 1)))), false, []⟩,
 ⟨6, (some 11), none, .load none (.tmp 10), false, []⟩,
 ⟨7, (some 12), none, .bin .add (.tmp 9) (.tmp 11), false, []⟩,
 ⟨8, (some 13), none, .indexAddr 1 (some 3) (.tmp 2) (.const (.v (.c (.int .i64 2)))), false, []⟩,
 ⟨9, (some 14), none, .load none (.tmp 13), false, []⟩,
 ⟨10, (some 15), none, .bin .mul (.tmp 12) (.tmp 14), false, []⟩,
 ⟨11, (some 16), none, .indexAddr 1 (some 3) (.tmp 3) (.const (.v (.c (.int .i64 2)))), false, []⟩,
 ⟨12, (some 17), none, .load none (.tmp 16), false, []⟩,
 ⟨13, (some 18), none, .bin .add (.tmp 15) (.tmp 17), false, []⟩,
 ⟨14, (some 4), none, .mov (.tmp 18), false, []⟩])
 .ret))⟩

/-- facet/density.modulo -/
def c61 : AFun := ⟨28, [(4, (some (some 3)))],
 (.seq (.region [] [⟨0, (some 2), none, .box (.tmp 0), false, []⟩,
 ⟨1, (some 3), none, .box (.tmp 1), false, []⟩,
 ⟨2, (some 4), none, .alloc [(.int .i64 0), (.int .i64 0), (.int .i64 0)], false, []⟩])
 (.seq (.seq (.region [] [⟨0, (some 6), none, .mov (.const (.v (.c (.int .i64 0)))), false, []⟩])
 (.block 0 (.loop (.seq (.region [] [⟨0, (some 7), none, .bin .lss (.tmp 6) (.const (.v (.c (.int .i64 3)))), false, []⟩])
 (.seq (.cond (.tmp 7) .skip
 (.exit 0))
 (.seq (.block 1 (.seq (.region [] [⟨0, (some 8), none, .mov (.tmp 6), false, []⟩,
 ⟨1, (some 5), none, .mov (.tmp 8), false, []⟩])
 (.region [] [⟨0, (some 9), none, .mov (.tmp 5), true, []⟩,
 ⟨1, (some 10), none, .mov (.tmp 5), true, []⟩,
 ⟨2, (some 11), none, .indexAddr 1 (some 3) (.tmp 2) (.tmp 10), true, []⟩,
 ⟨3, (some 12), none, .load none (.tmp 11), true, []⟩,
 ⟨4, (some 13), none, .mov (.tmp 5), true, []⟩,
 ⟨5, (some 14), none, .indexAddr 1 (some 3) (.tmp 3) (.tmp 13), true, []⟩,
 ⟨6, (some 15), none, .load none (.tmp 14), true, []⟩,
 ⟨7, (some 16), none, .bin .rem (.tmp 12) (.tmp 15), true, []⟩,
 ⟨8, (some 17), none, .mov (.tmp 5), true, []⟩,
 ⟨9, (some 18), none, .indexAddr 1 (some 3) (.tmp 3) (.tmp 17), true, []⟩,
 ⟨10, (some 19), none, .load none (.tmp 18), true, []⟩,
 ⟨11, (some 20), none, .bin .add (.tmp 16) (.tmp 19), true, []⟩,
 ⟨12, (some 21), none, .mov (.tmp 5), true, []⟩,
 ⟨13, (some 22), none, .indexAddr 1 (some 3) (.tmp 3) (.tmp 21), true, []⟩,
 ⟨14, (some 23), none, .load none (.tmp 22), true, []⟩,
 ⟨15, (some 24), none, .bin .rem (.tmp 20) (.tmp 23), true, []⟩,
 ⟨16, (some 25), none, .indexAddr 1 (some 3) (.tmp 2) (.tmp 9), true, []⟩,
 ⟨17, none, none, .store 1 (.tmp 25) (.tmp 24), false, []⟩])))
 (.region [] [⟨0, (some 26), none, .bin .add (.tmp 6) (.const (.v (.c (.int .i64 1)))), false, []⟩,
 ⟨1, (some 6), none, .mov (.tmp 26), false, []⟩])))))))
 (.seq (.region [] [⟨0, (some 27), none, .load (some 3) (.tmp 2), false, []⟩,
 ⟨1, none, none, .store 3 (.tmp 4) (.tmp 27), false, []⟩])
 .ret)))⟩

/-- facet/scale.two -/
def c62 : AFun := ⟨38, [(4, none)],
 (.seq (.region [] [⟨0, (some 4), none, .mov (.const (.v (.c (.int .i64 0)))), false, []⟩])
 (.seq (.region [] [⟨0, (some 8), none, .mov (.tmp 0), false, []⟩,
 ⟨1, (some 9), none, .call (.const (.v (.c (.fn 76 [])))) [(.tmp 8)], false, []⟩,
 ⟨2, (some 10), none, .mov (.tmp 1), false, []⟩,
 ⟨3, (some 11), none, .call (.const (.v (.c (.fn 76 [])))) [(.tmp 10)], false, []⟩,
 ⟨4, (some 12), none, .buildSlice [(.int .i64 0), (.int .i64 0)] [(0, 1, (.tmp 9)), (1, 1, (.tmp 11))] 2, false, []⟩,
 ⟨5, (some 13), none, .call (.const (.v (.c (.fn 75 [])))) [(.tmp 12)], false, []⟩,
 ⟨6, (some 5), none, .mov (.tmp 13), false, []⟩])
 (.seq (.region [] [⟨0, (some 14), none, .mov (.tmp 0), false, []⟩,
 ⟨1, (some 15), none, .mov (.tmp 1), false, []⟩,
 ⟨2, (some 16), none, .call (.const (.v (.c (.fn 77 [])))) [(.tmp 14), (.tmp 15), (.const (.v (.c (.fn 78 []))))], false, []⟩,
 ⟨3, (some 17), none, .un .not (.tmp 16), false, []⟩,
 ⟨4, (some 6), none, .mov (.tmp 17), false, []⟩])
 (.seq (.region [] [⟨0, (some 7), none, .mov (.const (.v (.c (.fn 79 [])))), false, []⟩])
 (.seq (.block 0 (.seq (.region [] [⟨0, (some 19), none, .mov (.tmp 5), false, []⟩,
 ⟨1, (some 20), none, .bin .neq (.tmp 19) (.const (.v (.c (.int .i64 0)))), false, []⟩,
 ⟨2, (some 21), none, .mov (.tmp 20), false, []⟩,
 ⟨3, (some 22), (some (21, true)), .mov (.tmp 5), false, []⟩,
 ⟨4, (some 23), (some (21, true)), .bin .lss (.tmp 22) (.const (.v (.c (.int .i64 6)))), false, []⟩,
 ⟨5, (some 24), none, .pick (.tmp 21) (.tmp 23) (.const (.v (.c (.bool false)))), false, []⟩,
 ⟨6, (some 18), none, .mov (.tmp 24), false, []⟩])
 (.cond (.tmp 18) (.seq (.region [] [⟨0, (some 25), none, .mov (.tmp 5), false, []⟩,
 ⟨1, (some 4), none, .mov (.tmp 25), false, []⟩])
 .ret)
 (.seq (.region [] [⟨0, (some 27), none, .mov (.tmp 6), false, []⟩,
 ⟨1, (some 26), none, .mov (.tmp 27), false, []⟩])
 (.cond (.tmp 26) (.seq (.region [] [⟨0, (some 4), none, .mov (.const (.v (.c (.int .i64 6)))), false, []⟩])
 .ret)
 (.seq (.region [] [⟨0, (some 29), none, .mov (.tmp 0), false, []⟩,
 ⟨1, (some 30), none, .mov (.tmp 7), false, []⟩,
 ⟨2, (some 31), none, .call (.const (.v (.c (.fn 80 [])))) [(.tmp 29), (.tmp 30)], false, []⟩,
 ⟨3, (some 32), none, .mov (.tmp 31), false, []⟩,
 ⟨4, (some 33), (some (32, false)), .mov (.tmp 1), false, []⟩,
 ⟨5, (some 34), (some (32, false)), .mov (.tmp 7), false, []⟩,
 ⟨6, (some 35), (some (32, false)), .call (.const (.v (.c (.fn 80 [])))) [(.tmp 33), (.tmp 34)], false, []⟩,
 ⟨7, (some 36), none, .pick (.tmp 32) (.const (.v (.c (.bool true)))) (.tmp 35), false, []⟩,
 ⟨8, (some 28), none, .mov (.tmp 36), false, []⟩])
 (.cond (.tmp 28) (.seq (.region [] [⟨0, (some 4), none, .mov (.const (.v (.c (.int .i64 7)))), false, []⟩])
 .ret)
 .skip)))))))
 (.seq (.region [] [⟨0, (some 37), none, .mov (.tmp 5), false, []⟩,
 ⟨1, (some 4), none, .mov (.tmp 37), false, []⟩])
 .ret))))))⟩

/-- facet/scale.over -/
def c63 : AFun := ⟨16, [(6, none), (7, none)],
 (.seq (.region [] [⟨0, (some 6), none, .mov (.const (.v (.c (.flt (.f 0))))), false, []⟩,
 ⟨1, (some 7), none, .mov (.const (.v (.c (.int .i64 0)))), false, []⟩])
 (.seq (.seq (.region [] [⟨0, (some 8), none, .mov (.tmp 1), false, []⟩,
 ⟨1, (some 9), none, .bin .eql (.tmp 8) (.const (.v (.c (.flt (.f 0))))), false, []⟩])
 (.cond (.tmp 9) (.region [] [⟨0, (some 2), none, .mov (.const (.v (.c (.int .i64 8)))), false, []⟩])
 .skip))
 (.seq (.seq (.region [] [⟨0, (some 10), none, .mov (.tmp 2), false, []⟩,
 ⟨1, (some 11), none, .bin .neq (.tmp 10) (.const (.v (.c (.int .i64 0)))), false, []⟩])
 (.cond (.tmp 11) (.seq (.region [] [⟨0, (some 12), none, .mov (.tmp 2), false, []⟩,
 ⟨1, (some 6), none, .mov (.const (.v (.c (.flt (.f 0))))), false, []⟩,
 ⟨2, (some 7), none, .mov (.tmp 12), false, []⟩])
 .ret)
 .skip))
 (.seq (.region [] [⟨0, (some 13), none, .mov (.tmp 0), false, []⟩,
 ⟨1, (some 14), none, .mov (.tmp 1), false, []⟩,
 ⟨2, (some 15), none, .bin .quo (.tmp 13) (.tmp 14), false, []⟩,
 ⟨3, (some 6), none, .mov (.tmp 15), false, []⟩,
 ⟨4, (some 7), none, .mov (.const (.v (.c (.int .i64 0)))), false, []⟩])
 .ret))))⟩

/-- facet/density.places -/
def c64 : AFun := ⟨11, [(2, none)],
 (.seq (.region [] [⟨0, (some 1), none, .box (.tmp 0), false, []⟩,
 ⟨1, (some 2), none, .mov (.const (.v (.c (.int .i64 0)))), false, []⟩])
 (.seq (.region [] [⟨0, (some 3), none, .indexAddr 1 (some 3) (.tmp 1) (.const (.v (.c (.int .i64 0)))), false, []⟩,
 ⟨1, (some 4), none, .load none (.tmp 3), false, []⟩,
 ⟨2, (some 5), none, .indexAddr 1 (some 3) (.tmp 1) (.const (.v (.c (.int .i64 1)))), false, []⟩,
 ⟨3, (some 6), none, .load none (.tmp 5), false, []⟩,
 ⟨4, (some 7), none, .bin .mul (.tmp 4) (.tmp 6), false, []⟩,
 ⟨5, (some 8), none, .indexAddr 1 (some 3) (.tmp 1) (.const (.v (.c (.int .i64 2)))), false, []⟩,
 ⟨6, (some 9), none, .load none (.tmp 8), false, []⟩,
 ⟨7, (some 10), none, .bin .mul (.tmp 7) (.tmp 9), false, []⟩,
 ⟨8, (some 2), none, .mov (.tmp 10), false, []⟩])
 .ret))⟩

/-- facet/fft.Unbox -/
def c65 : AFun := ⟨8, [(2, (some (some 4))), (3, none)],
 (.seq (.region [] [⟨0, (some 1), none, .box (.tmp 0), false, []⟩,
 ⟨1, (some 2), none, .alloc [(.int .i64 0), (.int .i64 0), (.int .i64 0), .nils], false, []⟩,
 ⟨2, (some 3), none, .mov (.const (.v (.c (.int .i64 0)))), false, []⟩])
 (.seq (.region [] [⟨0, (some 4), none, .load (some 4) (.tmp 1), false, []⟩,
 ⟨1, (some 5), none, .call (.const (.v (.c (.fn 73 [])))) [(.tmp 4), (.const (.v (.c (.fn 81 []))))], false, []⟩,
 ⟨2, (some 6), none, .extract 0 (.tmp 5), false, []⟩,
 ⟨3, (some 7), none, .extract 1 (.tmp 5), false, []⟩,
 ⟨4, none, none, .store 4 (.tmp 2) (.tmp 6), false, []⟩,
 ⟨5, (some 3), none, .mov (.tmp 7), false, []⟩])
 .ret))⟩

/-- facet/turn.cosines -/
def c66 : AFun := ⟨2, [(0, (some (some 48)))],
 (.seq (.region [] [⟨0, (some 0), none, .alloc [(.int .u64 0), (.int .u64 0), (.int .u64 0), (.int .u64 0), (.int .u64 0), (.int .u64 0), (.int .u64 0), (.int .u64 0), (.int .u64 0), (.int .u64 0), (.int .u64 0), (.int .u64 0), (.int .u64 0), (.int .u64 0), (.int .u64 0), (.int .u64 0), (.int .u64 0), (.int .u64 0), (.int .u64 0), (.int .u64 0), (.int .u64 0), (.int .u64 0), (.int .u64 0), (.int .u64 0), (.int .u64 0), (.int .u64 0), (.int .u64 0), (.int .u64 0), (.int .u64 0), (.int .u64 0), (.int .u64 0), (.int .u64 0), (.int .u64 0), (.int .u64 0), (.int .u64 0), (.int .u64 0), (.int .u64 0), (.int .u64 0), (.int .u64 0), (.int .u64 0), (.int .u64 0), (.int .u64 0), (.int .u64 0), (.int .u64 0), (.int .u64 0), (.int .u64 0), (.int .u64 0), (.int .u64 0)], false, []⟩])
 (.seq (.region [] [⟨0, (some 1), none, .build [(.int .u64 0), (.int .u64 0), (.int .u64 0), (.int .u64 0), (.int .u64 0), (.int .u64 0), (.int .u64 0), (.int .u64 0), (.int .u64 0), (.int .u64 0), (.int .u64 0), (.int .u64 0), (.int .u64 0), (.int .u64 0), (.int .u64 0), (.int .u64 0), (.int .u64 0), (.int .u64 0), (.int .u64 0), (.int .u64 0), (.int .u64 0), (.int .u64 0), (.int .u64 0), (.int .u64 0), (.int .u64 0), (.int .u64 0), (.int .u64 0), (.int .u64 0), (.int .u64 0), (.int .u64 0), (.int .u64 0), (.int .u64 0), (.int .u64 0), (.int .u64 0), (.int .u64 0), (.int .u64 0), (.int .u64 0), (.int .u64 0), (.int .u64 0), (.int .u64 0), (.int .u64 0), (.int .u64 0), (.int .u64 0), (.int .u64 0), (.int .u64 0), (.int .u64 0), (.int .u64 0), (.int .u64 0)] [(0, 1, (.const (.v (.c (.int .u64 4607182418800017408))))), (1, 1, (.const (.v (.c (.int .u64 4607177596232733550))))), (2, 1, (.const (.v (.c (.int .u64 4607163133695007814))))), (3, 1, (.const (.v (.c (.int .u64 4607139046673687846))))), (4, 1, (.const (.v (.c (.int .u64 4607105360961759387))))), (5, 1, (.const (.v (.c (.int .u64 4607062112630726507))))), (6, 1, (.const (.v (.c (.int .u64 4607009347991985328))))), (7, 1, (.const (.v (.c (.int .u64 4606947123547232624))))), (8, 1, (.const (.v (.c (.int .u64 4606875505927962389))))), (9, 1, (.const (.v (.c (.int .u64 4606794571824115162))))), (10, 1, (.const (.v (.c (.int .u64 4606704407901956523))))), (11, 1, (.const (.v (.c (.int .u64 4606605110711272677))))), (12, 1, (.const (.v (.c (.int .u64 4606496786581982534))))), (13, 1, (.const (.v (.c (.int .u64 4606379551510276960))))), (14, 1, (.const (.v (.c (.int .u64 4606253531034407156))))), (15, 1, (.const (.v (.c (.int .u64 4606118860100255153))))), (16, 1, (.const (.v (.c (.int .u64 4605975682916830378))))), (17, 1, (.const (.v (.c (.int .u64 4605824152801847042))))), (18, 1, (.const (.v (.c (.int .u64 4605664432017547683))))), (19, 1, (.const (.v (.c (.int .u64 4605496691596948699))))), (20, 1, (.const (.v (.c (.int .u64 4605321111160693906))))), (21, 1, (.const (.v (.c (.int .u64 4605137878724712257))))), (22, 1, (.const (.v (.c (.int .u64 4604947190498885672))))), (23, 1, (.const (.v (.c (.int .u64 4604749250676942587))))), (24, 1, (.const (.v (.c (.int .u64 4604544271217802189))))), (25, 1, (.const (.v (.c (.int .u64 4604332471618603501))))), (26, 1, (.const (.v (.c (.int .u64 4604114078679662348))))), (27, 1, (.const (.v (.c (.int .u64 4603889326261607894))))), (28, 1, (.const (.v (.c (.int .u64 4603658455034958826))))), (29, 1, (.const (.v (.c (.int .u64 4603421712222407333))))), (30, 1, (.const (.v (.c (.int .u64 4603179351334086856))))), (31, 1, (.const (.v (.c (.int .u64 4602931631896107088))))), (32, 1, (.const (.v (.c (.int .u64 4602678819172646912))))), (33, 1, (.const (.v (.c (.int .u64 4602163548591158843))))), (34, 1, (.const (.v (.c (.int .u64 4601639184639747836))))), (35, 1, (.const (.v (.c (.int .u64 4601106288820466945))))), (36, 1, (.const (.v (.c (.int .u64 4600565431771507043))))), (37, 1, (.const (.v (.c (.int .u64 4600017192656143146))))), (38, 1, (.const (.v (.c (.int .u64 4599462158542551880))))), (39, 1, (.const (.v (.c (.int .u64 4598900923775164166))))), (40, 1, (.const (.v (.c (.int .u64 4598334089338226320))))), (41, 1, (.const (.v (.c (.int .u64 4597349304879225727))))), (42, 1, (.const (.v (.c (.int .u64 4596196889902818827))))), (43, 1, (.const (.v (.c (.int .u64 4595036948236777107))))), (44, 1, (.const (.v (.c (.int .u64 4593870721975689937))))), (45, 1, (.const (.v (.c (.int .u64 4591727299969791020))))), (46, 1, (.const (.v (.c (.int .u64 4589377212798040715))))), (47, 1, (.const (.v (.c (.int .u64 4584876137810324206)))))], false, []⟩,
 ⟨1, none, none, .store 48 (.tmp 0) (.tmp 1), false, []⟩])
 .ret))⟩

/-- slices.pdqsortCmpFunc[facet/api.Wave] -/
def c67 : AFun := ⟨148, [],
 (.seq (.region [] [⟨0, (some 10), none, .mov (.const (.v (.c (.bool true)))), false, []⟩])
 (.seq (.region [] [⟨0, (some 11), none, .mov (.const (.v (.c (.bool true)))), false, []⟩])
 (.block 0 (.loop (.block 1 (.seq (.region [] [⟨0, (some 21), none, .mov (.tmp 2), false, []⟩,
 ⟨1, (some 22), none, .mov (.tmp 1), false, []⟩,
 ⟨2, (some 23), none, .bin .sub (.tmp 21) (.tmp 22), false, []⟩,
 ⟨3, (some 12), none, .mov (.tmp 23), false, []⟩])
 (.seq (.seq (.region [] [⟨0, (some 24), none, .mov (.tmp 12), false, []⟩,
 ⟨1, (some 25), none, .bin .leq (.tmp 24) (.const (.v (.c (.int .i64 12)))), false, []⟩])
 (.cond (.tmp 25) (.seq (.region [] [⟨0, (some 26), none, .mov (.tmp 0), false, []⟩,
 ⟨1, (some 27), none, .mov (.tmp 1), false, []⟩,
 ⟨2, (some 28), none, .mov (.tmp 2), false, []⟩,
 ⟨3, (some 29), none, .mov (.tmp 4), false, []⟩,
 ⟨4, (some 30), none, .call (.const (.v (.c (.fn 82 [])))) [(.tmp 26), (.tmp 27), (.tmp 28), (.tmp 29)], false, []⟩])
 .ret)
 .skip))
 (.seq (.seq (.region [] [⟨0, (some 31), none, .mov (.tmp 3), false, []⟩,
 ⟨1, (some 32), none, .bin .eql (.tmp 31) (.const (.v (.c (.int .i64 0)))), false, []⟩])
 (.cond (.tmp 32) (.seq (.region [] [⟨0, (some 33), none, .mov (.tmp 0), false, []⟩,
 ⟨1, (some 34), none, .mov (.tmp 1), false, []⟩,
 ⟨2, (some 35), none, .mov (.tmp 2), false, []⟩,
 ⟨3, (some 36), none, .mov (.tmp 4), false, []⟩,
 ⟨4, (some 37), none, .call (.const (.v (.c (.fn 83 [])))) [(.tmp 33), (.tmp 34), (.tmp 35), (.tmp 36)], false, []⟩])
 .ret)
 .skip))
 (.seq (.seq (.region [] [⟨0, (some 38), none, .mov (.tmp 10), false, []⟩,
 ⟨1, (some 39), none, .un .not (.tmp 38), false, []⟩])
 (.cond (.tmp 39) (.seq (.region [] [⟨0, (some 40), none, .mov (.tmp 0), false, []⟩,
 ⟨1, (some 41), none, .mov (.tmp 1), false, []⟩,
 ⟨2, (some 42), none, .mov (.tmp 2), false, []⟩,
 ⟨3, (some 43), none, .mov (.tmp 4), false, []⟩,
 ⟨4, (some 44), none, .call (.const (.v (.c (.fn 84 [])))) [(.tmp 40), (.tmp 41), (.tmp 42), (.tmp 43)], false, []⟩])
 (.region [] [⟨0, (some 45), none, .mov (.tmp 3), false, []⟩,
 ⟨1, (some 46), none, .bin .sub (.tmp 45) (.const (.v (.c (.int .i64 1)))), false, []⟩,
 ⟨2, (some 3), none, .mov (.tmp 46), false, []⟩]))
 .skip))
 (.seq (.region [] [⟨0, (some 48), none, .mov (.tmp 0), false, []⟩,
 ⟨1, (some 49), none, .mov (.tmp 1), false, []⟩,
 ⟨2, (some 50), none, .mov (.tmp 2), false, []⟩,
 ⟨3, (some 51), none, .mov (.tmp 4), false, []⟩,
 ⟨4, (some 52), none, .call (.const (.v (.c (.fn 85 [])))) [(.tmp 48), (.tmp 49), (.tmp 50), (.tmp 51)], false, []⟩,
 ⟨5, (some 47), none, .mov (.tmp 52), false, []⟩,
 ⟨6, (some 53), none, .extract 0 (.tmp 47), false, []⟩,
 ⟨7, (some 54), none, .extract 1 (.tmp 47), false, []⟩,
 ⟨8, (some 13), none, .mov (.tmp 53), false, []⟩,
 ⟨9, (some 14), none, .mov (.tmp 54), false, []⟩])
 (.seq (.seq (.region [] [⟨0, (some 55), none, .mov (.tmp 14), false, []⟩,
 ⟨1, (some 56), none, .bin .eql (.tmp 55) (.const (.v (.c (.int .i64 2)))), false, []⟩])
 (.cond (.tmp 56) (.seq (.region [] [⟨0, (some 57), none, .mov (.tmp 0), false, []⟩,
 ⟨1, (some 58), none, .mov (.tmp 1), false, []⟩,
 ⟨2, (some 59), none, .mov (.tmp 2), false, []⟩,
 ⟨3, (some 60), none, .mov (.tmp 4), false, []⟩,
 ⟨4, (some 61), none, .call (.const (.v (.c (.fn 86 [])))) [(.tmp 57), (.tmp 58), (.tmp 59), (.tmp 60)], false, []⟩])
 (.seq (.region [] [⟨0, (some 62), none, .mov (.tmp 2), false, []⟩,
 ⟨1, (some 63), none, .bin .sub (.tmp 62) (.const (.v (.c (.int .i64 1)))), false, []⟩,
 ⟨2, (some 64), none, .mov (.tmp 13), false, []⟩,
 ⟨3, (some 65), none, .mov (.tmp 1), false, []⟩,
 ⟨4, (some 66), none, .bin .sub (.tmp 64) (.tmp 65), false, []⟩,
 ⟨5, (some 67), none, .bin .sub (.tmp 63) (.tmp 66), false, []⟩,
 ⟨6, (some 13), none, .mov (.tmp 67), false, []⟩])
 (.region [] [⟨0, (some 14), none, .mov (.const (.v (.c (.int .i64 1)))), false, []⟩])))
 .skip))
 (.seq (.seq (.region [] [⟨0, (some 68), none, .mov (.tmp 10), false, []⟩,
 ⟨1, (some 69), none, .mov (.tmp 68), false, []⟩,
 ⟨2, (some 70), (some (69, true)), .mov (.tmp 11), false, []⟩,
 ⟨3, (some 71), none, .pick (.tmp 69) (.tmp 70) (.const (.v (.c (.bool false)))), false, []⟩,
 ⟨4, (some 72), none, .mov (.tmp 71), false, []⟩,
 ⟨5, (some 73), (some (72, true)), .mov (.tmp 14), false, []⟩,
 ⟨6, (some 74), (some (72, true)), .bin .eql (.tmp 73) (.const (.v (.c (.int .i64 1)))), false, []⟩,
 ⟨7, (some 75), none, .pick (.tmp 72) (.tmp 74) (.const (.v (.c (.bool false)))), false, []⟩])
 (.cond (.tmp 75) (.seq (.region [] [⟨0, (some 76), none, .mov (.tmp 0), false, []⟩,
 ⟨1, (some 77), none, .mov (.tmp 1), false, []⟩,
 ⟨2, (some 78), none, .mov (.tmp 2), false, []⟩,
 ⟨3, (some 79), none, .mov (.tmp 4), false, []⟩,
 ⟨4, (some 80), none, .call (.const (.v (.c (.fn 87 [])))) [(.tmp 76), (.tmp 77), (.tmp 78), (.tmp 79)], false, []⟩])
 (.cond (.tmp 80) .ret
 .skip))
 .skip))
 (.seq (.seq (.region [] [⟨0, (some 81), none, .mov (.tmp 1), true, []⟩,
 ⟨1, (some 82), none, .bin .gtr (.tmp 81) (.const (.v (.c (.int .i64 0)))), true, []⟩,
 ⟨2, (some 83), none, .mov (.tmp 82), true, []⟩,
 ⟨3, (some 84), (some (83, true)), .mov (.tmp 4), true, []⟩,
 ⟨4, (some 85), (some (83, true)), .mov (.tmp 0), true, []⟩,
 ⟨5, (some 86), (some (83, true)), .mov (.tmp 1), true, []⟩,
 ⟨6, (some 87), (some (83, true)), .bin .sub (.tmp 86) (.const (.v (.c (.int .i64 1)))), true, []⟩,
 ⟨7, (some 88), (some (83, true)), .indexAddr 4 none (.tmp 85) (.tmp 87), true, []⟩,
 ⟨8, (some 89), (some (83, true)), .load (some 4) (.tmp 88), true, []⟩,
 ⟨9, (some 90), (some (83, true)), .mov (.tmp 0), true, []⟩,
 ⟨10, (some 91), (some (83, true)), .mov (.tmp 13), true, []⟩,
 ⟨11, (some 92), (some (83, true)), .indexAddr 4 none (.tmp 90) (.tmp 91), true, []⟩,
 ⟨12, (some 93), (some (83, true)), .load (some 4) (.tmp 92), true, []⟩,
 ⟨13, (some 94), (some (83, true)), .call (.tmp 84) [(.tmp 89), (.tmp 93)], false, []⟩,
 ⟨14, (some 95), (some (83, true)), .bin .lss (.tmp 94) (.const (.v (.c (.int .i64 0)))), true, []⟩,
 ⟨15, (some 96), (some (83, true)), .un .not (.tmp 95), true, []⟩,
 ⟨16, (some 97), none, .pick (.tmp 83) (.tmp 96) (.const (.v (.c (.bool false)))), true, []⟩])
 (.cond (.tmp 97) (.seq (.region [] [⟨0, (some 98), none, .mov (.tmp 0), false, []⟩,
 ⟨1, (some 99), none, .mov (.tmp 1), false, []⟩,
 ⟨2, (some 100), none, .mov (.tmp 2), false, []⟩,
 ⟨3, (some 101), none, .mov (.tmp 13), false, []⟩,
 ⟨4, (some 102), none, .mov (.tmp 4), false, []⟩,
 ⟨5, (some 103), none, .call (.const (.v (.c (.fn 88 [])))) [(.tmp 98), (.tmp 99), (.tmp 100), (.tmp 101), (.tmp 102)], false, []⟩,
 ⟨6, (some 15), none, .mov (.tmp 103), false, []⟩])
 (.seq (.region [] [⟨0, (some 104), none, .mov (.tmp 15), false, []⟩,
 ⟨1, (some 1), none, .mov (.tmp 104), false, []⟩])
 (.exit 1)))
 .skip))
 (.seq (.region [] [⟨0, (some 106), none, .mov (.tmp 0), false, []⟩,
 ⟨1, (some 107), none, .mov (.tmp 1), false, []⟩,
 ⟨2, (some 108), none, .mov (.tmp 2), false, []⟩,
 ⟨3, (some 109), none, .mov (.tmp 13), false, []⟩,
 ⟨4, (some 110), none, .mov (.tmp 4), false, []⟩,
 ⟨5, (some 111), none, .call (.const (.v (.c (.fn 89 [])))) [(.tmp 106), (.tmp 107), (.tmp 108), (.tmp 109), (.tmp 110)], false, []⟩,
 ⟨6, (some 105), none, .mov (.tmp 111), false, []⟩,
 ⟨7, (some 112), none, .extract 0 (.tmp 105), false, []⟩,
 ⟨8, (some 113), none, .extract 1 (.tmp 105), false, []⟩,
 ⟨9, (some 16), none, .mov (.tmp 112), false, []⟩,
 ⟨10, (some 17), none, .mov (.tmp 113), false, []⟩])
 (.seq (.region [] [⟨0, (some 114), none, .mov (.tmp 17), false, []⟩,
 ⟨1, (some 11), none, .mov (.tmp 114), false, []⟩])
 (.seq (.region [] [⟨0, (some 115), none, .mov (.tmp 16), false, []⟩,
 ⟨1, (some 116), none, .mov (.tmp 1), false, []⟩,
 ⟨2, (some 117), none, .bin .sub (.tmp 115) (.tmp 116), false, []⟩,
 ⟨3, (some 118), none, .mov (.tmp 2), false, []⟩,
 ⟨4, (some 119), none, .mov (.tmp 16), false, []⟩,
 ⟨5, (some 120), none, .bin .sub (.tmp 118) (.tmp 119), false, []⟩,
 ⟨6, (some 18), none, .mov (.tmp 117), false, []⟩,
 ⟨7, (some 19), none, .mov (.tmp 120), false, []⟩])
 (.seq (.region [] [⟨0, (some 121), none, .mov (.tmp 12), false, []⟩,
 ⟨1, (some 122), none, .bin .quo (.tmp 121) (.const (.v (.c (.int .i64 8)))), false, []⟩,
 ⟨2, (some 20), none, .mov (.tmp 122), false, []⟩])
 (.seq (.region [] [⟨0, (some 123), none, .mov (.tmp 18), false, []⟩,
 ⟨1, (some 124), none, .mov (.tmp 19), false, []⟩,
 ⟨2, (some 125), none, .bin .lss (.tmp 123) (.tmp 124), false, []⟩])
 (.cond (.tmp 125) (.seq (.region [] [⟨0, (some 126), none, .mov (.tmp 18), false, []⟩,
 ⟨1, (some 127), none, .mov (.tmp 20), false, []⟩,
 ⟨2, (some 128), none, .bin .geq (.tmp 126) (.tmp 127), false, []⟩,
 ⟨3, (some 10), none, .mov (.tmp 128), false, []⟩])
 (.seq (.region [] [⟨0, (some 129), none, .mov (.tmp 0), false, []⟩,
 ⟨1, (some 130), none, .mov (.tmp 1), false, []⟩,
 ⟨2, (some 131), none, .mov (.tmp 16), false, []⟩,
 ⟨3, (some 132), none, .mov (.tmp 3), false, []⟩,
 ⟨4, (some 133), none, .mov (.tmp 4), false, []⟩,
 ⟨5, (some 134), none, .call (.const (.v (.c (.fn 67 [])))) [(.tmp 129), (.tmp 130), (.tmp 131), (.tmp 132), (.tmp 133)], false, []⟩])
 (.region [] [⟨0, (some 135), none, .mov (.tmp 16), false, []⟩,
 ⟨1, (some 136), none, .bin .add (.tmp 135) (.const (.v (.c (.int .i64 1)))), false, []⟩,
 ⟨2, (some 1), none, .mov (.tmp 136), false, []⟩])))
 (.seq (.region [] [⟨0, (some 137), none, .mov (.tmp 19), false, []⟩,
 ⟨1, (some 138), none, .mov (.tmp 20), false, []⟩,
 ⟨2, (some 139), none, .bin .geq (.tmp 137) (.tmp 138), false, []⟩,
 ⟨3, (some 10), none, .mov (.tmp 139), false, []⟩])
 (.seq (.region [] [⟨0, (some 140), none, .mov (.tmp 0), false, []⟩,
 ⟨1, (some 141), none, .mov (.tmp 16), false, []⟩,
 ⟨2, (some 142), none, .bin .add (.tmp 141) (.const (.v (.c (.int .i64 1)))), false, []⟩,
 ⟨3, (some 143), none, .mov (.tmp 2), false, []⟩,
 ⟨4, (some 144), none, .mov (.tmp 3), false, []⟩,
 ⟨5, (some 145), none, .mov (.tmp 4), false, []⟩,
 ⟨6, (some 146), none, .call (.const (.v (.c (.fn 67 [])))) [(.tmp 140), (.tmp 142), (.tmp 143), (.tmp 144), (.tmp 145)], false, []⟩])
 (.region [] [⟨0, (some 147), none, .mov (.tmp 16), false, []⟩,
 ⟨1, (some 2), none, .mov (.tmp 147), false, []⟩]))))))))))))))))))))))⟩

/-- math/bits.Len -/
def c68 : AFun := ⟨8, [(2, none)],
 (.seq (.region [] [⟨0, (some 2), none, .mov (.const (.v (.c (.int .i64 0)))), false, []⟩])
 (.seq (.cond (.const (.v (.c (.bool false)))) (.seq (.region [] [⟨0, (some 3), none, .mov (.tmp 0), false, []⟩,
 ⟨1, (some 4), none, .toInt .u32 (.tmp 3), false, []⟩,
 ⟨2, (some 5), none, .call (.const (.v (.c (.fn 90 [])))) [(.tmp 4)], false, []⟩,
 ⟨3, (some 2), none, .mov (.tmp 5), false, []⟩])
 .ret)
 .skip)
 (.seq (.region [] [⟨0, (some 6), none, .mov (.tmp 0), false, []⟩,
 ⟨1, (some 7), none, .call (.const (.v (.c (.fn 91 [])))) [(.tmp 6)], false, []⟩,
 ⟨2, (some 2), none, .mov (.tmp 7), false, []⟩])
 .ret)))⟩

/-- cmp.Compare[int] -/
def c69 : AFun := ⟨20, [(4, none)],
 (.seq (.region [] [⟨0, (some 4), none, .mov (.const (.v (.c (.int .i64 0)))), false, []⟩])
 (.seq (.region [] [⟨0, (some 7), none, .mov (.tmp 0), false, []⟩,
 ⟨1, (some 8), none, .call (.const (.v (.c (.fn 92 [])))) [(.tmp 7)], false, []⟩,
 ⟨2, (some 5), none, .mov (.tmp 8), false, []⟩])
 (.seq (.region [] [⟨0, (some 9), none, .mov (.tmp 1), false, []⟩,
 ⟨1, (some 10), none, .call (.const (.v (.c (.fn 92 [])))) [(.tmp 9)], false, []⟩,
 ⟨2, (some 6), none, .mov (.tmp 10), false, []⟩])
 (.seq (.seq (.region [] [⟨0, (some 11), none, .mov (.tmp 5), false, []⟩])
 (.cond (.tmp 11) (.seq (.seq (.region [] [⟨0, (some 12), none, .mov (.tmp 6), false, []⟩])
 (.cond (.tmp 12) (.seq (.region [] [⟨0, (some 4), none, .mov (.const (.v (.c (.int .i64 0)))), false, []⟩])
 .ret)
 .skip))
 (.seq (.region [] [⟨0, (some 4), none, .mov (.const (.v (.c (.int .i64 (-1))))), false, []⟩])
 .ret))
 .skip))
 (.seq (.seq (.region [] [⟨0, (some 13), none, .mov (.tmp 6), false, []⟩])
 (.cond (.tmp 13) (.seq (.region [] [⟨0, (some 4), none, .mov (.const (.v (.c (.int .i64 1)))), false, []⟩])
 .ret)
 .skip))
 (.seq (.seq (.region [] [⟨0, (some 14), none, .mov (.tmp 0), false, []⟩,
 ⟨1, (some 15), none, .mov (.tmp 1), false, []⟩,
 ⟨2, (some 16), none, .bin .lss (.tmp 14) (.tmp 15), false, []⟩])
 (.cond (.tmp 16) (.seq (.region [] [⟨0, (some 4), none, .mov (.const (.v (.c (.int .i64 (-1))))), false, []⟩])
 .ret)
 .skip))
 (.seq (.seq (.region [] [⟨0, (some 17), none, .mov (.tmp 0), false, []⟩,
 ⟨1, (some 18), none, .mov (.tmp 1), false, []⟩,
 ⟨2, (some 19), none, .bin .gtr (.tmp 17) (.tmp 18), false, []⟩])
 (.cond (.tmp 19) (.seq (.region [] [⟨0, (some 4), none, .mov (.const (.v (.c (.int .i64 1)))), false, []⟩])
 .ret)
 .skip))
 (.seq (.region [] [⟨0, (some 4), none, .mov (.const (.v (.c (.int .i64 0)))), false, []⟩])
 .ret))))))))⟩

/-- facet/facetref16.size -/
def c70 : AFun := ⟨6, [(2, none)],
 (.seq (.region [] [⟨0, (some 2), none, .mov (.const (.v (.c (.int .u64 0)))), false, []⟩])
 (.seq (.region [] [⟨0, (some 3), none, .mov (.tmp 0), false, []⟩,
 ⟨1, (some 4), none, .fbits (.tmp 3), false, []⟩,
 ⟨2, (some 5), none, .bin .rem (.tmp 4) (.const (.v (.c (.int .u64 9223372036854775808)))), false, []⟩,
 ⟨3, (some 2), none, .mov (.tmp 5), false, []⟩])
 .ret))⟩

/-- facet/density.sides -/
def c71 : AFun := ⟨19, [(2, none)],
 (.seq (.region [] [⟨0, (some 1), none, .box (.tmp 0), false, []⟩,
 ⟨1, (some 2), none, .mov (.const (.v (.c (.int .i64 0)))), false, []⟩])
 (.seq (.seq (.region [] [⟨0, (some 5), none, .load (some 3) (.tmp 1), false, []⟩,
 ⟨1, (some 6), none, .mov (.const (.v (.c (.int .i64 0)))), false, []⟩])
 (.block 0 (.loop (.seq (.region [] [⟨0, (some 7), none, .bin .lss (.tmp 6) (.const (.v (.c (.int .i64 3)))), false, []⟩])
 (.seq (.cond (.tmp 7) .skip
 (.exit 0))
 (.seq (.block 1 (.seq (.region [] [⟨0, (some 8), none, .index none 1 3 (.tmp 5) (.tmp 6), false, []⟩,
 ⟨1, (some 4), none, .mov (.tmp 8), false, []⟩])
 (.seq (.region [] [⟨0, (some 9), none, .mov (.tmp 4), false, []⟩,
 ⟨1, (some 10), none, .bin .lss (.tmp 9) (.const (.v (.c (.int .i64 1)))), false, []⟩,
 ⟨2, (some 11), none, .mov (.tmp 10), false, []⟩,
 ⟨3, (some 12), (some (11, false)), .mov (.tmp 4), false, []⟩,
 ⟨4, (some 13), (some (11, false)), .bin .gtr (.tmp 12) (.const (.v (.c (.int .i64 192)))), false, []⟩,
 ⟨5, (some 14), none, .pick (.tmp 11) (.const (.v (.c (.bool true)))) (.tmp 13), false, []⟩])
 (.cond (.tmp 14) (.seq (.region [] [⟨0, (some 2), none, .mov (.const (.v (.c (.int .i64 1)))), false, []⟩])
 .ret)
 .skip))))
 (.region [] [⟨0, (some 15), none, .bin .add (.tmp 6) (.const (.v (.c (.int .i64 1)))), false, []⟩,
 ⟨1, (some 6), none, .mov (.tmp 15), false, []⟩])))))))
 (.seq (.seq (.region [] [⟨0, (some 16), none, .load (some 3) (.tmp 1), false, []⟩,
 ⟨1, (some 17), none, .call (.const (.v (.c (.fn 64 [])))) [(.tmp 16)], false, []⟩,
 ⟨2, (some 18), none, .bin .gtr (.tmp 17) (.const (.v (.c (.int .i64 262144)))), false, []⟩])
 (.cond (.tmp 18) (.seq (.region [] [⟨0, (some 2), none, .mov (.const (.v (.c (.int .i64 2)))), false, []⟩])
 .ret)
 .skip))
 (.seq (.region [] [⟨0, (some 2), none, .mov (.const (.v (.c (.int .i64 0)))), false, []⟩])
 .ret))))⟩

/-- facet/hkl.Phase -/
def c72 : AFun := ⟨42, [(4, none), (5, none)],
 (.seq (.region [] [⟨0, (some 2), none, .box (.tmp 0), false, []⟩,
 ⟨1, (some 3), none, .box (.tmp 1), false, []⟩,
 ⟨2, (some 4), none, .mov (.const (.v (.c (.int .i64 0)))), false, []⟩,
 ⟨3, (some 5), none, .mov (.const (.v (.c (.int .i64 0)))), false, []⟩])
 (.seq (.seq (.region [] [⟨0, (some 10), none, .load (some 12) (.tmp 2), false, []⟩,
 ⟨1, (some 11), none, .load (some 3) (.tmp 3), false, []⟩,
 ⟨2, (some 12), none, .call (.const (.v (.c (.fn 93 [])))) [(.tmp 10), (.tmp 11)], false, []⟩,
 ⟨3, (some 9), none, .mov (.tmp 12), false, []⟩,
 ⟨4, (some 13), none, .extract 0 (.tmp 9), false, []⟩,
 ⟨5, (some 14), none, .extract 1 (.tmp 9), false, []⟩,
 ⟨6, (some 6), none, .alloc [(.int .i64 0), (.int .i64 0), (.int .i64 0)], false, []⟩,
 ⟨7, none, none, .store 3 (.tmp 6) (.tmp 13), false, []⟩,
 ⟨8, (some 7), none, .mov (.tmp 14), false, []⟩])
 (.seq (.region [] [⟨0, (some 15), none, .mov (.tmp 7), false, []⟩,
 ⟨1, (some 16), none, .bin .neq (.tmp 15) (.const (.v (.c (.int .i64 0)))), false, []⟩])
 (.cond (.tmp 16) (.seq (.region [] [⟨0, (some 17), none, .mov (.tmp 7), false, []⟩,
 ⟨1, (some 4), none, .mov (.const (.v (.c (.int .i64 0)))), false, []⟩,
 ⟨2, (some 5), none, .mov (.tmp 17), false, []⟩])
 .ret)
 .skip)))
 (.seq (.region [] [⟨0, (some 18), none, .indexAddr 1 (some 3) (.tmp 3) (.const (.v (.c (.int .i64 0)))), false, []⟩,
 ⟨1, (some 19), none, .load none (.tmp 18), false, []⟩,
 ⟨2, (some 20), none, .addr 9 (.tmp 2), false, []⟩,
 ⟨3, (some 21), none, .indexAddr 1 (some 3) (.tmp 20) (.const (.v (.c (.int .i64 0)))), false, []⟩,
 ⟨4, (some 22), none, .load none (.tmp 21), false, []⟩,
 ⟨5, (some 23), none, .bin .mul (.tmp 19) (.tmp 22), false, []⟩,
 ⟨6, (some 24), none, .indexAddr 1 (some 3) (.tmp 3) (.const (.v (.c (.int .i64 1)))), false, []⟩,
 ⟨7, (some 25), none, .load none (.tmp 24), false, []⟩,
 ⟨8, (some 26), none, .addr 9 (.tmp 2), false, []⟩,
 ⟨9, (some 27), none, .indexAddr 1 (some 3) (.tmp 26) (.const (.v (.c (.int .i64 1)))), false, []⟩,
 ⟨10, (some 28), none, .load none (.tmp 27), false, []⟩,
 ⟨11, (some 29), none, .bin .mul (.tmp 25) (.tmp 28), false, []⟩,
 ⟨12, (some 30), none, .bin .add (.tmp 23) (.tmp 29), false, []⟩,
 ⟨13, (some 31), none, .indexAddr 1 (some 3) (.tmp 3) (.const (.v (.c (.int .i64 2)))), false, []⟩,
 ⟨14, (some 32), none, .load none (.tmp 31), false, []⟩,
 ⟨15, (some 33), none, .addr 9 (.tmp 2), false, []⟩,
 ⟨16, (some 34), none, .indexAddr 1 (some 3) (.tmp 33) (.const (.v (.c (.int .i64 2)))), false, []⟩,
 ⟨17, (some 35), none, .load none (.tmp 34), false, []⟩,
 ⟨18, (some 36), none, .bin .mul (.tmp 32) (.tmp 35), false, []⟩,
 ⟨19, (some 37), none, .bin .add (.tmp 30) (.tmp 36), false, []⟩,
 ⟨20, (some 8), none, .mov (.tmp 37), false, []⟩])
 (.seq (.region [] [⟨0, (some 38), none, .mov (.tmp 8), false, []⟩,
 ⟨1, (some 39), none, .bin .rem (.tmp 38) (.const (.v (.c (.int .i64 24)))), false, []⟩,
 ⟨2, (some 40), none, .bin .add (.tmp 39) (.const (.v (.c (.int .i64 24)))), false, []⟩,
 ⟨3, (some 41), none, .bin .rem (.tmp 40) (.const (.v (.c (.int .i64 24)))), false, []⟩,
 ⟨4, (some 4), none, .mov (.tmp 41), false, []⟩,
 ⟨5, (some 5), none, .mov (.const (.v (.c (.int .i64 0)))), false, []⟩])
 .ret))))⟩

/-- facet/fft.box -/
def c73 : AFun := ⟨46, [(4, (some (some 4))), (5, none)],
 (.seq (.region [] [⟨0, (some 2), none, .box (.tmp 0), false, []⟩,
 ⟨1, (some 4), none, .alloc [(.int .i64 0), (.int .i64 0), (.int .i64 0), .nils], false, []⟩,
 ⟨2, (some 5), none, .mov (.const (.v (.c (.int .i64 0)))), false, []⟩])
 (.seq (.seq (.region [] [⟨0, (some 10), none, .load (some 4) (.tmp 2), false, []⟩,
 ⟨1, (some 11), none, .call (.const (.v (.c (.fn 94 [])))) [(.tmp 10)], false, []⟩,
 ⟨2, (some 6), none, .mov (.tmp 11), false, []⟩])
 (.seq (.region [] [⟨0, (some 12), none, .mov (.tmp 6), false, []⟩,
 ⟨1, (some 13), none, .bin .neq (.tmp 12) (.const (.v (.c (.int .i64 0)))), false, []⟩])
 (.cond (.tmp 13) (.seq (.region [] [⟨0, (some 14), none, .build [(.int .i64 0), (.int .i64 0), (.int .i64 0), .nils] [], false, []⟩,
 ⟨1, (some 15), none, .mov (.tmp 6), false, []⟩,
 ⟨2, none, none, .store 4 (.tmp 4) (.tmp 14), false, []⟩,
 ⟨3, (some 5), none, .mov (.tmp 15), false, []⟩])
 .ret)
 .skip)))
 (.seq (.region [] [⟨0, (some 16), none, .addr 3 (.tmp 2), false, []⟩,
 ⟨1, (some 17), none, .load none (.tmp 16), false, []⟩,
 ⟨2, (some 18), none, .bi .len [(.tmp 17)], false, []⟩,
 ⟨3, (some 19), none, .mkSlice 1 [(.cpx (.f 0) (.f 0))] 16 (.tmp 18) (.tmp 18), false, []⟩,
 ⟨4, (some 7), none, .mov (.tmp 19), false, []⟩])
 (.seq (.region [] [⟨0, (some 20), none, .mov (.tmp 7), false, []⟩,
 ⟨1, (some 21), none, .addr 3 (.tmp 2), false, []⟩,
 ⟨2, (some 22), none, .load none (.tmp 21), false, []⟩,
 ⟨3, (some 23), none, .bi (.copy 1) [(.tmp 20), (.tmp 22)], false, []⟩])
 (.seq (.region [] [⟨0, (some 8), none, .mov (.const (.v (.c (.int .i64 1)))), false, []⟩])
 (.seq (.seq (.region [] [⟨0, (some 9), none, .mov (.const (.v (.c (.int .i64 2)))), false, []⟩])
 (.block 0 (.loop (.seq (.seq (.region [] [⟨0, (some 24), none, .mov (.tmp 9), false, []⟩,
 ⟨1, (some 25), none, .bin .geq (.tmp 24) (.const (.v (.c (.int .i64 0)))), false, []⟩])
 (.cond (.tmp 25) .skip
 (.exit 0)))
 (.seq (.block 1 (.seq (.region [] [⟨0, (some 28), none, .mov (.tmp 7), false, []⟩,
 ⟨1, (some 29), none, .mov (.tmp 9), false, []⟩,
 ⟨2, (some 30), none, .addr 0 (.tmp 2), false, []⟩,
 ⟨3, (some 31), none, .indexAddr 1 (some 3) (.tmp 30) (.tmp 29), false, []⟩,
 ⟨4, (some 32), none, .load none (.tmp 31), false, []⟩,
 ⟨5, (some 33), none, .mov (.tmp 8), false, []⟩,
 ⟨6, (some 34), none, .mov (.tmp 1), false, []⟩,
 ⟨7, (some 35), none, .call (.const (.v (.c (.fn 95 [])))) [(.tmp 28), (.tmp 32), (.tmp 33), (.tmp 34)], false, []⟩])
 (.region [] [⟨0, (some 36), none, .mov (.tmp 8), false, []⟩,
 ⟨1, (some 37), none, .mov (.tmp 9), false, []⟩,
 ⟨2, (some 38), none, .addr 0 (.tmp 2), false, []⟩,
 ⟨3, (some 39), none, .indexAddr 1 (some 3) (.tmp 38) (.tmp 37), false, []⟩,
 ⟨4, (some 40), none, .load none (.tmp 39), false, []⟩,
 ⟨5, (some 41), none, .bin .mul (.tmp 36) (.tmp 40), false, []⟩,
 ⟨6, (some 8), none, .mov (.tmp 41), false, []⟩])))
 (.region [] [⟨0, (some 26), none, .mov (.tmp 9), false, []⟩,
 ⟨1, (some 27), none, .bin .sub (.tmp 26) (.const (.v (.c (.int .i64 1)))), false, []⟩,
 ⟨2, (some 9), none, .mov (.tmp 27), false, []⟩]))))))
 (.seq (.region [] [⟨0, (some 42), none, .addr 0 (.tmp 2), false, []⟩,
 ⟨1, (some 43), none, .load (some 3) (.tmp 42), false, []⟩,
 ⟨2, (some 44), none, .mov (.tmp 7), false, []⟩,
 ⟨3, (some 45), none, .build [(.int .i64 0), (.int .i64 0), (.int .i64 0), .nils] [(0, 3, (.tmp 43)), (3, 1, (.tmp 44))], false, []⟩,
 ⟨4, none, none, .store 4 (.tmp 4) (.tmp 45), false, []⟩,
 ⟨5, (some 5), none, .mov (.const (.v (.c (.int .i64 0)))), false, []⟩])
 .ret)))))))⟩

/-- facet/fft.plain -/
def c74 : AFun := ⟨5, [(2, none)],
 (.seq (.region [] [⟨0, (some 2), none, .mov (.const (.v (.c .nils))), false, []⟩])
 (.seq (.region [] [⟨0, (some 3), none, .mov (.tmp 0), false, []⟩,
 ⟨1, (some 4), none, .call (.const (.v (.c (.fn 96 [])))) [(.tmp 3), (.const (.v (.c (.fn 97 []))))], false, []⟩,
 ⟨2, (some 2), none, .mov (.tmp 4), false, []⟩])
 .ret))⟩

/-- facet/scale.least -/
def c75 : AFun := ⟨26, [(2, none)],
 (.seq (.region [] [⟨0, (some 2), none, .mov (.const (.v (.c (.int .i64 0)))), false, []⟩])
 (.seq (.region [] [⟨0, (some 3), none, .mov (.const (.v (.c (.int .i64 0)))), false, []⟩])
 (.seq (.seq (.region [] [⟨0, (some 6), none, .mov (.tmp 0), false, []⟩,
 ⟨1, (some 7), none, .bi .len [(.tmp 6)], false, []⟩,
 ⟨2, (some 8), none, .mov (.const (.v (.c (.int .i64 0)))), false, []⟩])
 (.block 0 (.loop (.seq (.region [] [⟨0, (some 9), none, .bin .lss (.tmp 8) (.tmp 7), false, []⟩])
 (.seq (.cond (.tmp 9) .skip
 (.exit 0))
 (.seq (.block 1 (.seq (.region [] [⟨0, (some 10), none, .indexAddr 1 none (.tmp 6) (.tmp 8), false, []⟩,
 ⟨1, (some 11), none, .load none (.tmp 10), false, []⟩,
 ⟨2, (some 5), none, .mov (.tmp 11), false, []⟩])
 (.seq (.region [] [⟨0, (some 12), none, .mov (.tmp 3), false, []⟩,
 ⟨1, (some 13), none, .bin .eql (.tmp 12) (.const (.v (.c (.int .i64 0)))), false, []⟩,
 ⟨2, (some 14), none, .mov (.tmp 13), false, []⟩,
 ⟨3, (some 15), (some (14, false)), .mov (.tmp 5), false, []⟩,
 ⟨4, (some 16), (some (14, false)), .bin .neq (.tmp 15) (.const (.v (.c (.int .i64 0)))), false, []⟩,
 ⟨5, (some 17), (some (14, false)), .mov (.tmp 16), false, []⟩,
 ⟨6, (some 18), (some (17, true)), .mov (.tmp 5), false, []⟩,
 ⟨7, (some 19), (some (17, true)), .mov (.tmp 3), false, []⟩,
 ⟨8, (some 20), (some (17, true)), .bin .lss (.tmp 18) (.tmp 19), false, []⟩,
 ⟨9, (some 21), (some (14, false)), .pick (.tmp 17) (.tmp 20) (.const (.v (.c (.bool false)))), false, []⟩,
 ⟨10, (some 22), none, .pick (.tmp 14) (.const (.v (.c (.bool true)))) (.tmp 21), false, []⟩])
 (.cond (.tmp 22) (.region [] [⟨0, (some 23), none, .mov (.tmp 5), false, []⟩,
 ⟨1, (some 3), none, .mov (.tmp 23), false, []⟩])
 .skip))))
 (.region [] [⟨0, (some 24), none, .bin .add (.tmp 8) (.const (.v (.c (.int .i64 1)))), false, []⟩,
 ⟨1, (some 8), none, .mov (.tmp 24), false, []⟩])))))))
 (.seq (.region [] [⟨0, (some 25), none, .mov (.tmp 3), false, []⟩,
 ⟨1, (some 2), none, .mov (.tmp 25), false, []⟩])
 .ret))))⟩

/-- facet/scale.list -/
def c76 : AFun := ⟨11, [(2, none)],
 (.seq (.region [] [⟨0, (some 2), none, .mov (.const (.v (.c (.int .i64 0)))), false, []⟩])
 (.seq (.region [] [⟨0, (some 6), none, .mov (.tmp 0), false, []⟩,
 ⟨1, (some 7), none, .call (.const (.v (.c (.fn 98 [])))) [(.tmp 6)], false, []⟩,
 ⟨2, (some 5), none, .mov (.tmp 7), false, []⟩,
 ⟨3, (some 8), none, .extract 0 (.tmp 5), false, []⟩,
 ⟨4, (some 9), none, .extract 1 (.tmp 5), false, []⟩,
 ⟨5, (some 3), none, .mov (.tmp 8), false, []⟩,
 ⟨6, (some 4), none, .mov (.tmp 9), false, []⟩])
 (.seq (.region [] [⟨0, (some 10), none, .mov (.tmp 4), false, []⟩,
 ⟨1, (some 2), none, .mov (.tmp 10), false, []⟩])
 .ret)))⟩

/-- slices.EqualFunc[[]facet/api.Wave,[]facet/api.Wave,facet/api.Wave,facet/api.Wave] -/
def c77 : AFun := ⟨32, [(6, none)],
 (.seq (.region [] [⟨0, (some 6), none, .mov (.const (.v (.c (.bool false)))), false, []⟩])
 (.seq (.seq (.region [] [⟨0, (some 10), none, .mov (.tmp 0), false, []⟩,
 ⟨1, (some 11), none, .bi .len [(.tmp 10)], false, []⟩,
 ⟨2, (some 12), none, .mov (.tmp 1), false, []⟩,
 ⟨3, (some 13), none, .bi .len [(.tmp 12)], false, []⟩,
 ⟨4, (some 14), none, .bin .neq (.tmp 11) (.tmp 13), false, []⟩])
 (.cond (.tmp 14) (.seq (.region [] [⟨0, (some 6), none, .mov (.const (.v (.c (.bool false)))), false, []⟩])
 .ret)
 .skip))
 (.seq (.seq (.region [] [⟨0, (some 15), none, .mov (.tmp 0), false, []⟩,
 ⟨1, (some 16), none, .bi .len [(.tmp 15)], false, []⟩,
 ⟨2, (some 17), none, .mov (.const (.v (.c (.int .i64 0)))), false, []⟩])
 (.block 0 (.loop (.seq (.region [] [⟨0, (some 18), none, .bin .lss (.tmp 17) (.tmp 16), false, []⟩])
 (.seq (.cond (.tmp 18) .skip
 (.exit 0))
 (.seq (.block 1 (.seq (.region [] [⟨0, (some 19), none, .mov (.tmp 17), false, []⟩,
 ⟨1, (some 20), none, .indexAddr 4 none (.tmp 15) (.tmp 17), false, []⟩,
 ⟨2, (some 21), none, .load (some 4) (.tmp 20), false, []⟩,
 ⟨3, (some 8), none, .alloc [(.int .i64 0), (.int .i64 0), (.int .i64 0), (.cpx (.f 0) (.f 0))], false, []⟩,
 ⟨4, (some 7), none, .mov (.tmp 19), false, []⟩,
 ⟨5, none, none, .store 4 (.tmp 8) (.tmp 21), false, []⟩])
 (.seq (.region [] [⟨0, (some 22), none, .mov (.tmp 1), false, []⟩,
 ⟨1, (some 23), none, .mov (.tmp 7), false, []⟩,
 ⟨2, (some 24), none, .indexAddr 4 none (.tmp 22) (.tmp 23), false, []⟩,
 ⟨3, (some 25), none, .load (some 4) (.tmp 24), false, []⟩,
 ⟨4, (some 9), none, .alloc [(.int .i64 0), (.int .i64 0), (.int .i64 0), (.cpx (.f 0) (.f 0))], false, []⟩,
 ⟨5, none, none, .store 4 (.tmp 9) (.tmp 25), false, []⟩])
 (.seq (.region [] [⟨0, (some 26), none, .mov (.tmp 2), false, []⟩,
 ⟨1, (some 27), none, .load (some 4) (.tmp 8), false, []⟩,
 ⟨2, (some 28), none, .load (some 4) (.tmp 9), false, []⟩,
 ⟨3, (some 29), none, .call (.tmp 26) [(.tmp 27), (.tmp 28)], false, []⟩,
 ⟨4, (some 30), none, .un .not (.tmp 29), false, []⟩])
 (.cond (.tmp 30) (.seq (.region [] [⟨0, (some 6), none, .mov (.const (.v (.c (.bool false)))), false, []⟩])
 .ret)
 .skip)))))
 (.region [] [⟨0, (some 31), none, .bin .add (.tmp 17) (.const (.v (.c (.int .i64 1)))), false, []⟩,
 ⟨1, (some 17), none, .mov (.tmp 31), false, []⟩])))))))
 (.seq (.region [] [⟨0, (some 6), none, .mov (.const (.v (.c (.bool true)))), false, []⟩])
 .ret))))⟩

/-- facet/scale.two$1 -/
def c78 : AFun := ⟨10, [(4, none)],
 (.seq (.region [] [⟨0, (some 2), none, .box (.tmp 0), false, []⟩,
 ⟨1, (some 3), none, .box (.tmp 1), false, []⟩,
 ⟨2, (some 4), none, .mov (.const (.v (.c (.bool false)))), false, []⟩])
 (.seq (.region [] [⟨0, (some 5), none, .addr 0 (.tmp 2), false, []⟩,
 ⟨1, (some 6), none, .load (some 3) (.tmp 5), false, []⟩,
 ⟨2, (some 7), none, .addr 0 (.tmp 3), false, []⟩,
 ⟨3, (some 8), none, .load (some 3) (.tmp 7), false, []⟩,
 ⟨4, (some 9), none, .eqA false 3 (.tmp 6) (.tmp 8), false, []⟩,
 ⟨5, (some 4), none, .mov (.tmp 9), false, []⟩])
 .ret))⟩

/-- facet/scale.two$2 -/
def c79 : AFun := ⟨7, [(2, none)],
 (.seq (.region [] [⟨0, (some 1), none, .box (.tmp 0), false, []⟩,
 ⟨1, (some 2), none, .mov (.const (.v (.c (.bool false)))), false, []⟩])
 (.seq (.region [] [⟨0, (some 3), none, .addr 3 (.tmp 1), false, []⟩,
 ⟨1, (some 4), none, .load none (.tmp 3), false, []⟩,
 ⟨2, (some 5), none, .call (.const (.v (.c (.fn 40 [])))) [(.tmp 4)], false, []⟩,
 ⟨3, (some 6), none, .un .not (.tmp 5), false, []⟩,
 ⟨4, (some 2), none, .mov (.tmp 6), false, []⟩])
 .ret))⟩

/-- slices.ContainsFunc[[]facet/api.Wave,facet/api.Wave] -/
def c80 : AFun := ⟨9, [(4, none)],
 (.seq (.region [] [⟨0, (some 4), none, .mov (.const (.v (.c (.bool false)))), false, []⟩])
 (.seq (.region [] [⟨0, (some 5), none, .mov (.tmp 0), false, []⟩,
 ⟨1, (some 6), none, .mov (.tmp 1), false, []⟩,
 ⟨2, (some 7), none, .call (.const (.v (.c (.fn 99 [])))) [(.tmp 5), (.tmp 6)], false, []⟩,
 ⟨3, (some 8), none, .bin .geq (.tmp 7) (.const (.v (.c (.int .i64 0)))), false, []⟩,
 ⟨4, (some 4), none, .mov (.tmp 8), false, []⟩])
 .ret))⟩

/-- facet/fft.undone -/
def c81 : AFun := ⟨33, [(2, none)],
 (.seq (.region [] [⟨0, (some 2), none, .mov (.const (.v (.c .nils))), false, []⟩])
 (.seq (.region [] [⟨0, (some 7), none, .mov (.tmp 0), false, []⟩,
 ⟨1, (some 8), none, .call (.const (.v (.c (.fn 96 [])))) [(.tmp 7), (.const (.v (.c (.fn 100 []))))], false, []⟩,
 ⟨2, (some 3), none, .mov (.tmp 8), false, []⟩])
 (.seq (.region [] [⟨0, (some 9), none, .mov (.tmp 3), false, []⟩,
 ⟨1, (some 10), none, .bi .len [(.tmp 9)], false, []⟩,
 ⟨2, (some 11), none, .toFlt (.tmp 10), false, []⟩,
 ⟨3, (some 4), none, .mov (.tmp 11), false, []⟩])
 (.seq (.seq (.region [] [⟨0, (some 12), none, .mov (.tmp 3), false, []⟩,
 ⟨1, (some 13), none, .bi .len [(.tmp 12)], false, []⟩,
 ⟨2, (some 14), none, .mov (.const (.v (.c (.int .i64 0)))), false, []⟩])
 (.block 0 (.loop (.seq (.region [] [⟨0, (some 15), none, .bin .lss (.tmp 14) (.tmp 13), false, []⟩])
 (.seq (.cond (.tmp 15) .skip
 (.exit 0))
 (.seq (.block 1 (.seq (.region [] [⟨0, (some 16), none, .mov (.tmp 14), false, []⟩,
 ⟨1, (some 17), none, .indexAddr 1 none (.tmp 12) (.tmp 14), false, []⟩,
 ⟨2, (some 18), none, .load none (.tmp 17), false, []⟩,
 ⟨3, (some 5), none, .mov (.tmp 16), false, []⟩,
 ⟨4, (some 6), none, .mov (.tmp 18), false, []⟩])
 (.region [] [⟨0, (some 19), none, .mov (.tmp 3), false, []⟩,
 ⟨1, (some 20), none, .mov (.tmp 5), false, []⟩,
 ⟨2, (some 21), none, .mov (.tmp 6), false, []⟩,
 ⟨3, (some 22), none, .bi .real [(.tmp 21)], false, []⟩,
 ⟨4, (some 23), none, .mov (.tmp 4), false, []⟩,
 ⟨5, (some 24), none, .bin .quo (.tmp 22) (.tmp 23), false, []⟩,
 ⟨6, (some 25), none, .mov (.tmp 6), false, []⟩,
 ⟨7, (some 26), none, .bi .imag [(.tmp 25)], false, []⟩,
 ⟨8, (some 27), none, .mov (.tmp 4), false, []⟩,
 ⟨9, (some 28), none, .bin .quo (.tmp 26) (.tmp 27), false, []⟩,
 ⟨10, (some 29), none, .bi .complex [(.tmp 24), (.tmp 28)], false, []⟩,
 ⟨11, (some 30), none, .indexAddr 1 none (.tmp 19) (.tmp 20), false, []⟩,
 ⟨12, none, none, .store 1 (.tmp 30) (.tmp 29), false, []⟩])))
 (.region [] [⟨0, (some 31), none, .bin .add (.tmp 14) (.const (.v (.c (.int .i64 1)))), false, []⟩,
 ⟨1, (some 14), none, .mov (.tmp 31), false, []⟩])))))))
 (.seq (.region [] [⟨0, (some 32), none, .mov (.tmp 3), false, []⟩,
 ⟨1, (some 2), none, .mov (.tmp 32), false, []⟩])
 .ret)))))⟩

/-- slices.insertionSortCmpFunc[facet/api.Wave] -/
def c82 : AFun := ⟨53, [],
 (.seq (.region [] [⟨0, (some 10), none, .mov (.tmp 1), false, []⟩,
 ⟨1, (some 11), none, .bin .add (.tmp 10) (.const (.v (.c (.int .i64 1)))), false, []⟩,
 ⟨2, (some 8), none, .mov (.tmp 11), false, []⟩])
 (.block 0 (.loop (.seq (.seq (.region [] [⟨0, (some 12), none, .mov (.tmp 8), false, []⟩,
 ⟨1, (some 13), none, .mov (.tmp 2), false, []⟩,
 ⟨2, (some 14), none, .bin .lss (.tmp 12) (.tmp 13), false, []⟩])
 (.cond (.tmp 14) .skip
 (.exit 0)))
 (.seq (.block 1 (.seq (.region [] [⟨0, (some 17), none, .mov (.tmp 8), false, []⟩,
 ⟨1, (some 9), none, .mov (.tmp 17), false, []⟩])
 (.block 2 (.loop (.seq (.seq (.region [] [⟨0, (some 18), none, .mov (.tmp 9), true, []⟩,
 ⟨1, (some 19), none, .mov (.tmp 1), true, []⟩,
 ⟨2, (some 20), none, .bin .gtr (.tmp 18) (.tmp 19), true, []⟩,
 ⟨3, (some 21), none, .mov (.tmp 20), true, []⟩,
 ⟨4, (some 22), (some (21, true)), .mov (.tmp 3), true, []⟩,
 ⟨5, (some 23), (some (21, true)), .mov (.tmp 0), true, []⟩,
 ⟨6, (some 24), (some (21, true)), .mov (.tmp 9), true, []⟩,
 ⟨7, (some 25), (some (21, true)), .indexAddr 4 none (.tmp 23) (.tmp 24), true, []⟩,
 ⟨8, (some 26), (some (21, true)), .load (some 4) (.tmp 25), true, []⟩,
 ⟨9, (some 27), (some (21, true)), .mov (.tmp 0), true, []⟩,
 ⟨10, (some 28), (some (21, true)), .mov (.tmp 9), true, []⟩,
 ⟨11, (some 29), (some (21, true)), .bin .sub (.tmp 28) (.const (.v (.c (.int .i64 1)))), true, []⟩,
 ⟨12, (some 30), (some (21, true)), .indexAddr 4 none (.tmp 27) (.tmp 29), true, []⟩,
 ⟨13, (some 31), (some (21, true)), .load (some 4) (.tmp 30), true, []⟩,
 ⟨14, (some 32), (some (21, true)), .call (.tmp 22) [(.tmp 26), (.tmp 31)], false, []⟩,
 ⟨15, (some 33), (some (21, true)), .bin .lss (.tmp 32) (.const (.v (.c (.int .i64 0)))), true, []⟩,
 ⟨16, (some 34), none, .pick (.tmp 21) (.tmp 33) (.const (.v (.c (.bool false)))), true, []⟩])
 (.cond (.tmp 34) .skip
 (.exit 2)))
 (.seq (.block 3 (.region [] [⟨0, (some 37), none, .mov (.tmp 0), true, []⟩,
 ⟨1, (some 38), none, .mov (.tmp 9), true, []⟩,
 ⟨2, (some 39), none, .mov (.tmp 0), true, []⟩,
 ⟨3, (some 40), none, .mov (.tmp 9), true, []⟩,
 ⟨4, (some 41), none, .bin .sub (.tmp 40) (.const (.v (.c (.int .i64 1)))), true, []⟩,
 ⟨5, (some 42), none, .mov (.tmp 0), true, []⟩,
 ⟨6, (some 43), none, .mov (.tmp 9), true, []⟩,
 ⟨7, (some 44), none, .bin .sub (.tmp 43) (.const (.v (.c (.int .i64 1)))), true, []⟩,
 ⟨8, (some 45), none, .indexAddr 4 none (.tmp 42) (.tmp 44), true, []⟩,
 ⟨9, (some 46), none, .load (some 4) (.tmp 45), true, []⟩,
 ⟨10, (some 47), none, .mov (.tmp 0), true, []⟩,
 ⟨11, (some 48), none, .mov (.tmp 9), true, []⟩,
 ⟨12, (some 49), none, .indexAddr 4 none (.tmp 47) (.tmp 48), true, []⟩,
 ⟨13, (some 50), none, .load (some 4) (.tmp 49), true, []⟩,
 ⟨14, (some 51), none, .indexAddr 4 none (.tmp 37) (.tmp 38), true, []⟩,
 ⟨15, none, none, .store 4 (.tmp 51) (.tmp 46), false, []⟩,
 ⟨16, (some 52), none, .indexAddr 4 none (.tmp 39) (.tmp 41), true, []⟩,
 ⟨17, none, none, .store 4 (.tmp 52) (.tmp 50), false, []⟩]))
 (.region [] [⟨0, (some 35), none, .mov (.tmp 9), false, []⟩,
 ⟨1, (some 36), none, .bin .sub (.tmp 35) (.const (.v (.c (.int .i64 1)))), false, []⟩,
 ⟨2, (some 9), none, .mov (.tmp 36), false, []⟩])))))))
 (.region [] [⟨0, (some 15), none, .mov (.tmp 8), false, []⟩,
 ⟨1, (some 16), none, .bin .add (.tmp 15) (.const (.v (.c (.int .i64 1)))), false, []⟩,
 ⟨2, (some 8), none, .mov (.tmp 16), false, []⟩]))))))⟩

end Go.Proofs.YtfgkhpoibfbnkaaGreat
