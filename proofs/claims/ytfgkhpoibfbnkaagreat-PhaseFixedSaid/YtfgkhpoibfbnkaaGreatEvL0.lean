/-
  The evaluator's code of functions, printed by a program of ours. No conditions.
-/
import Derived.Test.YtfgkhpoibfbnkaaGreatEvA
namespace Go.Proofs.YtfgkhpoibfbnkaaGreat
open Go.Ev

/-- facet/facetlaw25.PhaseFixed -/
def c3 : AFun := ⟨416, [(0, none)],
 (.seq (.region [] [⟨0, (some 0), none, .mov (.const (.v (.c (.bool false)))), false, []⟩])
 (.seq (.seq (.region [] [⟨0, (some 55), none, .call (.const (.v (.c (.fn 4 [])))) [], false, []⟩,
 ⟨1, (some 56), none, .un .not (.tmp 55), false, []⟩,
 ⟨2, (some 57), none, .mov (.tmp 56), false, []⟩,
 ⟨3, (some 58), none, .pick (.tmp 57) (.const (.v (.c (.bool true)))) (.const (.v (.c (.bool false)))), false, []⟩])
 (.cond (.tmp 58) (.seq (.region [] [⟨0, (some 0), none, .mov (.const (.v (.c (.bool false)))), false, []⟩])
 .ret)
 .skip))
 (.seq (.region [] [⟨0, (some 59), none, .call (.const (.v (.c (.fn 5 [])))) [(.const (.v (.c (.int .i64 1)))), (.const (.v (.c (.cpx (.f 4611686018427387904) (.f 0)))))], false, []⟩,
 ⟨1, (some 60), none, .build [(.int .i64 0), (.int .i64 0), (.int .i64 0)] [(0, 1, (.const (.v (.c (.int .i64 0))))), (1, 1, (.const (.v (.c (.int .i64 1))))), (2, 1, (.const (.v (.c (.int .i64 0)))))], false, []⟩,
 ⟨2, (some 61), none, .build [(.int .i64 0), (.int .i64 0), (.int .i64 0), (.cpx (.f 0) (.f 0))] [(0, 3, (.tmp 60)), (3, 1, (.const (.v (.c (.cpx (.f 0) (.f 4613937818241073152))))))], false, []⟩,
 ⟨3, (some 62), none, .build [(.int .i64 0), (.int .i64 0), (.int .i64 0)] [(0, 1, (.const (.v (.c (.int .i64 (-1)))))), (1, 1, (.const (.v (.c (.int .i64 (-1)))))), (2, 1, (.const (.v (.c (.int .i64 0)))))], false, []⟩,
 ⟨4, (some 63), none, .build [(.int .i64 0), (.int .i64 0), (.int .i64 0), (.cpx (.f 0) (.f 0))] [(0, 3, (.tmp 62)), (3, 1, (.const (.v (.c (.cpx (.f 4607182418800017408) (.f 0))))))], false, []⟩,
 ⟨5, (some 64), none, .buildSlice [(.int .i64 0), (.int .i64 0), (.int .i64 0), (.cpx (.f 0) (.f 0)), (.int .i64 0), (.int .i64 0), (.int .i64 0), (.cpx (.f 0) (.f 0)), (.int .i64 0), (.int .i64 0), (.int .i64 0), (.cpx (.f 0) (.f 0))] [(0, 4, (.tmp 59)), (4, 4, (.tmp 61)), (8, 4, (.tmp 63))] 3, false, []⟩,
 ⟨6, (some 1), none, .mov (.tmp 64), false, []⟩])
 (.seq (.region [] [⟨0, (some 66), none, .mov (.tmp 1), false, []⟩,
 ⟨1, (some 67), none, .build [(.int .i64 0), (.int .i64 0), (.int .i64 0)] [(0, 1, (.const (.v (.c (.int .i64 1))))), (1, 1, (.const (.v (.c (.int .i64 0))))), (2, 1, (.const (.v (.c (.int .i64 0)))))], false, []⟩,
 ⟨2, (some 68), none, .build [(.int .i64 0), (.int .i64 0), (.int .i64 0)] [(0, 1, (.const (.v (.c (.int .i64 0))))), (1, 1, (.const (.v (.c (.int .i64 1))))), (2, 1, (.const (.v (.c (.int .i64 0)))))], false, []⟩,
 ⟨3, (some 69), none, .call (.const (.v (.c (.fn 6 [])))) [(.tmp 66), (.tmp 67), (.tmp 68)], false, []⟩,
 ⟨4, (some 65), none, .mov (.tmp 69), false, []⟩,
 ⟨5, (some 70), none, .extract 0 (.tmp 65), false, []⟩,
 ⟨6, (some 71), none, .extract 1 (.tmp 65), false, []⟩,
 ⟨7, (some 2), none, .mov (.tmp 70), false, []⟩,
 ⟨8, (some 3), none, .mov (.tmp 71), false, []⟩])
 (.seq (.region [] [⟨0, (some 73), none, .mov (.tmp 1), false, []⟩,
 ⟨1, (some 74), none, .build [(.int .i64 0), (.int .i64 0), (.int .i64 0)] [(0, 1, (.const (.v (.c (.int .i64 1))))), (1, 1, (.const (.v (.c (.int .i64 0))))), (2, 1, (.const (.v (.c (.int .i64 0)))))], false, []⟩,
 ⟨2, (some 75), none, .build [(.int .i64 0), (.int .i64 0), (.int .i64 0)] [(0, 1, (.const (.v (.c (.int .i64 1))))), (1, 1, (.const (.v (.c (.int .i64 0))))), (2, 1, (.const (.v (.c (.int .i64 0)))))], false, []⟩,
 ⟨3, (some 76), none, .call (.const (.v (.c (.fn 6 [])))) [(.tmp 73), (.tmp 74), (.tmp 75)], false, []⟩,
 ⟨4, (some 72), none, .mov (.tmp 76), false, []⟩,
 ⟨5, (some 77), none, .extract 0 (.tmp 72), false, []⟩,
 ⟨6, (some 78), none, .extract 1 (.tmp 72), false, []⟩,
 ⟨7, (some 4), none, .mov (.tmp 77), false, []⟩,
 ⟨8, (some 5), none, .mov (.tmp 78), false, []⟩])
 (.seq (.region [] [⟨0, (some 80), none, .mov (.tmp 1), false, []⟩,
 ⟨1, (some 81), none, .build [(.int .i64 0), (.int .i64 0), (.int .i64 0)] [(0, 1, (.const (.v (.c (.int .i64 513))))), (1, 1, (.const (.v (.c (.int .i64 0))))), (2, 1, (.const (.v (.c (.int .i64 0)))))], false, []⟩,
 ⟨2, (some 82), none, .build [(.int .i64 0), (.int .i64 0), (.int .i64 0)] [], false, []⟩,
 ⟨3, (some 83), none, .call (.const (.v (.c (.fn 6 [])))) [(.tmp 80), (.tmp 81), (.tmp 82)], false, []⟩,
 ⟨4, (some 79), none, .mov (.tmp 83), false, []⟩,
 ⟨5, (some 84), none, .extract 0 (.tmp 79), false, []⟩,
 ⟨6, (some 85), none, .extract 1 (.tmp 79), false, []⟩,
 ⟨7, (some 6), none, .mov (.tmp 84), false, []⟩,
 ⟨8, (some 7), none, .mov (.tmp 85), false, []⟩])
 (.seq (.region [] [⟨0, (some 87), none, .mov (.tmp 1), false, []⟩,
 ⟨1, (some 88), none, .call (.const (.v (.c (.fn 5 [])))) [(.const (.v (.c (.int .i64 512)))), (.const (.v (.c (.cpx (.f 4607182418800017408) (.f 0)))))], false, []⟩,
 ⟨2, (some 89), none, .buildSlice [(.int .i64 0), (.int .i64 0), (.int .i64 0), (.cpx (.f 0) (.f 0))] [(0, 4, (.tmp 88))] 1, false, []⟩,
 ⟨3, (some 90), none, .bi (.append 4 [(.int .i64 0), (.int .i64 0), (.int .i64 0), (.cpx (.f 0) (.f 0))] 40) [(.tmp 87), (.tmp 89)], false, []⟩,
 ⟨4, (some 91), none, .build [(.int .i64 0), (.int .i64 0), (.int .i64 0)] [(0, 1, (.const (.v (.c (.int .i64 512))))), (1, 1, (.const (.v (.c (.int .i64 0))))), (2, 1, (.const (.v (.c (.int .i64 0)))))], false, []⟩,
 ⟨5, (some 92), none, .build [(.int .i64 0), (.int .i64 0), (.int .i64 0)] [(0, 1, (.const (.v (.c (.int .i64 1))))), (1, 1, (.const (.v (.c (.int .i64 0))))), (2, 1, (.const (.v (.c (.int .i64 0)))))], false, []⟩,
 ⟨6, (some 93), none, .call (.const (.v (.c (.fn 6 [])))) [(.tmp 90), (.tmp 91), (.tmp 92)], false, []⟩,
 ⟨7, (some 86), none, .mov (.tmp 93), false, []⟩,
 ⟨8, (some 94), none, .extract 0 (.tmp 86), false, []⟩,
 ⟨9, (some 95), none, .extract 1 (.tmp 86), false, []⟩,
 ⟨10, (some 8), none, .mov (.tmp 94), false, []⟩,
 ⟨11, (some 9), none, .mov (.tmp 95), false, []⟩])
 (.seq (.region [] [⟨0, (some 97), none, .mov (.tmp 1), false, []⟩,
 ⟨1, (some 98), none, .call (.const (.v (.c (.fn 5 [])))) [(.const (.v (.c (.int .i64 1)))), (.const (.v (.c (.cpx (.f 4617315517961601024) (.f 0)))))], false, []⟩,
 ⟨2, (some 99), none, .buildSlice [(.int .i64 0), (.int .i64 0), (.int .i64 0), (.cpx (.f 0) (.f 0))] [(0, 4, (.tmp 98))] 1, false, []⟩,
 ⟨3, (some 100), none, .bi (.append 4 [(.int .i64 0), (.int .i64 0), (.int .i64 0), (.cpx (.f 0) (.f 0))] 40) [(.tmp 97), (.tmp 99)], false, []⟩,
 ⟨4, (some 101), none, .build [(.int .i64 0), (.int .i64 0), (.int .i64 0)] [(0, 1, (.const (.v (.c (.int .i64 7))))), (1, 1, (.const (.v (.c (.int .i64 0))))), (2, 1, (.const (.v (.c (.int .i64 0)))))], false, []⟩,
 ⟨5, (some 102), none, .build [(.int .i64 0), (.int .i64 0), (.int .i64 0)] [(0, 1, (.const (.v (.c (.int .i64 1))))), (1, 1, (.const (.v (.c (.int .i64 0))))), (2, 1, (.const (.v (.c (.int .i64 0)))))], false, []⟩,
 ⟨6, (some 103), none, .call (.const (.v (.c (.fn 6 [])))) [(.tmp 100), (.tmp 101), (.tmp 102)], false, []⟩,
 ⟨7, (some 96), none, .mov (.tmp 103), false, []⟩,
 ⟨8, (some 104), none, .extract 0 (.tmp 96), false, []⟩,
 ⟨9, (some 105), none, .extract 1 (.tmp 96), false, []⟩,
 ⟨10, (some 10), none, .mov (.tmp 104), false, []⟩,
 ⟨11, (some 11), none, .mov (.tmp 105), false, []⟩])
 (.seq (.region [] [⟨0, (some 107), none, .mov (.tmp 1), false, []⟩,
 ⟨1, (some 108), none, .call (.const (.v (.c (.fn 5 [])))) [(.const (.v (.c (.int .i64 1)))), (.const (.v (.c (.cpx (.f 4617315517961601024) (.f 0)))))], false, []⟩,
 ⟨2, (some 109), none, .buildSlice [(.int .i64 0), (.int .i64 0), (.int .i64 0), (.cpx (.f 0) (.f 0))] [(0, 4, (.tmp 108))] 1, false, []⟩,
 ⟨3, (some 110), none, .bi (.append 4 [(.int .i64 0), (.int .i64 0), (.int .i64 0), (.cpx (.f 0) (.f 0))] 40) [(.tmp 107), (.tmp 109)], false, []⟩,
 ⟨4, (some 111), none, .build [(.int .i64 0), (.int .i64 0), (.int .i64 0)] [(0, 1, (.const (.v (.c (.int .i64 1))))), (1, 1, (.const (.v (.c (.int .i64 0))))), (2, 1, (.const (.v (.c (.int .i64 0)))))], false, []⟩,
 ⟨5, (some 112), none, .build [(.int .i64 0), (.int .i64 0), (.int .i64 0)] [(0, 1, (.const (.v (.c (.int .i64 0))))), (1, 1, (.const (.v (.c (.int .i64 1))))), (2, 1, (.const (.v (.c (.int .i64 0)))))], false, []⟩,
 ⟨6, (some 113), none, .call (.const (.v (.c (.fn 6 [])))) [(.tmp 110), (.tmp 111), (.tmp 112)], false, []⟩,
 ⟨7, (some 106), none, .mov (.tmp 113), false, []⟩,
 ⟨8, (some 114), none, .extract 0 (.tmp 106), false, []⟩,
 ⟨9, (some 115), none, .extract 1 (.tmp 106), false, []⟩,
 ⟨10, (some 12), none, .mov (.tmp 114), false, []⟩,
 ⟨11, (some 13), none, .mov (.tmp 115), false, []⟩])
 (.seq (.seq (.region [] [⟨0, (some 116), none, .mov (.tmp 3), false, []⟩,
 ⟨1, (some 117), none, .bin .neq (.tmp 116) (.const (.v (.c (.int .i64 0)))), false, []⟩,
 ⟨2, (some 118), none, .mov (.tmp 117), false, []⟩,
 ⟨3, (some 119), (some (118, false)), .mov (.tmp 2), false, []⟩,
 ⟨4, (some 120), (some (118, false)), .bin .neq (.tmp 119) (.const (.v (.c (.cpx (.f 0) (.f 4618441417868443648))))), false, []⟩,
 ⟨5, (some 121), none, .pick (.tmp 118) (.const (.v (.c (.bool true)))) (.tmp 120), false, []⟩,
 ⟨6, (some 122), none, .mov (.tmp 121), false, []⟩,
 ⟨7, (some 123), (some (122, false)), .mov (.tmp 5), false, []⟩,
 ⟨8, (some 124), (some (122, false)), .bin .neq (.tmp 123) (.const (.v (.c (.int .i64 9)))), false, []⟩,
 ⟨9, (some 125), none, .pick (.tmp 122) (.const (.v (.c (.bool true)))) (.tmp 124), false, []⟩,
 ⟨10, (some 126), none, .mov (.tmp 125), false, []⟩,
 ⟨11, (some 127), (some (126, false)), .mov (.tmp 7), false, []⟩,
 ⟨12, (some 128), (some (126, false)), .bin .neq (.tmp 127) (.const (.v (.c (.int .i64 1)))), false, []⟩,
 ⟨13, (some 129), none, .pick (.tmp 126) (.const (.v (.c (.bool true)))) (.tmp 128), false, []⟩,
 ⟨14, (some 130), none, .mov (.tmp 129), false, []⟩,
 ⟨15, (some 131), (some (130, false)), .mov (.tmp 9), false, []⟩,
 ⟨16, (some 132), (some (130, false)), .bin .neq (.tmp 131) (.const (.v (.c (.int .i64 9)))), false, []⟩,
 ⟨17, (some 133), none, .pick (.tmp 130) (.const (.v (.c (.bool true)))) (.tmp 132), false, []⟩,
 ⟨18, (some 134), none, .mov (.tmp 133), false, []⟩,
 ⟨19, (some 135), (some (134, false)), .mov (.tmp 11), false, []⟩,
 ⟨20, (some 136), (some (134, false)), .bin .neq (.tmp 135) (.const (.v (.c (.int .i64 9)))), false, []⟩,
 ⟨21, (some 137), none, .pick (.tmp 134) (.const (.v (.c (.bool true)))) (.tmp 136), false, []⟩,
 ⟨22, (some 138), none, .mov (.tmp 137), false, []⟩,
 ⟨23, (some 139), (some (138, false)), .mov (.tmp 13), false, []⟩,
 ⟨24, (some 140), (some (138, false)), .bin .neq (.tmp 139) (.const (.v (.c (.int .i64 10)))), false, []⟩,
 ⟨25, (some 141), none, .pick (.tmp 138) (.const (.v (.c (.bool true)))) (.tmp 140), false, []⟩])
 (.cond (.tmp 141) (.seq (.region [] [⟨0, (some 0), none, .mov (.const (.v (.c (.bool false)))), false, []⟩])
 .ret)
 .skip))
 (.seq (.region [] [⟨0, (some 142), none, .call (.const (.v (.c (.fn 7 [])))) [(.const (.v (.c (.flt (.f 0))))), (.const (.v (.c (.flt (.f 13830554455654793216)))))], false, []⟩,
 ⟨1, (some 143), none, .call (.const (.v (.c (.fn 8 [])))) [], false, []⟩,
 ⟨2, (some 14), none, .mov (.tmp 142), false, []⟩,
 ⟨3, (some 15), none, .mov (.tmp 143), false, []⟩])
 (.seq (.region [] [⟨0, (some 145), none, .buildSlice [(.cpx (.f 0) (.f 0)), (.cpx (.f 0) (.f 0)), (.cpx (.f 0) (.f 0)), (.cpx (.f 0) (.f 0))] [(0, 1, (.const (.v (.c (.cpx (.f 4607182418800017408) (.f 0)))))), (1, 1, (.const (.v (.c (.cpx (.f 4611686018427387904) (.f 0)))))), (2, 1, (.const (.v (.c (.cpx (.f 13837309855095848960) (.f 0)))))), (3, 1, (.const (.v (.c (.cpx (.f 4602678819172646912) (.f 4619567317775286272))))))] 4, false, []⟩,
 ⟨1, (some 146), none, .call (.const (.v (.c (.fn 10 [])))) [(.tmp 145)], false, []⟩,
 ⟨2, (some 147), none, .call (.const (.v (.c (.fn 9 [])))) [(.tmp 146), (.const (.v (.c (.flt (.f 4607182418800017408)))))], false, []⟩,
 ⟨3, (some 144), none, .mov (.tmp 147), false, []⟩,
 ⟨4, (some 148), none, .extract 0 (.tmp 144), false, []⟩,
 ⟨5, (some 149), none, .extract 1 (.tmp 144), false, []⟩,
 ⟨6, (some 16), none, .alloc [(.int .i64 0), (.int .i64 0), (.int .i64 0), .nils], false, []⟩,
 ⟨7, none, none, .store 4 (.tmp 16) (.tmp 148), false, []⟩,
 ⟨8, (some 3), none, .mov (.tmp 149), false, []⟩])
 (.seq (.region [] [⟨0, (some 151), none, .mov (.tmp 14), false, []⟩,
 ⟨1, (some 152), none, .mov (.tmp 14), false, []⟩,
 ⟨2, (some 153), none, .bi .complex [(.tmp 151), (.tmp 152)], false, []⟩,
 ⟨3, (some 154), none, .mov (.tmp 15), false, []⟩,
 ⟨4, (some 155), none, .bi .complex [(.tmp 154), (.const (.v (.c (.flt (.f 4607182418800017408)))))], false, []⟩,
 ⟨5, (some 156), none, .buildSlice [(.cpx (.f 0) (.f 0)), (.cpx (.f 0) (.f 0)), (.cpx (.f 0) (.f 0))] [(0, 1, (.const (.v (.c (.cpx (.f 0) (.f 0)))))), (1, 1, (.tmp 153)), (2, 1, (.tmp 155))] 3, false, []⟩,
 ⟨6, (some 157), none, .call (.const (.v (.c (.fn 10 [])))) [(.tmp 156)], false, []⟩,
 ⟨7, (some 158), none, .call (.const (.v (.c (.fn 9 [])))) [(.tmp 157), (.const (.v (.c (.flt (.f 4591870180066957722)))))], false, []⟩,
 ⟨8, (some 150), none, .mov (.tmp 158), false, []⟩,
 ⟨9, (some 159), none, .extract 0 (.tmp 150), false, []⟩,
 ⟨10, (some 160), none, .extract 1 (.tmp 150), false, []⟩,
 ⟨11, (some 17), none, .alloc [(.int .i64 0), (.int .i64 0), (.int .i64 0), .nils], false, []⟩,
 ⟨12, none, none, .store 4 (.tmp 17) (.tmp 159), false, []⟩,
 ⟨13, (some 5), none, .mov (.tmp 160), false, []⟩])
 (.seq (.region [] [⟨0, (some 162), none, .buildSlice [(.cpx (.f 0) (.f 0))] [(0, 1, (.const (.v (.c (.cpx (.f 4607182418800017408) (.f 0))))))] 1, false, []⟩,
 ⟨1, (some 163), none, .call (.const (.v (.c (.fn 10 [])))) [(.tmp 162)], false, []⟩,
 ⟨2, (some 164), none, .mov (.tmp 15), false, []⟩,
 ⟨3, (some 165), none, .call (.const (.v (.c (.fn 9 [])))) [(.tmp 163), (.tmp 164)], false, []⟩,
 ⟨4, (some 161), none, .mov (.tmp 165), false, []⟩,
 ⟨5, (some 166), none, .extract 0 (.tmp 161), false, []⟩,
 ⟨6, (some 167), none, .extract 1 (.tmp 161), false, []⟩,
 ⟨7, (some 7), none, .mov (.tmp 167), false, []⟩])
 (.seq (.region [] [⟨0, (some 169), none, .build [(.int .i64 0), (.int .i64 0), (.int .i64 0)] [(0, 1, (.const (.v (.c (.int .i64 2))))), (1, 1, (.const (.v (.c (.int .i64 1))))), (2, 1, (.const (.v (.c (.int .i64 1)))))], false, []⟩,
 ⟨1, (some 170), none, .buildSlice [(.cpx (.f 0) (.f 0))] [(0, 1, (.const (.v (.c (.cpx (.f 4607182418800017408) (.f 0))))))] 1, false, []⟩,
 ⟨2, (some 171), none, .build [(.int .i64 0), (.int .i64 0), (.int .i64 0), .nils] [(0, 3, (.tmp 169)), (3, 1, (.tmp 170))], false, []⟩,
 ⟨3, (some 172), none, .mov (.tmp 15), false, []⟩,
 ⟨4, (some 173), none, .call (.const (.v (.c (.fn 9 [])))) [(.tmp 171), (.tmp 172)], false, []⟩,
 ⟨5, (some 168), none, .mov (.tmp 173), false, []⟩,
 ⟨6, (some 174), none, .extract 0 (.tmp 168), false, []⟩,
 ⟨7, (some 175), none, .extract 1 (.tmp 168), false, []⟩,
 ⟨8, (some 9), none, .mov (.tmp 175), false, []⟩])
 (.seq (.region [] [⟨0, (some 177), none, .buildSlice [(.cpx (.f 0) (.f 0)), (.cpx (.f 0) (.f 0)), (.cpx (.f 0) (.f 0)), (.cpx (.f 0) (.f 0)), (.cpx (.f 0) (.f 0))] [(0, 1, (.const (.v (.c (.cpx (.f 4617315517961601024) (.f 0)))))), (1, 1, (.const (.v (.c (.cpx (.f 4618441417868443648) (.f 0)))))), (2, 1, (.const (.v (.c (.cpx (.f 4619567317775286272) (.f 0)))))), (3, 1, (.const (.v (.c (.cpx (.f 4620693217682128896) (.f 0)))))), (4, 1, (.const (.v (.c (.cpx (.f 4621256167635550208) (.f 0))))))] 5, false, []⟩,
 ⟨1, (some 178), none, .call (.const (.v (.c (.fn 10 [])))) [(.tmp 177)], false, []⟩,
 ⟨2, (some 179), none, .call (.const (.v (.c (.fn 11 [])))) [(.const (.v (.c (.int .i64 1))))], false, []⟩,
 ⟨3, (some 180), none, .call (.const (.v (.c (.fn 9 [])))) [(.tmp 178), (.tmp 179)], false, []⟩,
 ⟨4, (some 176), none, .mov (.tmp 180), false, []⟩,
 ⟨5, (some 181), none, .extract 0 (.tmp 176), false, []⟩,
 ⟨6, (some 182), none, .extract 1 (.tmp 176), false, []⟩,
 ⟨7, (some 18), none, .alloc [(.int .i64 0), (.int .i64 0), (.int .i64 0), .nils], false, []⟩,
 ⟨8, none, none, .store 4 (.tmp 18) (.tmp 181), false, []⟩,
 ⟨9, (some 11), none, .mov (.tmp 182), false, []⟩])
 (.seq (.seq (.region [] [⟨0, (some 183), none, .mov (.tmp 3), true, []⟩,
 ⟨1, (some 184), none, .bin .neq (.tmp 183) (.const (.v (.c (.int .i64 0)))), true, []⟩,
 ⟨2, (some 185), none, .mov (.tmp 184), true, []⟩,
 ⟨3, (some 186), (some (185, false)), .load (some 4) (.tmp 16), true, []⟩,
 ⟨4, (some 187), (some (185, false)), .buildSlice [(.cpx (.f 0) (.f 0)), (.cpx (.f 0) (.f 0)), (.cpx (.f 0) (.f 0)), (.cpx (.f 0) (.f 0))] [(0, 1, (.const (.v (.c (.cpx (.f 4607182418800017408) (.f 0)))))), (1, 1, (.const (.v (.c (.cpx (.f 4611686018427387904) (.f 0)))))), (2, 1, (.const (.v (.c (.cpx (.f 4613937818241073152) (.f 0)))))), (3, 1, (.const (.v (.c (.cpx (.f 13826050856027422720) (.f 0))))))] 4, false, [3]⟩,
 ⟨5, (some 188), (some (185, false)), .call (.const (.v (.c (.fn 10 [])))) [(.tmp 187)], false, [3]⟩,
 ⟨6, (some 189), (some (185, false)), .call (.const (.v (.c (.fn 12 [])))) [(.tmp 186), (.tmp 188)], false, []⟩,
 ⟨7, (some 190), (some (185, false)), .un .not (.tmp 189), true, []⟩,
 ⟨8, (some 191), none, .pick (.tmp 185) (.const (.v (.c (.bool true)))) (.tmp 190), true, []⟩,
 ⟨9, (some 192), none, .mov (.tmp 191), true, []⟩,
 ⟨10, (some 193), (some (192, false)), .mov (.tmp 5), true, []⟩,
 ⟨11, (some 194), (some (192, false)), .bin .neq (.tmp 193) (.const (.v (.c (.int .i64 0)))), true, []⟩,
 ⟨12, (some 195), none, .pick (.tmp 192) (.const (.v (.c (.bool true)))) (.tmp 194), true, []⟩,
 ⟨13, (some 196), none, .mov (.tmp 195), true, []⟩,
 ⟨14, (some 197), (some (196, false)), .load (some 4) (.tmp 17), true, []⟩,
 ⟨15, (some 198), (some (196, false)), .mov (.tmp 14), true, []⟩,
 ⟨16, (some 199), (some (196, false)), .bi .complex [(.tmp 198), (.const (.v (.c (.flt (.f 0)))))], true, []⟩,
 ⟨17, (some 200), (some (196, false)), .mov (.tmp 15), true, []⟩,
 ⟨18, (some 201), (some (196, false)), .bi .complex [(.tmp 200), (.const (.v (.c (.flt (.f 0)))))], true, []⟩,
 ⟨19, (some 202), (some (196, false)), .buildSlice [(.cpx (.f 0) (.f 0)), (.cpx (.f 0) (.f 0)), (.cpx (.f 0) (.f 0))] [(0, 1, (.tmp 199)), (1, 1, (.const (.v (.c (.cpx (.f 0) (.f 0)))))), (2, 1, (.tmp 201))] 3, false, [14]⟩,
 ⟨20, (some 203), (some (196, false)), .call (.const (.v (.c (.fn 10 [])))) [(.tmp 202)], false, [14]⟩,
 ⟨21, (some 204), (some (196, false)), .call (.const (.v (.c (.fn 12 [])))) [(.tmp 197), (.tmp 203)], false, []⟩,
 ⟨22, (some 205), (some (196, false)), .un .not (.tmp 204), true, []⟩,
 ⟨23, (some 206), none, .pick (.tmp 196) (.const (.v (.c (.bool true)))) (.tmp 205), true, []⟩,
 ⟨24, (some 207), none, .mov (.tmp 206), true, []⟩,
 ⟨25, (some 208), (some (207, false)), .mov (.tmp 7), true, []⟩,
 ⟨26, (some 209), (some (207, false)), .bin .neq (.tmp 208) (.const (.v (.c (.int .i64 7)))), true, []⟩,
 ⟨27, (some 210), none, .pick (.tmp 207) (.const (.v (.c (.bool true)))) (.tmp 209), true, []⟩,
 ⟨28, (some 211), none, .mov (.tmp 210), true, []⟩,
 ⟨29, (some 212), (some (211, false)), .mov (.tmp 9), true, []⟩,
 ⟨30, (some 213), (some (211, false)), .bin .neq (.tmp 212) (.const (.v (.c (.int .i64 3)))), true, []⟩,
 ⟨31, (some 214), none, .pick (.tmp 211) (.const (.v (.c (.bool true)))) (.tmp 213), true, []⟩,
 ⟨32, (some 215), none, .mov (.tmp 214), true, []⟩,
 ⟨33, (some 216), (some (215, false)), .mov (.tmp 11), true, []⟩,
 ⟨34, (some 217), (some (215, false)), .bin .neq (.tmp 216) (.const (.v (.c (.int .i64 0)))), true, []⟩,
 ⟨35, (some 218), none, .pick (.tmp 215) (.const (.v (.c (.bool true)))) (.tmp 217), true, []⟩,
 ⟨36, (some 219), none, .mov (.tmp 218), true, []⟩,
 ⟨37, (some 220), (some (219, false)), .load (some 4) (.tmp 18), true, []⟩,
 ⟨38, (some 221), (some (219, false)), .buildSlice [(.cpx (.f 0) (.f 0)), (.cpx (.f 0) (.f 0)), (.cpx (.f 0) (.f 0)), (.cpx (.f 0) (.f 0)), (.cpx (.f 0) (.f 0))] [(0, 1, (.const (.v (.c (.cpx (.f 13840687554816376832) (.f 0)))))), (1, 1, (.const (.v (.c (.cpx (.f 13841813454723219456) (.f 0)))))), (2, 1, (.const (.v (.c (.cpx (.f 13842939354630062080) (.f 0)))))), (3, 1, (.const (.v (.c (.cpx (.f 13844065254536904704) (.f 0)))))), (4, 1, (.const (.v (.c (.cpx (.f 13844628204490326016) (.f 0))))))] 5, false, [37]⟩,
 ⟨39, (some 222), (some (219, false)), .call (.const (.v (.c (.fn 10 [])))) [(.tmp 221)], false, [37]⟩,
 ⟨40, (some 223), (some (219, false)), .call (.const (.v (.c (.fn 12 [])))) [(.tmp 220), (.tmp 222)], false, []⟩,
 ⟨41, (some 224), (some (219, false)), .un .not (.tmp 223), true, []⟩,
 ⟨42, (some 225), none, .pick (.tmp 219) (.const (.v (.c (.bool true)))) (.tmp 224), true, []⟩])
 (.cond (.tmp 225) (.seq (.region [] [⟨0, (some 0), none, .mov (.const (.v (.c (.bool false)))), false, []⟩])
 .ret)
 .skip))
 (.seq (.region [] [⟨0, (some 227), none, .call (.const (.v (.c (.fn 5 [])))) [(.const (.v (.c (.int .i64 1)))), (.const (.v (.c (.cpx (.f 0) (.f 4611686018427387904)))))], false, []⟩,
 ⟨1, (some 228), none, .call (.const (.v (.c (.fn 5 [])))) [(.const (.v (.c (.int .i64 2)))), (.const (.v (.c (.cpx (.f 0) (.f 0)))))], false, []⟩,
 ⟨2, (some 229), none, .buildSlice [(.int .i64 0), (.int .i64 0), (.int .i64 0), (.cpx (.f 0) (.f 0)), (.int .i64 0), (.int .i64 0), (.int .i64 0), (.cpx (.f 0) (.f 0))] [(0, 4, (.tmp 227)), (4, 4, (.tmp 228))] 2, false, []⟩,
 ⟨3, (some 230), none, .call (.const (.v (.c (.fn 5 [])))) [(.const (.v (.c (.int .i64 1)))), (.const (.v (.c (.cpx (.f 13840687554816376832) (.f 0)))))], false, []⟩,
 ⟨4, (some 231), none, .call (.const (.v (.c (.fn 5 [])))) [(.const (.v (.c (.int .i64 2)))), (.const (.v (.c (.cpx (.f 4613937818241073152) (.f 0)))))], false, []⟩,
 ⟨5, (some 232), none, .call (.const (.v (.c (.fn 5 [])))) [(.const (.v (.c (.int .i64 3)))), (.const (.v (.c (.cpx (.f 4613937818241073152) (.f 4616189618054758400)))))], false, []⟩,
 ⟨6, (some 233), none, .buildSlice [(.int .i64 0), (.int .i64 0), (.int .i64 0), (.cpx (.f 0) (.f 0)), (.int .i64 0), (.int .i64 0), (.int .i64 0), (.cpx (.f 0) (.f 0)), (.int .i64 0), (.int .i64 0), (.int .i64 0), (.cpx (.f 0) (.f 0))] [(0, 4, (.tmp 230)), (4, 4, (.tmp 231)), (8, 4, (.tmp 232))] 3, false, []⟩,
 ⟨7, (some 234), none, .call (.const (.v (.c (.fn 13 [])))) [(.tmp 229), (.tmp 233)], false, []⟩,
 ⟨8, (some 226), none, .mov (.tmp 234), false, []⟩,
 ⟨9, (some 235), none, .extract 0 (.tmp 226), false, []⟩,
 ⟨10, (some 236), none, .extract 1 (.tmp 226), false, []⟩,
 ⟨11, (some 19), none, .mov (.tmp 235), false, []⟩,
 ⟨12, (some 3), none, .mov (.tmp 236), false, []⟩])
 (.seq (.seq (.region [] [⟨0, (some 237), none, .mov (.tmp 3), false, []⟩,
 ⟨1, (some 238), none, .bin .neq (.tmp 237) (.const (.v (.c (.int .i64 0)))), false, []⟩,
 ⟨2, (some 239), none, .mov (.tmp 238), false, []⟩,
 ⟨3, (some 240), (some (239, false)), .mov (.tmp 19), false, []⟩,
 ⟨4, (some 241), (some (239, false)), .call (.const (.v (.c (.fn 5 [])))) [(.const (.v (.c (.int .i64 1)))), (.const (.v (.c (.cpx (.f 0) (.f 4617315517961601024)))))], false, []⟩,
 ⟨5, (some 242), (some (239, false)), .call (.const (.v (.c (.fn 5 [])))) [(.const (.v (.c (.int .i64 2)))), (.const (.v (.c (.cpx (.f 4613937818241073152) (.f 0)))))], false, []⟩,
 ⟨6, (some 243), (some (239, false)), .call (.const (.v (.c (.fn 5 [])))) [(.const (.v (.c (.int .i64 3)))), (.const (.v (.c (.cpx (.f 4617315517961601024) (.f 0)))))], false, []⟩,
 ⟨7, (some 244), (some (239, false)), .buildSlice [(.int .i64 0), (.int .i64 0), (.int .i64 0), (.cpx (.f 0) (.f 0)), (.int .i64 0), (.int .i64 0), (.int .i64 0), (.cpx (.f 0) (.f 0)), (.int .i64 0), (.int .i64 0), (.int .i64 0), (.cpx (.f 0) (.f 0))] [(0, 4, (.tmp 241)), (4, 4, (.tmp 242)), (8, 4, (.tmp 243))] 3, false, []⟩,
 ⟨8, (some 245), (some (239, false)), .call (.const (.v (.c (.fn 14 [])))) [(.tmp 240), (.tmp 244)], false, []⟩,
 ⟨9, (some 246), (some (239, false)), .un .not (.tmp 245), false, []⟩,
 ⟨10, (some 247), none, .pick (.tmp 239) (.const (.v (.c (.bool true)))) (.tmp 246), false, []⟩])
 (.cond (.tmp 247) (.seq (.region [] [⟨0, (some 0), none, .mov (.const (.v (.c (.bool false)))), false, []⟩])
 .ret)
 .skip))
 (.seq (.region [] [⟨0, (some 248), none, .buildSlice [(.cpx (.f 0) (.f 0)), (.cpx (.f 0) (.f 0)), (.cpx (.f 0) (.f 0)), (.cpx (.f 0) (.f 0))] [(0, 1, (.const (.v (.c (.cpx (.f 4607182418800017408) (.f 0)))))), (1, 1, (.const (.v (.c (.cpx (.f 4607182418800017408) (.f 0)))))), (2, 1, (.const (.v (.c (.cpx (.f 4607182418800017408) (.f 0)))))), (3, 1, (.const (.v (.c (.cpx (.f 4607182418800017408) (.f 0))))))] 4, false, []⟩,
 ⟨1, (some 249), none, .call (.const (.v (.c (.fn 10 [])))) [(.tmp 248)], false, []⟩,
 ⟨2, (some 20), none, .alloc [(.int .i64 0), (.int .i64 0), (.int .i64 0), .nils], false, []⟩,
 ⟨3, none, none, .store 4 (.tmp 20) (.tmp 249), false, []⟩])
 (.seq (.region [21] [⟨2, (some 253), none, .load (some 4) (.tmp 20), true, []⟩,
 ⟨0, (some 251), none, .call (.const (.v (.c (.fn 5 [])))) [(.const (.v (.c (.int .i64 0)))), (.const (.v (.c (.cpx (.f 4616189618054758400) (.f 0)))))], false, [2]⟩,
 ⟨1, (some 252), none, .buildSlice [(.int .i64 0), (.int .i64 0), (.int .i64 0), (.cpx (.f 0) (.f 0))] [(0, 4, (.tmp 251))] 1, false, [2]⟩,
 ⟨3, (some 254), none, .call (.const (.v (.c (.fn 15 [])))) [(.tmp 252), (.tmp 253), (.const (.v (.c (.flt (.f 0))))), (.const (.v (.c (.int .i64 1))))], false, []⟩,
 ⟨4, (some 250), none, .mov (.tmp 254), true, []⟩,
 ⟨5, (some 255), none, .extract 0 (.tmp 250), true, []⟩,
 ⟨6, (some 256), none, .extract 1 (.tmp 250), true, []⟩,
 ⟨7, (some 257), none, .extract 2 (.tmp 250), true, []⟩,
 ⟨8, (some 21), none, .alloc [(.int .i64 0), (.int .i64 0), (.int .i64 0), .nils], false, []⟩,
 ⟨9, none, none, .store 4 (.tmp 21) (.tmp 255), false, []⟩,
 ⟨10, (some 22), none, .mov (.tmp 256), true, []⟩,
 ⟨11, (some 3), none, .mov (.tmp 257), true, []⟩])
 (.seq (.seq (.region [] [⟨0, (some 258), none, .mov (.tmp 3), false, []⟩,
 ⟨1, (some 259), none, .bin .neq (.tmp 258) (.const (.v (.c (.int .i64 0)))), false, []⟩,
 ⟨2, (some 260), none, .mov (.tmp 259), false, []⟩,
 ⟨3, (some 261), (some (260, false)), .mov (.tmp 22), false, []⟩,
 ⟨4, (some 262), (some (260, false)), .bi .len [(.tmp 261)], false, []⟩,
 ⟨5, (some 263), (some (260, false)), .bin .neq (.tmp 262) (.const (.v (.c (.int .i64 1)))), false, []⟩,
 ⟨6, (some 264), none, .pick (.tmp 260) (.const (.v (.c (.bool true)))) (.tmp 263), false, []⟩,
 ⟨7, (some 265), none, .mov (.tmp 264), false, []⟩,
 ⟨8, (some 266), (some (265, false)), .mov (.tmp 22), false, []⟩,
 ⟨9, (some 267), (some (265, false)), .indexAddr 1 none (.tmp 266) (.const (.v (.c (.int .i64 0)))), false, []⟩,
 ⟨10, (some 268), (some (265, false)), .load none (.tmp 267), false, []⟩,
 ⟨11, (some 269), (some (265, false)), .bin .neq (.tmp 268) (.const (.v (.c (.flt (.f 0))))), false, []⟩,
 ⟨12, (some 270), none, .pick (.tmp 265) (.const (.v (.c (.bool true)))) (.tmp 269), false, []⟩,
 ⟨13, (some 271), none, .mov (.tmp 270), false, []⟩,
 ⟨14, (some 272), (some (271, false)), .addr 3 (.tmp 21), false, []⟩,
 ⟨15, (some 273), (some (271, false)), .load none (.tmp 272), false, []⟩,
 ⟨16, (some 274), (some (271, false)), .bi .len [(.tmp 273)], false, []⟩,
 ⟨17, (some 275), (some (271, false)), .bin .neq (.tmp 274) (.const (.v (.c (.int .i64 4)))), false, []⟩,
 ⟨18, (some 276), none, .pick (.tmp 271) (.const (.v (.c (.bool true)))) (.tmp 275), false, []⟩])
 (.cond (.tmp 276) (.seq (.region [] [⟨0, (some 0), none, .mov (.const (.v (.c (.bool false)))), false, []⟩])
 .ret)
 .skip))
 (.seq (.seq (.region [] [⟨0, (some 277), none, .addr 3 (.tmp 21), false, []⟩,
 ⟨1, (some 278), none, .load none (.tmp 277), false, []⟩,
 ⟨2, (some 279), none, .bi .len [(.tmp 278)], false, []⟩,
 ⟨3, (some 280), none, .mov (.const (.v (.c (.int .i64 0)))), false, []⟩])
 (.block 0 (.loop (.seq (.region [] [⟨0, (some 281), none, .bin .lss (.tmp 280) (.tmp 279), false, []⟩])
 (.seq (.cond (.tmp 281) .skip
 (.exit 0))
 (.seq (.block 1 (.seq (.region [] [⟨0, (some 282), none, .indexAddr 1 none (.tmp 278) (.tmp 280), false, []⟩,
 ⟨1, (some 283), none, .load none (.tmp 282), false, []⟩,
 ⟨2, (some 24), none, .mov (.tmp 283), false, []⟩])
 (.seq (.region [] [⟨0, (some 284), none, .mov (.tmp 24), false, []⟩,
 ⟨1, (some 285), none, .bin .neq (.tmp 284) (.const (.v (.c (.cpx (.f 4607182418800017408) (.f 0))))), false, []⟩])
 (.cond (.tmp 285) (.seq (.region [] [⟨0, (some 0), none, .mov (.const (.v (.c (.bool false)))), false, []⟩])
 .ret)
 .skip))))
 (.region [] [⟨0, (some 286), none, .bin .add (.tmp 280) (.const (.v (.c (.int .i64 1)))), false, []⟩,
 ⟨1, (some 280), none, .mov (.tmp 286), false, []⟩])))))))
 (.seq (.region [25] [⟨2, (some 290), none, .load (some 4) (.tmp 20), true, []⟩,
 ⟨0, (some 288), none, .call (.const (.v (.c (.fn 5 [])))) [(.const (.v (.c (.int .i64 0)))), (.const (.v (.c (.cpx (.f 4616189618054758400) (.f 0)))))], false, [2]⟩,
 ⟨1, (some 289), none, .buildSlice [(.int .i64 0), (.int .i64 0), (.int .i64 0), (.cpx (.f 0) (.f 0))] [(0, 4, (.tmp 288))] 1, false, [2]⟩,
 ⟨3, (some 291), none, .call (.const (.v (.c (.fn 15 [])))) [(.tmp 289), (.tmp 290), (.const (.v (.c (.flt (.f 0))))), (.const (.v (.c (.int .i64 65))))], false, []⟩,
 ⟨4, (some 287), none, .mov (.tmp 291), true, []⟩,
 ⟨5, (some 292), none, .extract 0 (.tmp 287), true, []⟩,
 ⟨6, (some 293), none, .extract 1 (.tmp 287), true, []⟩,
 ⟨7, (some 294), none, .extract 2 (.tmp 287), true, []⟩,
 ⟨8, (some 25), none, .alloc [(.int .i64 0), (.int .i64 0), (.int .i64 0), .nils], false, []⟩,
 ⟨9, none, none, .store 4 (.tmp 25) (.tmp 292), false, []⟩,
 ⟨10, (some 26), none, .mov (.tmp 293), true, []⟩,
 ⟨11, (some 27), none, .mov (.tmp 294), true, []⟩])
 (.seq (.region [28] [⟨3, (some 299), none, .load (some 4) (.tmp 20), true, []⟩,
 ⟨0, (some 296), none, .call (.const (.v (.c (.fn 5 [])))) [(.const (.v (.c (.int .i64 1)))), (.const (.v (.c (.cpx (.f 4607182418800017408) (.f 0)))))], false, [3]⟩,
 ⟨1, (some 297), none, .call (.const (.v (.c (.fn 5 [])))) [(.const (.v (.c (.int .i64 5)))), (.const (.v (.c (.cpx (.f 4607182418800017408) (.f 0)))))], false, [3]⟩,
 ⟨2, (some 298), none, .buildSlice [(.int .i64 0), (.int .i64 0), (.int .i64 0), (.cpx (.f 0) (.f 0)), (.int .i64 0), (.int .i64 0), (.int .i64 0), (.cpx (.f 0) (.f 0))] [(0, 4, (.tmp 296)), (4, 4, (.tmp 297))] 2, false, [3]⟩,
 ⟨4, (some 300), none, .call (.const (.v (.c (.fn 15 [])))) [(.tmp 298), (.tmp 299), (.const (.v (.c (.flt (.f 0))))), (.const (.v (.c (.int .i64 0))))], false, []⟩,
 ⟨5, (some 295), none, .mov (.tmp 300), true, []⟩,
 ⟨6, (some 301), none, .extract 0 (.tmp 295), true, []⟩,
 ⟨7, (some 302), none, .extract 1 (.tmp 295), true, []⟩,
 ⟨8, (some 303), none, .extract 2 (.tmp 295), true, []⟩,
 ⟨9, (some 28), none, .alloc [(.int .i64 0), (.int .i64 0), (.int .i64 0), .nils], false, []⟩,
 ⟨10, none, none, .store 4 (.tmp 28) (.tmp 301), false, []⟩,
 ⟨11, (some 29), none, .mov (.tmp 302), true, []⟩,
 ⟨12, (some 30), none, .mov (.tmp 303), true, []⟩])
 (.seq (.region [31] [⟨3, (some 308), none, .load (some 4) (.tmp 20), true, []⟩,
 ⟨0, (some 305), none, .call (.const (.v (.c (.fn 5 [])))) [(.const (.v (.c (.int .i64 1)))), (.const (.v (.c (.cpx (.f 0) (.f 0)))))], false, [3]⟩,
 ⟨1, (some 306), none, .call (.const (.v (.c (.fn 5 [])))) [(.const (.v (.c (.int .i64 5)))), (.const (.v (.c (.cpx (.f 0) (.f 0)))))], false, [3]⟩,
 ⟨2, (some 307), none, .buildSlice [(.int .i64 0), (.int .i64 0), (.int .i64 0), (.cpx (.f 0) (.f 0)), (.int .i64 0), (.int .i64 0), (.int .i64 0), (.cpx (.f 0) (.f 0))] [(0, 4, (.tmp 305)), (4, 4, (.tmp 306))] 2, false, [3]⟩,
 ⟨4, (some 309), none, .call (.const (.v (.c (.fn 15 [])))) [(.tmp 307), (.tmp 308), (.const (.v (.c (.flt (.f 0))))), (.const (.v (.c (.int .i64 0))))], false, []⟩,
 ⟨5, (some 304), none, .mov (.tmp 309), true, []⟩,
 ⟨6, (some 310), none, .extract 0 (.tmp 304), true, []⟩,
 ⟨7, (some 311), none, .extract 1 (.tmp 304), true, []⟩,
 ⟨8, (some 312), none, .extract 2 (.tmp 304), true, []⟩,
 ⟨9, (some 31), none, .alloc [(.int .i64 0), (.int .i64 0), (.int .i64 0), .nils], false, []⟩,
 ⟨10, none, none, .store 4 (.tmp 31) (.tmp 310), false, []⟩,
 ⟨11, (some 32), none, .mov (.tmp 311), true, []⟩,
 ⟨12, (some 33), none, .mov (.tmp 312), true, []⟩])
 (.seq (.region [] [⟨0, (some 314), none, .load (some 4) (.tmp 20), false, []⟩,
 ⟨1, (some 315), none, .mov (.tmp 15), false, []⟩,
 ⟨2, (some 316), none, .call (.const (.v (.c (.fn 15 [])))) [(.const (.v (.c .nils))), (.tmp 314), (.tmp 315), (.const (.v (.c (.int .i64 0))))], false, []⟩,
 ⟨3, (some 313), none, .mov (.tmp 316), false, []⟩,
 ⟨4, (some 317), none, .extract 0 (.tmp 313), false, []⟩,
 ⟨5, (some 318), none, .extract 1 (.tmp 313), false, []⟩,
 ⟨6, (some 319), none, .extract 2 (.tmp 313), false, []⟩,
 ⟨7, (some 34), none, .alloc [(.int .i64 0), (.int .i64 0), (.int .i64 0), .nils], false, []⟩,
 ⟨8, none, none, .store 4 (.tmp 34) (.tmp 317), false, []⟩,
 ⟨9, (some 35), none, .mov (.tmp 318), false, []⟩,
 ⟨10, (some 36), none, .mov (.tmp 319), false, []⟩])
 (.seq (.region [] [⟨0, (some 321), none, .buildSlice [(.cpx (.f 0) (.f 0)), (.cpx (.f 0) (.f 0)), (.cpx (.f 0) (.f 0)), (.cpx (.f 0) (.f 0)), (.cpx (.f 0) (.f 0))] [(0, 1, (.const (.v (.c (.cpx (.f 4607182418800017408) (.f 0)))))), (1, 1, (.const (.v (.c (.cpx (.f 4611686018427387904) (.f 0)))))), (2, 1, (.const (.v (.c (.cpx (.f 4613937818241073152) (.f 0)))))), (3, 1, (.const (.v (.c (.cpx (.f 4616189618054758400) (.f 0)))))), (4, 1, (.const (.v (.c (.cpx (.f 4617315517961601024) (.f 0))))))] 5, false, []⟩,
 ⟨1, (some 322), none, .call (.const (.v (.c (.fn 10 [])))) [(.tmp 321)], false, []⟩,
 ⟨2, (some 323), none, .mov (.tmp 15), false, []⟩,
 ⟨3, (some 324), none, .call (.const (.v (.c (.fn 15 [])))) [(.const (.v (.c .nils))), (.tmp 322), (.tmp 323), (.const (.v (.c (.int .i64 0))))], false, []⟩,
 ⟨4, (some 320), none, .mov (.tmp 324), false, []⟩,
 ⟨5, (some 325), none, .extract 0 (.tmp 320), false, []⟩,
 ⟨6, (some 326), none, .extract 1 (.tmp 320), false, []⟩,
 ⟨7, (some 327), none, .extract 2 (.tmp 320), false, []⟩,
 ⟨8, (some 37), none, .alloc [(.int .i64 0), (.int .i64 0), (.int .i64 0), .nils], false, []⟩,
 ⟨9, none, none, .store 4 (.tmp 37) (.tmp 325), false, []⟩,
 ⟨10, (some 38), none, .mov (.tmp 326), false, []⟩,
 ⟨11, (some 39), none, .mov (.tmp 327), false, []⟩])
 (.seq (.region [40] [⟨3, (some 332), none, .load (some 4) (.tmp 20), true, []⟩,
 ⟨0, (some 329), none, .call (.const (.v (.c (.fn 5 [])))) [(.const (.v (.c (.int .i64 1)))), (.const (.v (.c (.cpx (.f 4607182418800017408) (.f 0)))))], false, [3]⟩,
 ⟨1, (some 330), none, .call (.const (.v (.c (.fn 5 [])))) [(.const (.v (.c (.int .i64 1)))), (.const (.v (.c (.cpx (.f 4607182418800017408) (.f 0)))))], false, [3]⟩,
 ⟨2, (some 331), none, .buildSlice [(.int .i64 0), (.int .i64 0), (.int .i64 0), (.cpx (.f 0) (.f 0)), (.int .i64 0), (.int .i64 0), (.int .i64 0), (.cpx (.f 0) (.f 0))] [(0, 4, (.tmp 329)), (4, 4, (.tmp 330))] 2, false, [3]⟩,
 ⟨4, (some 333), none, .call (.const (.v (.c (.fn 15 [])))) [(.tmp 331), (.tmp 332), (.const (.v (.c (.flt (.f 0))))), (.const (.v (.c (.int .i64 0))))], false, []⟩,
 ⟨5, (some 328), none, .mov (.tmp 333), true, []⟩,
 ⟨6, (some 334), none, .extract 0 (.tmp 328), true, []⟩,
 ⟨7, (some 335), none, .extract 1 (.tmp 328), true, []⟩,
 ⟨8, (some 336), none, .extract 2 (.tmp 328), true, []⟩,
 ⟨9, (some 40), none, .alloc [(.int .i64 0), (.int .i64 0), (.int .i64 0), .nils], false, []⟩,
 ⟨10, none, none, .store 4 (.tmp 40) (.tmp 334), false, []⟩,
 ⟨11, (some 41), none, .mov (.tmp 335), true, []⟩,
 ⟨12, (some 42), none, .mov (.tmp 336), true, []⟩])
 (.seq (.region [43] [⟨0, (some 338), none, .mov (.tmp 15), true, []⟩,
 ⟨1, (some 339), none, .bi .complex [(.const (.v (.c (.flt (.f 0))))), (.tmp 338)], true, []⟩,
 ⟨4, (some 342), none, .load (some 4) (.tmp 20), true, []⟩,
 ⟨2, (some 340), none, .call (.const (.v (.c (.fn 5 [])))) [(.const (.v (.c (.int .i64 1)))), (.tmp 339)], false, [4]⟩,
 ⟨3, (some 341), none, .buildSlice [(.int .i64 0), (.int .i64 0), (.int .i64 0), (.cpx (.f 0) (.f 0))] [(0, 4, (.tmp 340))] 1, false, [4]⟩,
 ⟨5, (some 343), none, .call (.const (.v (.c (.fn 15 [])))) [(.tmp 341), (.tmp 342), (.const (.v (.c (.flt (.f 0))))), (.const (.v (.c (.int .i64 0))))], false, []⟩,
 ⟨6, (some 337), none, .mov (.tmp 343), true, []⟩,
 ⟨7, (some 344), none, .extract 0 (.tmp 337), true, []⟩,
 ⟨8, (some 345), none, .extract 1 (.tmp 337), true, []⟩,
 ⟨9, (some 346), none, .extract 2 (.tmp 337), true, []⟩,
 ⟨10, (some 43), none, .alloc [(.int .i64 0), (.int .i64 0), (.int .i64 0), .nils], false, []⟩,
 ⟨11, none, none, .store 4 (.tmp 43) (.tmp 344), false, []⟩,
 ⟨12, (some 44), none, .mov (.tmp 345), true, []⟩,
 ⟨13, (some 45), none, .mov (.tmp 346), true, []⟩])
 (.seq (.region [] [⟨0, (some 348), none, .call (.const (.v (.c (.fn 5 [])))) [(.const (.v (.c (.int .i64 0)))), (.const (.v (.c (.cpx (.f 4607182418800017408) (.f 0)))))], false, []⟩,
 ⟨1, (some 349), none, .buildSlice [(.int .i64 0), (.int .i64 0), (.int .i64 0), (.cpx (.f 0) (.f 0))] [(0, 4, (.tmp 348))] 1, false, []⟩,
 ⟨2, (some 350), none, .mov (.tmp 15), false, []⟩,
 ⟨3, (some 351), none, .bi .complex [(.tmp 350), (.const (.v (.c (.flt (.f 0)))))], false, []⟩,
 ⟨4, (some 352), none, .buildSlice [(.cpx (.f 0) (.f 0))] [(0, 1, (.tmp 351))] 1, false, []⟩,
 ⟨5, (some 353), none, .call (.const (.v (.c (.fn 10 [])))) [(.tmp 352)], false, []⟩,
 ⟨6, (some 354), none, .call (.const (.v (.c (.fn 15 [])))) [(.tmp 349), (.tmp 353), (.const (.v (.c (.flt (.f 0))))), (.const (.v (.c (.int .i64 0))))], false, []⟩,
 ⟨7, (some 347), none, .mov (.tmp 354), false, []⟩,
 ⟨8, (some 355), none, .extract 0 (.tmp 347), false, []⟩,
 ⟨9, (some 356), none, .extract 1 (.tmp 347), false, []⟩,
 ⟨10, (some 357), none, .extract 2 (.tmp 347), false, []⟩,
 ⟨11, (some 46), none, .alloc [(.int .i64 0), (.int .i64 0), (.int .i64 0), .nils], false, []⟩,
 ⟨12, none, none, .store 4 (.tmp 46) (.tmp 355), false, []⟩,
 ⟨13, (some 47), none, .mov (.tmp 356), false, []⟩,
 ⟨14, (some 48), none, .mov (.tmp 357), false, []⟩])
 (.seq (.region [] [⟨0, (some 359), none, .call (.const (.v (.c (.fn 5 [])))) [(.const (.v (.c (.int .i64 0)))), (.const (.v (.c (.cpx (.f 4607182418800017408) (.f 0)))))], false, []⟩,
 ⟨1, (some 360), none, .buildSlice [(.int .i64 0), (.int .i64 0), (.int .i64 0), (.cpx (.f 0) (.f 0))] [(0, 4, (.tmp 359))] 1, false, []⟩,
 ⟨2, (some 361), none, .mov (.tmp 15), false, []⟩,
 ⟨3, (some 362), none, .bi .complex [(.tmp 361), (.const (.v (.c (.flt (.f 0)))))], false, []⟩,
 ⟨4, (some 363), none, .buildSlice [(.cpx (.f 0) (.f 0))] [(0, 1, (.tmp 362))] 1, false, []⟩,
 ⟨5, (some 364), none, .call (.const (.v (.c (.fn 10 [])))) [(.tmp 363)], false, []⟩,
 ⟨6, (some 365), none, .call (.const (.v (.c (.fn 15 [])))) [(.tmp 360), (.tmp 364), (.const (.v (.c (.flt (.f 0))))), (.const (.v (.c (.int .i64 1))))], false, []⟩,
 ⟨7, (some 358), none, .mov (.tmp 365), false, []⟩,
 ⟨8, (some 366), none, .extract 0 (.tmp 358), false, []⟩,
 ⟨9, (some 367), none, .extract 1 (.tmp 358), false, []⟩,
 ⟨10, (some 368), none, .extract 2 (.tmp 358), false, []⟩,
 ⟨11, (some 49), none, .alloc [(.int .i64 0), (.int .i64 0), (.int .i64 0), .nils], false, []⟩,
 ⟨12, none, none, .store 4 (.tmp 49) (.tmp 366), false, []⟩,
 ⟨13, (some 50), none, .mov (.tmp 367), false, []⟩,
 ⟨14, (some 51), none, .mov (.tmp 368), false, []⟩])
 (.seq (.region [] [⟨0, (some 370), none, .call (.const (.v (.c (.fn 5 [])))) [(.const (.v (.c (.int .i64 0)))), (.const (.v (.c (.cpx (.f 4607182418800017408) (.f 0)))))], false, []⟩,
 ⟨1, (some 371), none, .buildSlice [(.int .i64 0), (.int .i64 0), (.int .i64 0), (.cpx (.f 0) (.f 0))] [(0, 4, (.tmp 370))] 1, false, []⟩,
 ⟨2, (some 372), none, .build [(.int .i64 0), (.int .i64 0), (.int .i64 0)] [(0, 1, (.const (.v (.c (.int .i64 2))))), (1, 1, (.const (.v (.c (.int .i64 1))))), (2, 1, (.const (.v (.c (.int .i64 1)))))], false, []⟩,
 ⟨3, (some 373), none, .build [(.int .i64 0), (.int .i64 0), (.int .i64 0), .nils] [(0, 3, (.tmp 372))], false, []⟩,
 ⟨4, (some 374), none, .call (.const (.v (.c (.fn 15 [])))) [(.tmp 371), (.tmp 373), (.const (.v (.c (.flt (.f 0))))), (.const (.v (.c (.int .i64 1))))], false, []⟩,
 ⟨5, (some 369), none, .mov (.tmp 374), false, []⟩,
 ⟨6, (some 375), none, .extract 0 (.tmp 369), false, []⟩,
 ⟨7, (some 376), none, .extract 1 (.tmp 369), false, []⟩,
 ⟨8, (some 377), none, .extract 2 (.tmp 369), false, []⟩,
 ⟨9, (some 52), none, .alloc [(.int .i64 0), (.int .i64 0), (.int .i64 0), .nils], false, []⟩,
 ⟨10, none, none, .store 4 (.tmp 52) (.tmp 375), false, []⟩,
 ⟨11, (some 53), none, .mov (.tmp 376), false, []⟩,
 ⟨12, (some 54), none, .mov (.tmp 377), false, []⟩])
 (.seq (.region [] [⟨0, (some 378), none, .mov (.tmp 27), false, []⟩,
 ⟨1, (some 379), none, .bin .eql (.tmp 378) (.const (.v (.c (.int .i64 1)))), false, []⟩,
 ⟨2, (some 380), none, .mov (.tmp 379), false, []⟩,
 ⟨3, (some 381), (some (380, true)), .mov (.tmp 30), false, []⟩,
 ⟨4, (some 382), (some (380, true)), .bin .eql (.tmp 381) (.const (.v (.c (.int .i64 10)))), false, []⟩,
 ⟨5, (some 383), none, .pick (.tmp 380) (.tmp 382) (.const (.v (.c (.bool false)))), false, []⟩,
 ⟨6, (some 384), none, .mov (.tmp 383), false, []⟩,
 ⟨7, (some 385), (some (384, true)), .mov (.tmp 33), false, []⟩,
 ⟨8, (some 386), (some (384, true)), .bin .eql (.tmp 385) (.const (.v (.c (.int .i64 8)))), false, []⟩,
 ⟨9, (some 387), none, .pick (.tmp 384) (.tmp 386) (.const (.v (.c (.bool false)))), false, []⟩,
 ⟨10, (some 388), none, .mov (.tmp 387), false, []⟩,
 ⟨11, (some 389), (some (388, true)), .mov (.tmp 36), false, []⟩,
 ⟨12, (some 390), (some (388, true)), .bin .eql (.tmp 389) (.const (.v (.c (.int .i64 7)))), false, []⟩,
 ⟨13, (some 391), none, .pick (.tmp 388) (.tmp 390) (.const (.v (.c (.bool false)))), false, []⟩,
 ⟨14, (some 392), none, .mov (.tmp 391), false, []⟩,
 ⟨15, (some 393), (some (392, true)), .mov (.tmp 39), false, []⟩,
 ⟨16, (some 394), (some (392, true)), .bin .eql (.tmp 393) (.const (.v (.c (.int .i64 1)))), false, []⟩,
 ⟨17, (some 395), none, .pick (.tmp 392) (.tmp 394) (.const (.v (.c (.bool false)))), false, []⟩,
 ⟨18, (some 396), none, .mov (.tmp 395), false, []⟩,
 ⟨19, (some 397), (some (396, true)), .mov (.tmp 42), false, []⟩,
 ⟨20, (some 398), (some (396, true)), .bin .eql (.tmp 397) (.const (.v (.c (.int .i64 10)))), false, []⟩,
 ⟨21, (some 399), none, .pick (.tmp 396) (.tmp 398) (.const (.v (.c (.bool false)))), false, []⟩,
 ⟨22, (some 400), none, .mov (.tmp 399), false, []⟩,
 ⟨23, (some 401), (some (400, true)), .mov (.tmp 45), false, []⟩,
 ⟨24, (some 402), (some (400, true)), .bin .eql (.tmp 401) (.const (.v (.c (.int .i64 7)))), false, []⟩,
 ⟨25, (some 403), none, .pick (.tmp 400) (.tmp 402) (.const (.v (.c (.bool false)))), false, []⟩,
 ⟨26, (some 404), none, .mov (.tmp 403), false, []⟩,
 ⟨27, (some 405), (some (404, true)), .mov (.tmp 48), false, []⟩,
 ⟨28, (some 406), (some (404, true)), .bin .eql (.tmp 405) (.const (.v (.c (.int .i64 0)))), false, []⟩,
 ⟨29, (some 407), none, .pick (.tmp 404) (.tmp 406) (.const (.v (.c (.bool false)))), false, []⟩,
 ⟨30, (some 408), none, .mov (.tmp 407), false, []⟩,
 ⟨31, (some 409), (some (408, true)), .mov (.tmp 51), false, []⟩,
 ⟨32, (some 410), (some (408, true)), .bin .eql (.tmp 409) (.const (.v (.c (.int .i64 7)))), false, []⟩,
 ⟨33, (some 411), none, .pick (.tmp 408) (.tmp 410) (.const (.v (.c (.bool false)))), false, []⟩,
 ⟨34, (some 412), none, .mov (.tmp 411), false, []⟩,
 ⟨35, (some 413), (some (412, true)), .mov (.tmp 54), false, []⟩,
 ⟨36, (some 414), (some (412, true)), .bin .eql (.tmp 413) (.const (.v (.c (.int .i64 3)))), false, []⟩,
 ⟨37, (some 415), none, .pick (.tmp 412) (.tmp 414) (.const (.v (.c (.bool false)))), false, []⟩,
 ⟨38, (some 0), none, .mov (.tmp 415), false, []⟩])
 .ret))))))))))))))))))))))))))))))))))⟩

/-- facet/facetlaw25.awake -/
def c4 : AFun := ⟨71, [(0, none)],
 (.seq (.region [] [⟨0, (some 0), none, .mov (.const (.v (.c (.bool false)))), false, []⟩])
 (.seq (.region [] [⟨0, (some 8), none, .build [(.int .i64 0), (.int .i64 0), (.int .i64 0)] [(0, 1, (.const (.v (.c (.int .i64 1))))), (1, 1, (.const (.v (.c (.int .i64 2))))), (2, 1, (.const (.v (.c (.int .i64 0)))))], false, []⟩,
 ⟨1, (some 9), none, .build [(.int .i64 0), (.int .i64 0), (.int .i64 0), (.cpx (.f 0) (.f 0))] [(0, 3, (.tmp 8)), (3, 1, (.const (.v (.c (.cpx (.f 4607182418800017408) (.f 4611686018427387904))))))], false, []⟩,
 ⟨2, (some 10), none, .buildSlice [(.int .i64 0), (.int .i64 0), (.int .i64 0), (.cpx (.f 0) (.f 0))] [(0, 4, (.tmp 9))] 1, false, []⟩,
 ⟨3, (some 11), none, .build [(.int .i64 0), (.int .i64 0), (.int .i64 0)] [(0, 1, (.const (.v (.c (.int .i64 6))))), (1, 1, (.const (.v (.c (.int .i64 0))))), (2, 1, (.const (.v (.c (.int .i64 0)))))], false, []⟩,
 ⟨4, (some 12), none, .call (.const (.v (.c (.fn 16 [])))) [(.tmp 10), (.tmp 11)], false, []⟩,
 ⟨5, (some 7), none, .mov (.tmp 12), false, []⟩,
 ⟨6, (some 13), none, .extract 0 (.tmp 7), false, []⟩,
 ⟨7, (some 14), none, .extract 1 (.tmp 7), false, []⟩,
 ⟨8, (some 1), none, .mov (.tmp 13), false, []⟩,
 ⟨9, (some 2), none, .mov (.tmp 14), false, []⟩])
 (.seq (.region [] [⟨0, (some 16), none, .buildSlice [(.cpx (.f 0) (.f 0)), (.cpx (.f 0) (.f 0))] [(0, 1, (.const (.v (.c (.cpx (.f 4607182418800017408) (.f 0)))))), (1, 1, (.const (.v (.c (.cpx (.f 13837309855095848960) (.f 0))))))] 2, false, []⟩,
 ⟨1, (some 17), none, .call (.const (.v (.c (.fn 10 [])))) [(.tmp 16)], false, []⟩,
 ⟨2, (some 18), none, .call (.const (.v (.c (.fn 9 [])))) [(.tmp 17), (.const (.v (.c (.flt (.f 4607182418800017408)))))], false, []⟩,
 ⟨3, (some 15), none, .mov (.tmp 18), false, []⟩,
 ⟨4, (some 19), none, .extract 0 (.tmp 15), false, []⟩,
 ⟨5, (some 20), none, .extract 1 (.tmp 15), false, []⟩,
 ⟨6, (some 3), none, .alloc [(.int .i64 0), (.int .i64 0), (.int .i64 0), .nils], false, []⟩,
 ⟨7, none, none, .store 4 (.tmp 3) (.tmp 19), false, []⟩,
 ⟨8, (some 4), none, .mov (.tmp 20), false, []⟩])
 (.seq (.region [] [⟨0, (some 22), none, .build [(.int .i64 0), (.int .i64 0), (.int .i64 0)] [(0, 1, (.const (.v (.c (.int .i64 1))))), (1, 1, (.const (.v (.c (.int .i64 0))))), (2, 1, (.const (.v (.c (.int .i64 0)))))], false, []⟩,
 ⟨1, (some 23), none, .build [(.int .i64 0), (.int .i64 0), (.int .i64 0), (.cpx (.f 0) (.f 0))] [(0, 3, (.tmp 22)), (3, 1, (.const (.v (.c (.cpx (.f 0) (.f 4611686018427387904))))))], false, []⟩,
 ⟨2, (some 24), none, .buildSlice [(.int .i64 0), (.int .i64 0), (.int .i64 0), (.cpx (.f 0) (.f 0))] [(0, 4, (.tmp 23))] 1, false, []⟩,
 ⟨3, (some 25), none, .build [(.int .i64 0), (.int .i64 0), (.int .i64 0)] [(0, 1, (.const (.v (.c (.int .i64 1))))), (1, 1, (.const (.v (.c (.int .i64 0))))), (2, 1, (.const (.v (.c (.int .i64 0)))))], false, []⟩,
 ⟨4, (some 26), none, .build [(.int .i64 0), (.int .i64 0), (.int .i64 0), (.cpx (.f 0) (.f 0))] [(0, 3, (.tmp 25)), (3, 1, (.const (.v (.c (.cpx (.f 13840687554816376832) (.f 0))))))], false, []⟩,
 ⟨5, (some 27), none, .buildSlice [(.int .i64 0), (.int .i64 0), (.int .i64 0), (.cpx (.f 0) (.f 0))] [(0, 4, (.tmp 26))] 1, false, []⟩,
 ⟨6, (some 28), none, .call (.const (.v (.c (.fn 13 [])))) [(.tmp 24), (.tmp 27)], false, []⟩,
 ⟨7, (some 21), none, .mov (.tmp 28), false, []⟩,
 ⟨8, (some 29), none, .extract 0 (.tmp 21), false, []⟩,
 ⟨9, (some 30), none, .extract 1 (.tmp 21), false, []⟩,
 ⟨10, (some 5), none, .mov (.tmp 29), false, []⟩,
 ⟨11, (some 6), none, .mov (.tmp 30), false, []⟩])
 (.seq (.region [] [⟨0, (some 31), none, .mov (.tmp 2), true, []⟩,
 ⟨1, (some 32), none, .bin .eql (.tmp 31) (.const (.v (.c (.int .i64 0)))), true, []⟩,
 ⟨2, (some 33), none, .mov (.tmp 32), true, []⟩,
 ⟨3, (some 34), (some (33, true)), .mov (.tmp 4), true, []⟩,
 ⟨4, (some 35), (some (33, true)), .bin .eql (.tmp 34) (.const (.v (.c (.int .i64 0)))), true, []⟩,
 ⟨5, (some 36), none, .pick (.tmp 33) (.tmp 35) (.const (.v (.c (.bool false)))), true, []⟩,
 ⟨6, (some 37), none, .mov (.tmp 36), true, []⟩,
 ⟨7, (some 38), (some (37, true)), .mov (.tmp 6), true, []⟩,
 ⟨8, (some 39), (some (37, true)), .bin .eql (.tmp 38) (.const (.v (.c (.int .i64 0)))), true, []⟩,
 ⟨9, (some 40), none, .pick (.tmp 37) (.tmp 39) (.const (.v (.c (.bool false)))), true, []⟩,
 ⟨10, (some 41), none, .mov (.tmp 40), true, []⟩,
 ⟨11, (some 42), (some (41, true)), .mov (.tmp 1), true, []⟩,
 ⟨12, (some 43), (some (41, true)), .bi .len [(.tmp 42)], true, []⟩,
 ⟨13, (some 44), (some (41, true)), .bin .eql (.tmp 43) (.const (.v (.c (.int .i64 1)))), true, []⟩,
 ⟨14, (some 45), none, .pick (.tmp 41) (.tmp 44) (.const (.v (.c (.bool false)))), true, []⟩,
 ⟨15, (some 46), none, .mov (.tmp 45), true, []⟩,
 ⟨16, (some 47), (some (46, true)), .mov (.tmp 1), true, []⟩,
 ⟨17, (some 48), (some (46, true)), .indexAddr 4 none (.tmp 47) (.const (.v (.c (.int .i64 0)))), true, []⟩,
 ⟨18, (some 49), (some (46, true)), .addr 3 (.tmp 48), true, []⟩,
 ⟨19, (some 50), (some (46, true)), .load none (.tmp 49), true, []⟩,
 ⟨20, (some 51), (some (46, true)), .bin .eql (.tmp 50) (.const (.v (.c (.cpx (.f 13835058055282163712) (.f 4607182418800017408))))), true, []⟩,
 ⟨21, (some 52), none, .pick (.tmp 46) (.tmp 51) (.const (.v (.c (.bool false)))), true, []⟩,
 ⟨22, (some 53), none, .mov (.tmp 52), true, []⟩,
 ⟨23, (some 54), (some (53, true)), .load (some 4) (.tmp 3), true, []⟩,
 ⟨24, (some 55), (some (53, true)), .buildSlice [(.cpx (.f 0) (.f 0)), (.cpx (.f 0) (.f 0))] [(0, 1, (.const (.v (.c (.cpx (.f 4607182418800017408) (.f 0)))))), (1, 1, (.const (.v (.c (.cpx (.f 4613937818241073152) (.f 0))))))] 2, false, [23]⟩,
 ⟨25, (some 56), (some (53, true)), .call (.const (.v (.c (.fn 10 [])))) [(.tmp 55)], false, [23]⟩,
 ⟨26, (some 57), (some (53, true)), .call (.const (.v (.c (.fn 12 [])))) [(.tmp 54), (.tmp 56)], false, []⟩,
 ⟨27, (some 58), none, .pick (.tmp 53) (.tmp 57) (.const (.v (.c (.bool false)))), true, []⟩,
 ⟨28, (some 59), none, .mov (.tmp 58), true, []⟩,
 ⟨29, (some 60), (some (59, true)), .mov (.tmp 5), true, []⟩,
 ⟨30, (some 61), (some (59, true)), .bi .len [(.tmp 60)], true, []⟩,
 ⟨31, (some 62), (some (59, true)), .bin .eql (.tmp 61) (.const (.v (.c (.int .i64 1)))), true, []⟩,
 ⟨32, (some 63), none, .pick (.tmp 59) (.tmp 62) (.const (.v (.c (.bool false)))), true, []⟩,
 ⟨33, (some 64), none, .mov (.tmp 63), true, []⟩,
 ⟨34, (some 65), (some (64, true)), .mov (.tmp 5), true, []⟩,
 ⟨35, (some 66), (some (64, true)), .indexAddr 4 none (.tmp 65) (.const (.v (.c (.int .i64 0)))), true, []⟩,
 ⟨36, (some 67), (some (64, true)), .addr 3 (.tmp 66), true, []⟩,
 ⟨37, (some 68), (some (64, true)), .load none (.tmp 67), true, []⟩,
 ⟨38, (some 69), (some (64, true)), .bin .eql (.tmp 68) (.const (.v (.c (.cpx (.f 0) (.f 4617315517961601024))))), true, []⟩,
 ⟨39, (some 70), none, .pick (.tmp 64) (.tmp 69) (.const (.v (.c (.bool false)))), true, []⟩,
 ⟨40, (some 0), none, .mov (.tmp 70), true, []⟩])
 .ret)))))⟩

/-- facet/facetlaw25.wave -/
def c5 : AFun := ⟨9, [(4, (some (some 4)))],
 (.seq (.region [] [⟨0, (some 4), none, .alloc [(.int .i64 0), (.int .i64 0), (.int .i64 0), (.cpx (.f 0) (.f 0))], false, []⟩])
 (.seq (.region [] [⟨0, (some 5), none, .mov (.tmp 0), false, []⟩,
 ⟨1, (some 6), none, .build [(.int .i64 0), (.int .i64 0), (.int .i64 0)] [(0, 1, (.tmp 5)), (1, 1, (.const (.v (.c (.int .i64 0))))), (2, 1, (.const (.v (.c (.int .i64 0)))))], false, []⟩,
 ⟨2, (some 7), none, .mov (.tmp 1), false, []⟩,
 ⟨3, (some 8), none, .build [(.int .i64 0), (.int .i64 0), (.int .i64 0), (.cpx (.f 0) (.f 0))] [(0, 3, (.tmp 6)), (3, 1, (.tmp 7))], false, []⟩,
 ⟨4, none, none, .store 4 (.tmp 4) (.tmp 8), false, []⟩])
 .ret))⟩

/-- facet/phase.Triplet -/
def c6 : AFun := ⟨85, [(6, none), (7, none)],
 (.seq (.region [] [⟨0, (some 4), none, .box (.tmp 1), false, []⟩,
 ⟨1, (some 5), none, .box (.tmp 2), false, []⟩,
 ⟨2, (some 6), none, .mov (.const (.v (.c (.cpx (.f 0) (.f 0))))), false, []⟩,
 ⟨3, (some 7), none, .mov (.const (.v (.c (.int .i64 0)))), false, []⟩])
 (.seq (.region [] [⟨0, (some 15), none, .mov (.tmp 0), false, []⟩,
 ⟨1, (some 16), none, .call (.const (.v (.c (.fn 17 [])))) [(.tmp 15)], false, []⟩,
 ⟨2, (some 14), none, .mov (.tmp 16), false, []⟩,
 ⟨3, (some 17), none, .extract 0 (.tmp 14), false, []⟩,
 ⟨4, (some 18), none, .extract 1 (.tmp 14), false, []⟩,
 ⟨5, (some 8), none, .mov (.tmp 17), false, []⟩,
 ⟨6, (some 9), none, .mov (.tmp 18), false, []⟩])
 (.seq (.seq (.region [] [⟨0, (some 19), none, .mov (.tmp 9), false, []⟩,
 ⟨1, (some 20), none, .bin .eql (.tmp 19) (.const (.v (.c (.int .i64 2)))), false, []⟩,
 ⟨2, (some 21), none, .mov (.tmp 20), false, []⟩,
 ⟨3, (some 22), (some (21, false)), .mov (.tmp 9), false, []⟩,
 ⟨4, (some 23), (some (21, false)), .bin .eql (.tmp 22) (.const (.v (.c (.int .i64 1)))), false, []⟩,
 ⟨5, (some 24), none, .pick (.tmp 21) (.const (.v (.c (.bool true)))) (.tmp 23), false, []⟩,
 ⟨6, (some 25), none, .mov (.tmp 24), false, []⟩,
 ⟨7, (some 26), (some (25, false)), .mov (.tmp 9), false, []⟩,
 ⟨8, (some 27), (some (25, false)), .bin .eql (.tmp 26) (.const (.v (.c (.int .i64 0)))), false, []⟩,
 ⟨9, (some 28), none, .pick (.tmp 25) (.const (.v (.c (.bool true)))) (.tmp 27), false, []⟩])
 (.cond (.tmp 28) (.seq (.region [] [⟨0, (some 29), none, .indexAddr 1 (some 3) (.tmp 4) (.const (.v (.c (.int .i64 0)))), false, []⟩,
 ⟨1, (some 30), none, .load none (.tmp 29), false, []⟩,
 ⟨2, (some 31), none, .indexAddr 1 (some 3) (.tmp 4) (.const (.v (.c (.int .i64 1)))), false, []⟩,
 ⟨3, (some 32), none, .load none (.tmp 31), false, []⟩,
 ⟨4, (some 33), none, .indexAddr 1 (some 3) (.tmp 4) (.const (.v (.c (.int .i64 2)))), false, []⟩,
 ⟨5, (some 34), none, .load none (.tmp 33), false, []⟩,
 ⟨6, (some 35), none, .indexAddr 1 (some 3) (.tmp 5) (.const (.v (.c (.int .i64 0)))), false, []⟩,
 ⟨7, (some 36), none, .load none (.tmp 35), false, []⟩,
 ⟨8, (some 37), none, .indexAddr 1 (some 3) (.tmp 5) (.const (.v (.c (.int .i64 1)))), false, []⟩,
 ⟨9, (some 38), none, .load none (.tmp 37), false, []⟩,
 ⟨10, (some 39), none, .indexAddr 1 (some 3) (.tmp 5) (.const (.v (.c (.int .i64 2)))), false, []⟩,
 ⟨11, (some 40), none, .load none (.tmp 39), false, []⟩,
 ⟨12, (some 41), none, .build [(.int .i64 0), (.int .i64 0), (.int .i64 0), (.int .i64 0), (.int .i64 0), (.int .i64 0)] [(0, 1, (.tmp 30)), (1, 1, (.tmp 32)), (2, 1, (.tmp 34)), (3, 1, (.tmp 36)), (4, 1, (.tmp 38)), (5, 1, (.tmp 40))], false, []⟩,
 ⟨13, (some 42), none, .mov (.const (.v (.c (.int .i64 0)))), false, []⟩])
 (.block 0 (.loop (.seq (.region [] [⟨0, (some 43), none, .bin .lss (.tmp 42) (.const (.v (.c (.int .i64 6)))), false, []⟩])
 (.seq (.cond (.tmp 43) .skip
 (.exit 0))
 (.seq (.block 1 (.seq (.region [] [⟨0, (some 44), none, .index none 1 6 (.tmp 41) (.tmp 42), false, []⟩,
 ⟨1, (some 11), none, .mov (.tmp 44), false, []⟩])
 (.seq (.region [] [⟨0, (some 45), none, .mov (.tmp 11), false, []⟩,
 ⟨1, (some 46), none, .bin .lss (.tmp 45) (.const (.v (.c (.int .i64 (-512))))), false, []⟩,
 ⟨2, (some 47), none, .mov (.tmp 46), false, []⟩,
 ⟨3, (some 48), (some (47, false)), .mov (.tmp 11), false, []⟩,
 ⟨4, (some 49), (some (47, false)), .bin .gtr (.tmp 48) (.const (.v (.c (.int .i64 512)))), false, []⟩,
 ⟨5, (some 50), none, .pick (.tmp 47) (.const (.v (.c (.bool true)))) (.tmp 49), false, []⟩])
 (.cond (.tmp 50) (.region [] [⟨0, (some 9), none, .mov (.const (.v (.c (.int .i64 1)))), false, []⟩])
 .skip))))
 (.region [] [⟨0, (some 51), none, .bin .add (.tmp 42) (.const (.v (.c (.int .i64 1)))), false, []⟩,
 ⟨1, (some 42), none, .mov (.tmp 51), false, []⟩])))))))
 (.seq (.region [] [⟨0, (some 52), none, .load (some 3) (.tmp 4), false, []⟩,
 ⟨1, (some 53), none, .call (.const (.v (.c (.fn 18 [])))) [(.tmp 52)], false, []⟩,
 ⟨2, (some 54), none, .mov (.tmp 53), false, []⟩,
 ⟨3, (some 55), (some (54, false)), .load (some 3) (.tmp 5), false, []⟩,
 ⟨4, (some 56), (some (54, false)), .call (.const (.v (.c (.fn 18 [])))) [(.tmp 55)], false, []⟩,
 ⟨5, (some 57), none, .pick (.tmp 54) (.const (.v (.c (.bool true)))) (.tmp 56), false, []⟩])
 (.cond (.tmp 57) (.region [] [⟨0, (some 9), none, .mov (.const (.v (.c (.int .i64 1)))), false, []⟩])
 .skip))))
 (.seq (.region [] [⟨0, (some 59), none, .mov (.tmp 0), false, []⟩,
 ⟨1, (some 60), none, .load (some 3) (.tmp 4), false, []⟩,
 ⟨2, (some 61), none, .load (some 3) (.tmp 5), false, []⟩,
 ⟨3, (some 62), none, .call (.const (.v (.c (.fn 19 [])))) [(.tmp 59), (.tmp 60), (.tmp 61)], false, []⟩,
 ⟨4, (some 58), none, .mov (.tmp 62), false, []⟩,
 ⟨5, (some 63), none, .extract 0 (.tmp 58), false, []⟩,
 ⟨6, (some 64), none, .extract 1 (.tmp 58), false, []⟩,
 ⟨7, (some 12), none, .alloc [(.cpx (.f 0) (.f 0)), (.cpx (.f 0) (.f 0)), (.cpx (.f 0) (.f 0))], false, []⟩,
 ⟨8, none, none, .store 3 (.tmp 12) (.tmp 63), false, []⟩,
 ⟨9, (some 13), none, .mov (.tmp 64), false, []⟩])
 (.seq (.seq (.region [] [⟨0, (some 65), none, .mov (.tmp 13), false, []⟩,
 ⟨1, (some 66), none, .mov (.tmp 65), false, []⟩,
 ⟨2, (some 67), (some (66, true)), .mov (.tmp 9), false, []⟩,
 ⟨3, (some 68), (some (66, true)), .bin .eql (.tmp 67) (.const (.v (.c (.int .i64 0)))), false, []⟩,
 ⟨4, (some 69), (some (66, true)), .mov (.tmp 68), false, []⟩,
 ⟨5, (some 70), (some (69, false)), .mov (.tmp 9), false, []⟩,
 ⟨6, (some 71), (some (69, false)), .bin .gtr (.tmp 70) (.const (.v (.c (.int .i64 9)))), false, []⟩,
 ⟨7, (some 72), (some (66, true)), .pick (.tmp 69) (.const (.v (.c (.bool true)))) (.tmp 71), false, []⟩,
 ⟨8, (some 73), none, .pick (.tmp 66) (.tmp 72) (.const (.v (.c (.bool false)))), false, []⟩])
 (.cond (.tmp 73) (.region [] [⟨0, (some 9), none, .mov (.const (.v (.c (.int .i64 9)))), false, []⟩])
 .skip))
 (.seq (.seq (.region [] [⟨0, (some 74), none, .mov (.tmp 9), false, []⟩,
 ⟨1, (some 75), none, .bin .neq (.tmp 74) (.const (.v (.c (.int .i64 0)))), false, []⟩])
 (.cond (.tmp 75) (.seq (.region [] [⟨0, (some 76), none, .mov (.tmp 9), false, []⟩,
 ⟨1, (some 6), none, .mov (.const (.v (.c (.cpx (.f 0) (.f 0))))), false, []⟩,
 ⟨2, (some 7), none, .mov (.tmp 76), false, []⟩])
 .ret)
 .skip))
 (.seq (.region [] [⟨0, (some 77), none, .indexAddr 1 (some 3) (.tmp 12) (.const (.v (.c (.int .i64 0)))), true, []⟩,
 ⟨1, (some 78), none, .load none (.tmp 77), true, []⟩,
 ⟨2, (some 79), none, .indexAddr 1 (some 3) (.tmp 12) (.const (.v (.c (.int .i64 1)))), true, []⟩,
 ⟨3, (some 80), none, .load none (.tmp 79), true, []⟩,
 ⟨5, (some 82), none, .indexAddr 1 (some 3) (.tmp 12) (.const (.v (.c (.int .i64 2)))), true, []⟩,
 ⟨6, (some 83), none, .load none (.tmp 82), true, []⟩,
 ⟨4, (some 81), none, .call (.const (.v (.c (.fn 20 [])))) [(.tmp 78), (.tmp 80)], false, [6]⟩,
 ⟨7, (some 84), none, .call (.const (.v (.c (.fn 20 [])))) [(.tmp 81), (.tmp 83)], false, []⟩,
 ⟨8, (some 6), none, .mov (.tmp 84), true, []⟩,
 ⟨9, (some 7), none, .mov (.const (.v (.c (.int .i64 0)))), true, []⟩])
 .ret)))))))⟩

/-- math.Copysign -/
def c7 : AFun := ⟨13, [(4, none)],
 (.seq (.region [] [⟨0, (some 4), none, .mov (.const (.v (.c (.flt (.f 0))))), false, []⟩])
 (.seq (.region [] [⟨0, (some 5), none, .mov (.tmp 0), false, []⟩,
 ⟨1, (some 6), none, .fbits (.tmp 5), false, []⟩,
 ⟨2, (some 7), none, .bin .andNot (.tmp 6) (.const (.v (.c (.int .u64 9223372036854775808)))), false, []⟩,
 ⟨3, (some 8), none, .mov (.tmp 1), false, []⟩,
 ⟨4, (some 9), none, .fbits (.tmp 8), false, []⟩,
 ⟨5, (some 10), none, .bin .and (.tmp 9) (.const (.v (.c (.int .u64 9223372036854775808)))), false, []⟩,
 ⟨6, (some 11), none, .bin .or (.tmp 7) (.tmp 10), false, []⟩,
 ⟨7, (some 12), none, .ffrom (.tmp 11), false, []⟩,
 ⟨8, (some 4), none, .mov (.tmp 12), false, []⟩])
 .ret))⟩

/-- math.NaN -/
def c8 : AFun := ⟨2, [(0, none)],
 (.seq (.region [] [⟨0, (some 0), none, .mov (.const (.v (.c (.flt (.f 0))))), false, []⟩])
 (.seq (.region [] [⟨0, (some 1), none, .ffrom (.const (.v (.c (.int .u64 9221120237041090561)))), false, []⟩,
 ⟨1, (some 0), none, .mov (.tmp 1), false, []⟩])
 .ret))⟩

/-- facet/phase.Flip -/
def c9 : AFun := ⟨23, [(4, (some (some 4))), (5, none)],
 (.seq (.region [] [⟨0, (some 2), none, .box (.tmp 0), false, []⟩,
 ⟨1, (some 4), none, .alloc [(.int .i64 0), (.int .i64 0), (.int .i64 0), .nils], false, []⟩,
 ⟨2, (some 5), none, .mov (.const (.v (.c (.int .i64 0)))), false, []⟩])
 (.seq (.region [] [⟨0, (some 7), none, .load (some 4) (.tmp 2), false, []⟩,
 ⟨1, (some 8), none, .call (.const (.v (.c (.fn 23 [])))) [(.tmp 7)], false, []⟩,
 ⟨2, (some 6), none, .mov (.tmp 8), false, []⟩])
 (.seq (.seq (.region [] [⟨0, (some 9), none, .mov (.tmp 6), false, []⟩,
 ⟨1, (some 10), none, .bin .eql (.tmp 9) (.const (.v (.c (.int .i64 0)))), false, []⟩,
 ⟨2, (some 11), none, .mov (.tmp 10), false, []⟩,
 ⟨3, (some 12), (some (11, true)), .mov (.tmp 1), false, []⟩,
 ⟨4, (some 13), (some (11, true)), .mov (.tmp 1), false, []⟩,
 ⟨5, (some 14), (some (11, true)), .bin .neq (.tmp 12) (.tmp 13), false, []⟩,
 ⟨6, (some 15), none, .pick (.tmp 11) (.tmp 14) (.const (.v (.c (.bool false)))), false, []⟩])
 (.cond (.tmp 15) (.region [] [⟨0, (some 6), none, .mov (.const (.v (.c (.int .i64 7)))), false, []⟩])
 .skip))
 (.seq (.seq (.region [] [⟨0, (some 16), none, .mov (.tmp 6), false, []⟩,
 ⟨1, (some 17), none, .bin .neq (.tmp 16) (.const (.v (.c (.int .i64 0)))), false, []⟩])
 (.cond (.tmp 17) (.seq (.region [] [⟨0, (some 18), none, .build [(.int .i64 0), (.int .i64 0), (.int .i64 0), .nils] [], false, []⟩,
 ⟨1, (some 19), none, .mov (.tmp 6), false, []⟩,
 ⟨2, none, none, .store 4 (.tmp 4) (.tmp 18), false, []⟩,
 ⟨3, (some 5), none, .mov (.tmp 19), false, []⟩])
 .ret)
 .skip))
 (.seq (.region [] [⟨0, (some 20), none, .load (some 4) (.tmp 2), false, []⟩,
 ⟨1, (some 21), none, .mov (.tmp 1), false, []⟩,
 ⟨2, (some 22), none, .call (.const (.v (.c (.fn 24 [])))) [(.tmp 20), (.tmp 21)], false, []⟩,
 ⟨3, none, none, .store 4 (.tmp 4) (.tmp 22), false, []⟩,
 ⟨4, (some 5), none, .mov (.const (.v (.c (.int .i64 0)))), false, []⟩])
 .ret)))))⟩

/-- facet/facetlaw25.line -/
def c10 : AFun := ⟨8, [(2, (some (some 4)))],
 (.seq (.region [] [⟨0, (some 2), none, .alloc [(.int .i64 0), (.int .i64 0), (.int .i64 0), .nils], false, []⟩])
 (.seq (.region [] [⟨0, (some 3), none, .mov (.tmp 0), false, []⟩,
 ⟨1, (some 4), none, .bi .len [(.tmp 3)], false, []⟩,
 ⟨2, (some 5), none, .build [(.int .i64 0), (.int .i64 0), (.int .i64 0)] [(0, 1, (.tmp 4)), (1, 1, (.const (.v (.c (.int .i64 1))))), (2, 1, (.const (.v (.c (.int .i64 1)))))], false, []⟩,
 ⟨3, (some 6), none, .mov (.tmp 0), false, []⟩,
 ⟨4, (some 7), none, .build [(.int .i64 0), (.int .i64 0), (.int .i64 0), .nils] [(0, 3, (.tmp 5)), (3, 1, (.tmp 6))], false, []⟩,
 ⟨5, none, none, .store 4 (.tmp 2) (.tmp 7), false, []⟩])
 .ret))⟩

/-- math.Inf -/
def c11 : AFun := ⟨8, [(2, none)],
 (.seq (.region [] [⟨0, (some 2), none, .mov (.const (.v (.c (.flt (.f 0))))), false, []⟩])
 (.seq (.region [] [⟨0, (some 3), none, .mov (.const (.v (.c (.int .u64 0)))), false, []⟩])
 (.seq (.seq (.region [] [⟨0, (some 4), none, .mov (.tmp 0), false, []⟩,
 ⟨1, (some 5), none, .bin .geq (.tmp 4) (.const (.v (.c (.int .i64 0)))), false, []⟩])
 (.cond (.tmp 5) (.region [] [⟨0, (some 3), none, .mov (.const (.v (.c (.int .u64 9218868437227405312)))), false, []⟩])
 (.region [] [⟨0, (some 3), none, .mov (.const (.v (.c (.int .u64 18442240474082181120)))), false, []⟩])))
 (.seq (.region [] [⟨0, (some 6), none, .mov (.tmp 3), false, []⟩,
 ⟨1, (some 7), none, .ffrom (.tmp 6), false, []⟩,
 ⟨2, (some 2), none, .mov (.tmp 7), false, []⟩])
 .ret))))⟩

/-- facet/facetref20.SameGrid -/
def c12 : AFun := ⟨17, [(4, none)],
 (.seq (.region [] [⟨0, (some 2), none, .box (.tmp 0), false, []⟩,
 ⟨1, (some 3), none, .box (.tmp 1), false, []⟩,
 ⟨2, (some 4), none, .mov (.const (.v (.c (.bool false)))), false, []⟩])
 (.seq (.region [] [⟨0, (some 5), none, .addr 0 (.tmp 2), false, []⟩,
 ⟨1, (some 6), none, .load (some 3) (.tmp 5), false, []⟩,
 ⟨2, (some 7), none, .addr 0 (.tmp 3), false, []⟩,
 ⟨3, (some 8), none, .load (some 3) (.tmp 7), false, []⟩,
 ⟨4, (some 9), none, .eqA false 3 (.tmp 6) (.tmp 8), false, []⟩,
 ⟨5, (some 10), none, .mov (.tmp 9), false, []⟩,
 ⟨6, (some 11), (some (10, true)), .addr 3 (.tmp 2), false, []⟩,
 ⟨7, (some 12), (some (10, true)), .load none (.tmp 11), false, []⟩,
 ⟨8, (some 13), (some (10, true)), .addr 3 (.tmp 3), false, []⟩,
 ⟨9, (some 14), (some (10, true)), .load none (.tmp 13), false, []⟩,
 ⟨10, (some 15), (some (10, true)), .call (.const (.v (.c (.fn 25 [])))) [(.tmp 12), (.tmp 14)], false, []⟩,
 ⟨11, (some 16), none, .pick (.tmp 10) (.tmp 15) (.const (.v (.c (.bool false)))), false, []⟩,
 ⟨12, (some 4), none, .mov (.tmp 16), false, []⟩])
 .ret))⟩

/-- facet/phase.Impose -/
def c13 : AFun := ⟨101, [(4, none), (5, none)],
 (.seq (.region [] [⟨0, (some 4), none, .mov (.const (.v (.c .nils))), false, []⟩,
 ⟨1, (some 5), none, .mov (.const (.v (.c (.int .i64 0)))), false, []⟩])
 (.seq (.region [] [⟨0, (some 22), none, .mov (.tmp 0), false, []⟩,
 ⟨1, (some 23), none, .call (.const (.v (.c (.fn 17 [])))) [(.tmp 22)], false, []⟩,
 ⟨2, (some 21), none, .mov (.tmp 23), false, []⟩,
 ⟨3, (some 24), none, .extract 0 (.tmp 21), false, []⟩,
 ⟨4, (some 25), none, .extract 1 (.tmp 21), false, []⟩,
 ⟨5, (some 6), none, .mov (.tmp 24), false, []⟩,
 ⟨6, (some 7), none, .mov (.tmp 25), false, []⟩])
 (.seq (.region [] [⟨0, (some 27), none, .mov (.tmp 1), false, []⟩,
 ⟨1, (some 28), none, .call (.const (.v (.c (.fn 17 [])))) [(.tmp 27)], false, []⟩,
 ⟨2, (some 26), none, .mov (.tmp 28), false, []⟩,
 ⟨3, (some 29), none, .extract 0 (.tmp 26), false, []⟩,
 ⟨4, (some 30), none, .extract 1 (.tmp 26), false, []⟩,
 ⟨5, (some 8), none, .mov (.tmp 29), false, []⟩,
 ⟨6, (some 9), none, .mov (.tmp 30), false, []⟩])
 (.seq (.seq (.region [] [⟨0, (some 31), none, .mov (.tmp 7), false, []⟩,
 ⟨1, (some 32), none, .bin .eql (.tmp 31) (.const (.v (.c (.int .i64 0)))), false, []⟩,
 ⟨2, (some 33), none, .mov (.tmp 32), false, []⟩,
 ⟨3, (some 34), (some (33, false)), .mov (.tmp 9), false, []⟩,
 ⟨4, (some 35), (some (33, false)), .bin .neq (.tmp 34) (.const (.v (.c (.int .i64 0)))), false, []⟩,
 ⟨5, (some 36), (some (33, false)), .mov (.tmp 35), false, []⟩,
 ⟨6, (some 37), (some (36, true)), .mov (.tmp 9), false, []⟩,
 ⟨7, (some 38), (some (36, true)), .mov (.tmp 7), false, []⟩,
 ⟨8, (some 39), (some (36, true)), .bin .lss (.tmp 37) (.tmp 38), false, []⟩,
 ⟨9, (some 40), (some (33, false)), .pick (.tmp 36) (.tmp 39) (.const (.v (.c (.bool false)))), false, []⟩,
 ⟨10, (some 41), none, .pick (.tmp 33) (.const (.v (.c (.bool true)))) (.tmp 40), false, []⟩])
 (.cond (.tmp 41) (.region [] [⟨0, (some 42), none, .mov (.tmp 9), false, []⟩,
 ⟨1, (some 7), none, .mov (.tmp 42), false, []⟩])
 .skip))
 (.seq (.seq (.region [] [⟨0, (some 43), none, .mov (.tmp 7), false, []⟩,
 ⟨1, (some 44), none, .bin .neq (.tmp 43) (.const (.v (.c (.int .i64 0)))), false, []⟩])
 (.cond (.tmp 44) (.seq (.region [] [⟨0, (some 45), none, .mov (.tmp 7), false, []⟩,
 ⟨1, (some 4), none, .mov (.const (.v (.c .nils))), false, []⟩,
 ⟨2, (some 5), none, .mov (.tmp 45), false, []⟩])
 .ret)
 .skip))
 (.seq (.region [] [⟨0, (some 46), none, .mkMap, false, []⟩,
 ⟨1, (some 10), none, .mov (.tmp 46), false, []⟩])
 (.seq (.seq (.region [] [⟨0, (some 47), none, .mov (.tmp 0), false, []⟩,
 ⟨1, (some 48), none, .bi .len [(.tmp 47)], false, []⟩,
 ⟨2, (some 49), none, .mov (.const (.v (.c (.int .i64 0)))), false, []⟩])
 (.block 0 (.loop (.seq (.region [] [⟨0, (some 50), none, .bin .lss (.tmp 49) (.tmp 48), false, []⟩])
 (.seq (.cond (.tmp 50) .skip
 (.exit 0))
 (.seq (.block 1 (.seq (.region [] [⟨0, (some 51), none, .mov (.tmp 49), false, []⟩,
 ⟨1, (some 52), none, .indexAddr 4 none (.tmp 47) (.tmp 49), false, []⟩,
 ⟨2, (some 53), none, .load (some 4) (.tmp 52), false, []⟩,
 ⟨3, (some 12), none, .alloc [(.int .i64 0), (.int .i64 0), (.int .i64 0), (.cpx (.f 0) (.f 0))], false, []⟩,
 ⟨4, (some 11), none, .mov (.tmp 51), false, []⟩,
 ⟨5, none, none, .store 4 (.tmp 12) (.tmp 53), false, []⟩])
 (.region [] [⟨0, (some 54), none, .mov (.tmp 10), false, []⟩,
 ⟨1, (some 55), none, .addr 0 (.tmp 12), false, []⟩,
 ⟨2, (some 56), none, .load (some 3) (.tmp 55), false, []⟩,
 ⟨3, (some 57), none, .mov (.tmp 11), false, []⟩,
 ⟨4, (some 58), none, .bin .add (.tmp 57) (.const (.v (.c (.int .i64 1)))), false, []⟩,
 ⟨5, none, none, .mapUpdate (some 3) (.tmp 54) (.tmp 56) (.tmp 58), false, []⟩])))
 (.region [] [⟨0, (some 59), none, .bin .add (.tmp 49) (.const (.v (.c (.int .i64 1)))), false, []⟩,
 ⟨1, (some 49), none, .mov (.tmp 59), false, []⟩])))))))
 (.seq (.region [] [⟨0, (some 13), none, .mov (.const (.v (.c .nils))), false, []⟩])
 (.seq (.seq (.region [] [⟨0, (some 60), none, .mov (.tmp 1), false, []⟩,
 ⟨1, (some 61), none, .bi .len [(.tmp 60)], false, []⟩,
 ⟨2, (some 62), none, .mov (.const (.v (.c (.int .i64 0)))), false, []⟩])
 (.block 2 (.loop (.seq (.region [] [⟨0, (some 63), none, .bin .lss (.tmp 62) (.tmp 61), false, []⟩])
 (.seq (.cond (.tmp 63) .skip
 (.exit 2))
 (.seq (.block 3 (.seq (.region [] [⟨0, (some 64), none, .indexAddr 4 none (.tmp 60) (.tmp 62), false, []⟩,
 ⟨1, (some 65), none, .load (some 4) (.tmp 64), false, []⟩,
 ⟨2, (some 15), none, .alloc [(.int .i64 0), (.int .i64 0), (.int .i64 0), (.cpx (.f 0) (.f 0))], false, []⟩,
 ⟨3, none, none, .store 4 (.tmp 15) (.tmp 65), false, []⟩])
 (.seq (.region [] [⟨0, (some 66), none, .addr 3 (.tmp 15), false, []⟩,
 ⟨1, (some 67), none, .load none (.tmp 66), false, []⟩,
 ⟨2, (some 68), none, .call (.const (.v (.c (.fn 26 [])))) [(.tmp 67)], false, []⟩,
 ⟨3, (some 16), none, .mov (.tmp 68), false, []⟩])
 (.seq (.region [] [⟨0, (some 69), none, .mov (.tmp 16), false, []⟩,
 ⟨1, (some 70), none, .bi .complex [(.tmp 69), (.const (.v (.c (.flt (.f 0)))))], false, []⟩,
 ⟨2, (some 17), none, .mov (.tmp 70), false, []⟩])
 (.seq (.seq (.region [] [⟨0, (some 71), none, .mov (.tmp 10), false, []⟩,
 ⟨1, (some 72), none, .addr 0 (.tmp 15), false, []⟩,
 ⟨2, (some 73), none, .load (some 3) (.tmp 72), false, []⟩,
 ⟨3, (some 74), none, .lookup (some 3) (.c (.int .i64 0)) (.tmp 71) (.tmp 73) false, false, []⟩,
 ⟨4, (some 18), none, .mov (.tmp 74), false, []⟩])
 (.seq (.region [] [⟨0, (some 75), none, .mov (.tmp 18), false, []⟩,
 ⟨1, (some 76), none, .bin .gtr (.tmp 75) (.const (.v (.c (.int .i64 0)))), false, []⟩])
 (.cond (.tmp 76) (.seq (.region [] [⟨0, (some 78), none, .mov (.tmp 0), false, []⟩,
 ⟨1, (some 79), none, .mov (.tmp 18), false, []⟩,
 ⟨2, (some 80), none, .bin .sub (.tmp 79) (.const (.v (.c (.int .i64 1)))), false, []⟩,
 ⟨3, (some 81), none, .indexAddr 4 none (.tmp 78) (.tmp 80), false, []⟩,
 ⟨4, (some 82), none, .addr 3 (.tmp 81), false, []⟩,
 ⟨5, (some 83), none, .load none (.tmp 82), false, []⟩,
 ⟨6, (some 84), none, .call (.const (.v (.c (.fn 27 [])))) [(.tmp 83)], false, []⟩,
 ⟨7, (some 77), none, .mov (.tmp 84), false, []⟩,
 ⟨8, (some 85), none, .extract 0 (.tmp 77), false, []⟩,
 ⟨9, (some 86), none, .extract 1 (.tmp 77), false, []⟩,
 ⟨10, (some 19), none, .mov (.tmp 85), false, []⟩,
 ⟨11, (some 20), none, .mov (.tmp 86), false, []⟩])
 (.seq (.region [] [⟨0, (some 87), none, .mov (.tmp 20), false, []⟩,
 ⟨1, (some 88), none, .bin .eql (.tmp 87) (.const (.v (.c (.int .i64 0)))), false, []⟩])
 (.cond (.tmp 88) (.region [] [⟨0, (some 89), none, .mov (.tmp 16), false, []⟩,
 ⟨1, (some 90), none, .mov (.tmp 19), false, []⟩,
 ⟨2, (some 91), none, .call (.const (.v (.c (.fn 28 [])))) [(.tmp 89), (.tmp 90)], false, []⟩,
 ⟨3, (some 17), none, .mov (.tmp 91), false, []⟩])
 .skip)))
 .skip)))
 (.region [] [⟨0, (some 92), none, .mov (.tmp 13), false, []⟩,
 ⟨1, (some 93), none, .addr 0 (.tmp 15), false, []⟩,
 ⟨2, (some 94), none, .load (some 3) (.tmp 93), false, []⟩,
 ⟨3, (some 95), none, .mov (.tmp 17), false, []⟩,
 ⟨4, (some 96), none, .build [(.int .i64 0), (.int .i64 0), (.int .i64 0), (.cpx (.f 0) (.f 0))] [(0, 3, (.tmp 94)), (3, 1, (.tmp 95))], false, []⟩,
 ⟨5, (some 97), none, .buildSlice [(.int .i64 0), (.int .i64 0), (.int .i64 0), (.cpx (.f 0) (.f 0))] [(0, 4, (.tmp 96))] 1, false, []⟩,
 ⟨6, (some 98), none, .bi (.append 4 [(.int .i64 0), (.int .i64 0), (.int .i64 0), (.cpx (.f 0) (.f 0))] 40) [(.tmp 92), (.tmp 97)], false, []⟩,
 ⟨7, (some 13), none, .mov (.tmp 98), false, []⟩]))))))
 (.region [] [⟨0, (some 99), none, .bin .add (.tmp 62) (.const (.v (.c (.int .i64 1)))), false, []⟩,
 ⟨1, (some 62), none, .mov (.tmp 99), false, []⟩])))))))
 (.seq (.region [] [⟨0, (some 100), none, .mov (.tmp 13), false, []⟩,
 ⟨1, (some 4), none, .mov (.tmp 100), false, []⟩,
 ⟨2, (some 5), none, .mov (.const (.v (.c (.int .i64 0)))), false, []⟩])
 .ret))))))))))⟩

/-- facet/facetref18.SameWaves -/
def c14 : AFun := ⟨42, [(4, none)],
 (.seq (.region [] [⟨0, (some 4), none, .mov (.const (.v (.c (.bool false)))), false, []⟩])
 (.seq (.seq (.region [] [⟨0, (some 6), none, .mov (.tmp 0), false, []⟩,
 ⟨1, (some 7), none, .bi .len [(.tmp 6)], false, []⟩,
 ⟨2, (some 8), none, .mov (.tmp 1), false, []⟩,
 ⟨3, (some 9), none, .bi .len [(.tmp 8)], false, []⟩,
 ⟨4, (some 10), none, .bin .neq (.tmp 7) (.tmp 9), false, []⟩])
 (.cond (.tmp 10) (.seq (.region [] [⟨0, (some 4), none, .mov (.const (.v (.c (.bool false)))), false, []⟩])
 .ret)
 .skip))
 (.seq (.seq (.region [] [⟨0, (some 11), none, .mov (.tmp 0), false, []⟩,
 ⟨1, (some 12), none, .bi .len [(.tmp 11)], false, []⟩,
 ⟨2, (some 13), none, .mov (.const (.v (.c (.int .i64 0)))), false, []⟩])
 (.block 0 (.loop (.seq (.region [] [⟨0, (some 14), none, .bin .lss (.tmp 13) (.tmp 12), false, []⟩])
 (.seq (.cond (.tmp 14) .skip
 (.exit 0))
 (.seq (.block 1 (.seq (.region [] [⟨0, (some 15), none, .mov (.tmp 13), false, []⟩,
 ⟨1, (some 5), none, .mov (.tmp 15), false, []⟩])
 (.seq (.region [] [⟨0, (some 16), none, .mov (.tmp 0), true, []⟩,
 ⟨1, (some 17), none, .mov (.tmp 5), true, []⟩,
 ⟨2, (some 18), none, .indexAddr 4 none (.tmp 16) (.tmp 17), true, []⟩,
 ⟨3, (some 19), none, .addr 0 (.tmp 18), true, []⟩,
 ⟨4, (some 20), none, .load (some 3) (.tmp 19), true, []⟩,
 ⟨5, (some 21), none, .mov (.tmp 1), true, []⟩,
 ⟨6, (some 22), none, .mov (.tmp 5), true, []⟩,
 ⟨7, (some 23), none, .indexAddr 4 none (.tmp 21) (.tmp 22), true, []⟩,
 ⟨8, (some 24), none, .addr 0 (.tmp 23), true, []⟩,
 ⟨9, (some 25), none, .load (some 3) (.tmp 24), true, []⟩,
 ⟨10, (some 26), none, .eqA true 3 (.tmp 20) (.tmp 25), true, []⟩,
 ⟨11, (some 27), none, .mov (.tmp 26), true, []⟩,
 ⟨12, (some 28), (some (27, false)), .mov (.tmp 0), true, []⟩,
 ⟨13, (some 29), (some (27, false)), .mov (.tmp 5), true, []⟩,
 ⟨14, (some 30), (some (27, false)), .indexAddr 4 none (.tmp 28) (.tmp 29), true, []⟩,
 ⟨15, (some 31), (some (27, false)), .addr 3 (.tmp 30), true, []⟩,
 ⟨16, (some 32), (some (27, false)), .load none (.tmp 31), true, []⟩,
 ⟨17, (some 33), (some (27, false)), .mov (.tmp 1), true, []⟩,
 ⟨18, (some 34), (some (27, false)), .mov (.tmp 5), true, []⟩,
 ⟨19, (some 35), (some (27, false)), .indexAddr 4 none (.tmp 33) (.tmp 34), true, []⟩,
 ⟨20, (some 36), (some (27, false)), .addr 3 (.tmp 35), true, []⟩,
 ⟨21, (some 37), (some (27, false)), .load none (.tmp 36), true, []⟩,
 ⟨22, (some 38), (some (27, false)), .call (.const (.v (.c (.fn 29 [])))) [(.tmp 32), (.tmp 37)], false, []⟩,
 ⟨23, (some 39), (some (27, false)), .un .not (.tmp 38), true, []⟩,
 ⟨24, (some 40), none, .pick (.tmp 27) (.const (.v (.c (.bool true)))) (.tmp 39), true, []⟩])
 (.cond (.tmp 40) (.seq (.region [] [⟨0, (some 4), none, .mov (.const (.v (.c (.bool false)))), false, []⟩])
 .ret)
 .skip))))
 (.region [] [⟨0, (some 41), none, .bin .add (.tmp 13) (.const (.v (.c (.int .i64 1)))), false, []⟩,
 ⟨1, (some 13), none, .mov (.tmp 41), false, []⟩])))))))
 (.seq (.region [] [⟨0, (some 4), none, .mov (.const (.v (.c (.bool true)))), false, []⟩])
 .ret))))⟩

/-- facet/phase.Run -/
def c15 : AFun := ⟨84, [(8, (some (some 4))), (9, none), (10, none)],
 (.seq (.region [] [⟨0, (some 5), none, .box (.tmp 1), false, []⟩,
 ⟨1, (some 8), none, .alloc [(.int .i64 0), (.int .i64 0), (.int .i64 0), .nils], false, []⟩,
 ⟨2, (some 9), none, .mov (.const (.v (.c .nils))), false, []⟩,
 ⟨3, (some 10), none, .mov (.const (.v (.c (.int .i64 0)))), false, []⟩])
 (.seq (.seq (.region [] [⟨0, (some 20), none, .mov (.tmp 0), false, []⟩,
 ⟨1, (some 21), none, .load (some 4) (.tmp 5), false, []⟩,
 ⟨2, (some 22), none, .mov (.tmp 2), false, []⟩,
 ⟨3, (some 23), none, .mov (.tmp 3), false, []⟩,
 ⟨4, (some 24), none, .call (.const (.v (.c (.fn 30 [])))) [(.tmp 20), (.tmp 21), (.tmp 22), (.tmp 23)], false, []⟩,
 ⟨5, (some 11), none, .mov (.tmp 24), false, []⟩])
 (.seq (.region [] [⟨0, (some 25), none, .mov (.tmp 11), false, []⟩,
 ⟨1, (some 26), none, .bin .neq (.tmp 25) (.const (.v (.c (.int .i64 0)))), false, []⟩])
 (.cond (.tmp 26) (.seq (.region [] [⟨0, (some 27), none, .build [(.int .i64 0), (.int .i64 0), (.int .i64 0), .nils] [], false, []⟩,
 ⟨1, (some 28), none, .mov (.tmp 11), false, []⟩,
 ⟨2, none, none, .store 4 (.tmp 8) (.tmp 27), false, []⟩,
 ⟨3, (some 9), none, .mov (.const (.v (.c .nils))), false, []⟩,
 ⟨4, (some 10), none, .mov (.tmp 28), false, []⟩])
 .ret)
 .skip)))
 (.seq (.region [] [⟨0, (some 29), none, .mov (.tmp 0), false, []⟩,
 ⟨1, (some 30), none, .mov (.tmp 2), false, []⟩,
 ⟨2, (some 31), none, .build [.nils, .nils, (.flt (.f 0)), .nilf] [(0, 1, (.tmp 29)), (2, 1, (.tmp 30)), (3, 1, (.const (.v (.c (.fn 31 [])))))], false, []⟩,
 ⟨3, (some 32), none, .box (.tmp 31), false, []⟩,
 ⟨4, (some 12), none, .mov (.tmp 32), false, []⟩])
 (.seq (.seq (.region [] [⟨0, (some 33), none, .mov (.tmp 0), false, []⟩,
 ⟨1, (some 34), none, .bi .len [(.tmp 33)], false, []⟩,
 ⟨2, (some 35), none, .mov (.const (.v (.c (.int .i64 0)))), false, []⟩])
 (.block 0 (.loop (.seq (.region [] [⟨0, (some 36), none, .bin .lss (.tmp 35) (.tmp 34), false, []⟩])
 (.seq (.cond (.tmp 36) .skip
 (.exit 0))
 (.seq (.block 1 (.seq (.region [] [⟨0, (some 37), none, .indexAddr 4 none (.tmp 33) (.tmp 35), false, []⟩,
 ⟨1, (some 38), none, .load (some 4) (.tmp 37), false, []⟩,
 ⟨2, (some 14), none, .alloc [(.int .i64 0), (.int .i64 0), (.int .i64 0), (.cpx (.f 0) (.f 0))], false, []⟩,
 ⟨3, none, none, .store 4 (.tmp 14) (.tmp 38), false, []⟩])
 (.region [] [⟨0, (some 39), none, .mov (.tmp 12), true, []⟩,
 ⟨1, (some 40), none, .mov (.tmp 12), true, []⟩,
 ⟨2, (some 41), none, .nilCheck (.tmp 40), true, []⟩,
 ⟨3, (some 42), none, .addr 1 (.tmp 41), true, []⟩,
 ⟨4, (some 43), none, .load none (.tmp 42), true, []⟩,
 ⟨5, (some 44), none, .addr 0 (.tmp 14), true, []⟩,
 ⟨6, (some 45), none, .load (some 3) (.tmp 44), true, []⟩,
 ⟨7, (some 46), none, .buildSlice [(.int .i64 0), (.int .i64 0), (.int .i64 0)] [(0, 3, (.tmp 45))] 1, false, [4]⟩,
 ⟨8, (some 47), none, .bi (.append 3 [(.int .i64 0), (.int .i64 0), (.int .i64 0)] 24) [(.tmp 43), (.tmp 46)], false, []⟩,
 ⟨9, (some 48), none, .nilCheck (.tmp 39), true, []⟩,
 ⟨10, (some 49), none, .addr 1 (.tmp 48), true, []⟩,
 ⟨11, none, none, .store 1 (.tmp 49) (.tmp 47), false, []⟩])))
 (.region [] [⟨0, (some 50), none, .bin .add (.tmp 35) (.const (.v (.c (.int .i64 1)))), false, []⟩,
 ⟨1, (some 35), none, .mov (.tmp 50), false, []⟩])))))))
 (.seq (.region [15] [⟨0, (some 51), none, .addr 0 (.tmp 5), true, []⟩,
 ⟨1, (some 52), none, .load (some 3) (.tmp 51), true, []⟩,
 ⟨3, (some 54), none, .addr 3 (.tmp 5), true, []⟩,
 ⟨4, (some 55), none, .load none (.tmp 54), true, []⟩,
 ⟨2, (some 53), none, .buildSlice [] [] 0, false, [1, 4]⟩,
 ⟨5, (some 56), none, .bi (.append 1 [(.cpx (.f 0) (.f 0))] 16) [(.tmp 53), (.tmp 55)], false, [1]⟩,
 ⟨6, (some 57), none, .build [(.int .i64 0), (.int .i64 0), (.int .i64 0), .nils] [(0, 3, (.tmp 52)), (3, 1, (.tmp 56))], true, []⟩,
 ⟨7, (some 15), none, .alloc [(.int .i64 0), (.int .i64 0), (.int .i64 0), .nils], false, []⟩,
 ⟨8, none, none, .store 4 (.tmp 15) (.tmp 57), false, []⟩])
 (.seq (.region [] [⟨0, (some 16), none, .mov (.const (.v (.c .nils))), false, []⟩])
 (.seq (.seq (.region [] [⟨0, (some 58), none, .mov (.tmp 3), false, []⟩,
 ⟨1, (some 59), none, .mov (.const (.v (.c (.int .i64 0)))), false, []⟩])
 (.block 2 (.loop (.seq (.region [] [⟨0, (some 60), none, .bin .lss (.tmp 59) (.tmp 58), false, []⟩])
 (.seq (.cond (.tmp 60) .skip
 (.exit 2))
 (.seq (.block 3 (.seq (.region [17] [⟨0, (some 62), none, .mov (.tmp 12), true, []⟩,
 ⟨1, (some 63), none, .nilCheck (.tmp 62), true, []⟩,
 ⟨2, (some 64), none, .addr 3 (.tmp 63), true, []⟩,
 ⟨3, (some 65), none, .load none (.tmp 64), true, []⟩,
 ⟨4, (some 66), none, .mov (.tmp 12), true, []⟩,
 ⟨5, (some 67), none, .load (some 4) (.tmp 15), true, []⟩,
 ⟨6, (some 68), none, .call (.tmp 65) [(.tmp 66), (.tmp 67)], false, []⟩,
 ⟨7, (some 61), none, .mov (.tmp 68), true, []⟩,
 ⟨8, (some 69), none, .extract 0 (.tmp 61), true, []⟩,
 ⟨9, (some 70), none, .extract 1 (.tmp 61), true, []⟩,
 ⟨10, (some 71), none, .extract 2 (.tmp 61), true, []⟩,
 ⟨11, (some 17), none, .alloc [(.int .i64 0), (.int .i64 0), (.int .i64 0), .nils], false, []⟩,
 ⟨12, none, none, .store 4 (.tmp 17) (.tmp 69), false, []⟩,
 ⟨13, (some 18), none, .mov (.tmp 70), true, []⟩,
 ⟨14, (some 19), none, .mov (.tmp 71), true, []⟩])
 (.seq (.seq (.region [] [⟨0, (some 72), none, .mov (.tmp 19), false, []⟩,
 ⟨1, (some 73), none, .bin .neq (.tmp 72) (.const (.v (.c (.int .i64 0)))), false, []⟩])
 (.cond (.tmp 73) (.seq (.region [] [⟨0, (some 74), none, .build [(.int .i64 0), (.int .i64 0), (.int .i64 0), .nils] [], false, []⟩,
 ⟨1, (some 75), none, .mov (.tmp 19), false, []⟩,
 ⟨2, none, none, .store 4 (.tmp 8) (.tmp 74), false, []⟩,
 ⟨3, (some 9), none, .mov (.const (.v (.c .nils))), false, []⟩,
 ⟨4, (some 10), none, .mov (.tmp 75), false, []⟩])
 .ret)
 .skip))
 (.region [] [⟨0, (some 76), none, .load (some 4) (.tmp 17), true, []⟩,
 ⟨1, (some 77), none, .mov (.tmp 16), true, []⟩,
 ⟨2, (some 78), none, .mov (.tmp 18), true, []⟩,
 ⟨3, (some 79), none, .buildSlice [(.flt (.f 0))] [(0, 1, (.tmp 78))] 1, false, [0]⟩,
 ⟨4, (some 80), none, .bi (.append 1 [(.flt (.f 0))] 8) [(.tmp 77), (.tmp 79)], false, [0]⟩,
 ⟨5, none, none, .store 4 (.tmp 15) (.tmp 76), false, []⟩,
 ⟨6, (some 16), none, .mov (.tmp 80), true, []⟩]))))
 (.region [] [⟨0, (some 81), none, .bin .add (.tmp 59) (.const (.v (.c (.int .i64 1)))), false, []⟩,
 ⟨1, (some 59), none, .mov (.tmp 81), false, []⟩])))))))
 (.seq (.region [] [⟨0, (some 82), none, .load (some 4) (.tmp 15), false, []⟩,
 ⟨1, (some 83), none, .mov (.tmp 16), false, []⟩,
 ⟨2, none, none, .store 4 (.tmp 8) (.tmp 82), false, []⟩,
 ⟨3, (some 9), none, .mov (.tmp 83), false, []⟩,
 ⟨4, (some 10), none, .mov (.const (.v (.c (.int .i64 0)))), false, []⟩])
 .ret))))))))⟩

/-- facet/phase.Move -/
def c16 : AFun := ⟨64, [(4, none), (5, none)],
 (.seq (.region [] [⟨0, (some 3), none, .box (.tmp 1), false, []⟩,
 ⟨1, (some 4), none, .mov (.const (.v (.c .nils))), false, []⟩,
 ⟨2, (some 5), none, .mov (.const (.v (.c (.int .i64 0)))), false, []⟩])
 (.seq (.seq (.region [] [⟨0, (some 16), none, .mov (.tmp 0), false, []⟩,
 ⟨1, (some 17), none, .call (.const (.v (.c (.fn 17 [])))) [(.tmp 16)], false, []⟩,
 ⟨2, (some 15), none, .mov (.tmp 17), false, []⟩,
 ⟨3, (some 18), none, .extract 0 (.tmp 15), false, []⟩,
 ⟨4, (some 19), none, .extract 1 (.tmp 15), false, []⟩,
 ⟨5, (some 6), none, .mov (.tmp 18), false, []⟩,
 ⟨6, (some 7), none, .mov (.tmp 19), false, []⟩])
 (.seq (.region [] [⟨0, (some 20), none, .mov (.tmp 7), false, []⟩,
 ⟨1, (some 21), none, .bin .neq (.tmp 20) (.const (.v (.c (.int .i64 0)))), false, []⟩])
 (.cond (.tmp 21) (.seq (.region [] [⟨0, (some 22), none, .mov (.tmp 7), false, []⟩,
 ⟨1, (some 4), none, .mov (.const (.v (.c .nils))), false, []⟩,
 ⟨2, (some 5), none, .mov (.tmp 22), false, []⟩])
 .ret)
 .skip)))
 (.seq (.region [] [⟨0, (some 8), none, .mov (.const (.v (.c .nils))), false, []⟩])
 (.seq (.seq (.region [] [⟨0, (some 23), none, .mov (.tmp 0), false, []⟩,
 ⟨1, (some 24), none, .bi .len [(.tmp 23)], false, []⟩,
 ⟨2, (some 25), none, .mov (.const (.v (.c (.int .i64 0)))), false, []⟩])
 (.block 0 (.loop (.seq (.region [] [⟨0, (some 26), none, .bin .lss (.tmp 25) (.tmp 24), false, []⟩])
 (.seq (.cond (.tmp 26) .skip
 (.exit 0))
 (.seq (.block 1 (.seq (.region [] [⟨0, (some 27), none, .indexAddr 4 none (.tmp 23) (.tmp 25), false, []⟩,
 ⟨1, (some 28), none, .load (some 4) (.tmp 27), false, []⟩,
 ⟨2, (some 10), none, .alloc [(.int .i64 0), (.int .i64 0), (.int .i64 0), (.cpx (.f 0) (.f 0))], false, []⟩,
 ⟨3, none, none, .store 4 (.tmp 10) (.tmp 28), false, []⟩])
 (.seq (.region [] [⟨0, (some 11), none, .mov (.const (.v (.c (.int .i64 0)))), false, []⟩])
 (.seq (.seq (.region [] [⟨0, (some 29), none, .mov (.const (.v (.c (.int .i64 0)))), false, []⟩])
 (.block 2 (.loop (.seq (.region [] [⟨0, (some 30), none, .bin .lss (.tmp 29) (.const (.v (.c (.int .i64 3)))), false, []⟩])
 (.seq (.cond (.tmp 30) .skip
 (.exit 2))
 (.seq (.block 3 (.seq (.region [] [⟨0, (some 31), none, .mov (.tmp 29), false, []⟩,
 ⟨1, (some 12), none, .mov (.tmp 31), false, []⟩])
 (.region [] [⟨0, (some 32), none, .mov (.tmp 11), true, []⟩,
 ⟨1, (some 33), none, .mov (.tmp 12), true, []⟩,
 ⟨2, (some 34), none, .addr 0 (.tmp 10), true, []⟩,
 ⟨3, (some 35), none, .indexAddr 1 (some 3) (.tmp 34) (.tmp 33), true, []⟩,
 ⟨4, (some 36), none, .load none (.tmp 35), true, []⟩,
 ⟨5, (some 37), none, .mov (.tmp 12), true, []⟩,
 ⟨6, (some 38), none, .indexAddr 1 (some 3) (.tmp 3) (.tmp 37), true, []⟩,
 ⟨7, (some 39), none, .load none (.tmp 38), true, []⟩,
 ⟨8, (some 40), none, .bin .rem (.tmp 39) (.const (.v (.c (.int .i64 24)))), true, []⟩,
 ⟨9, (some 41), none, .bin .mul (.tmp 36) (.tmp 40), true, []⟩,
 ⟨10, (some 42), none, .bin .add (.tmp 32) (.tmp 41), true, []⟩,
 ⟨11, (some 11), none, .mov (.tmp 42), true, []⟩])))
 (.region [] [⟨0, (some 43), none, .bin .add (.tmp 29) (.const (.v (.c (.int .i64 1)))), false, []⟩,
 ⟨1, (some 29), none, .mov (.tmp 43), false, []⟩])))))))
 (.seq (.region [] [⟨0, (some 45), none, .mov (.tmp 11), false, []⟩,
 ⟨1, (some 46), none, .call (.const (.v (.c (.fn 32 [])))) [(.tmp 45), (.const (.v (.c (.int .i64 24))))], false, []⟩,
 ⟨2, (some 44), none, .mov (.tmp 46), false, []⟩,
 ⟨3, (some 47), none, .extract 0 (.tmp 44), false, []⟩,
 ⟨4, (some 48), none, .extract 1 (.tmp 44), false, []⟩,
 ⟨5, (some 13), none, .mov (.tmp 47), false, []⟩,
 ⟨6, (some 14), none, .mov (.tmp 48), false, []⟩])
 (.seq (.seq (.region [] [⟨0, (some 49), none, .mov (.tmp 14), false, []⟩,
 ⟨1, (some 50), none, .bin .neq (.tmp 49) (.const (.v (.c (.int .i64 0)))), false, []⟩])
 (.cond (.tmp 50) (.seq (.region [] [⟨0, (some 51), none, .mov (.tmp 14), false, []⟩,
 ⟨1, (some 4), none, .mov (.const (.v (.c .nils))), false, []⟩,
 ⟨2, (some 5), none, .mov (.tmp 51), false, []⟩])
 .ret)
 .skip))
 (.region [] [⟨0, (some 52), none, .mov (.tmp 8), true, []⟩,
 ⟨1, (some 53), none, .addr 0 (.tmp 10), true, []⟩,
 ⟨2, (some 54), none, .load (some 3) (.tmp 53), true, []⟩,
 ⟨3, (some 55), none, .addr 3 (.tmp 10), true, []⟩,
 ⟨4, (some 56), none, .load none (.tmp 55), true, []⟩,
 ⟨5, (some 57), none, .mov (.tmp 13), true, []⟩,
 ⟨6, (some 58), none, .call (.const (.v (.c (.fn 20 [])))) [(.tmp 56), (.tmp 57)], false, [2]⟩,
 ⟨7, (some 59), none, .build [(.int .i64 0), (.int .i64 0), (.int .i64 0), (.cpx (.f 0) (.f 0))] [(0, 3, (.tmp 54)), (3, 1, (.tmp 58))], true, []⟩,
 ⟨8, (some 60), none, .buildSlice [(.int .i64 0), (.int .i64 0), (.int .i64 0), (.cpx (.f 0) (.f 0))] [(0, 4, (.tmp 59))] 1, false, []⟩,
 ⟨9, (some 61), none, .bi (.append 4 [(.int .i64 0), (.int .i64 0), (.int .i64 0), (.cpx (.f 0) (.f 0))] 40) [(.tmp 52), (.tmp 60)], false, []⟩,
 ⟨10, (some 8), none, .mov (.tmp 61), true, []⟩])))))))
 (.region [] [⟨0, (some 62), none, .bin .add (.tmp 25) (.const (.v (.c (.int .i64 1)))), false, []⟩,
 ⟨1, (some 25), none, .mov (.tmp 62), false, []⟩])))))))
 (.seq (.region [] [⟨0, (some 63), none, .mov (.tmp 8), false, []⟩,
 ⟨1, (some 4), none, .mov (.tmp 63), false, []⟩,
 ⟨2, (some 5), none, .mov (.const (.v (.c (.int .i64 0)))), false, []⟩])
 .ret)))))⟩

/-- facet/pairs.Order -/
def c17 : AFun := ⟨12, [(2, none), (3, none)],
 (.seq (.region [] [⟨0, (some 2), none, .mov (.const (.v (.c .nils))), false, []⟩,
 ⟨1, (some 3), none, .mov (.const (.v (.c (.int .i64 0)))), false, []⟩])
 (.seq (.seq (.region [] [⟨0, (some 5), none, .mov (.tmp 0), false, []⟩,
 ⟨1, (some 6), none, .call (.const (.v (.c (.fn 33 [])))) [(.tmp 5)], false, []⟩,
 ⟨2, (some 4), none, .mov (.tmp 6), false, []⟩])
 (.seq (.region [] [⟨0, (some 7), none, .mov (.tmp 4), false, []⟩,
 ⟨1, (some 8), none, .bin .neq (.tmp 7) (.const (.v (.c (.int .i64 0)))), false, []⟩])
 (.cond (.tmp 8) (.seq (.region [] [⟨0, (some 9), none, .mov (.tmp 4), false, []⟩,
 ⟨1, (some 2), none, .mov (.const (.v (.c .nils))), false, []⟩,
 ⟨2, (some 3), none, .mov (.tmp 9), false, []⟩])
 .ret)
 .skip)))
 (.seq (.region [] [⟨0, (some 10), none, .mov (.tmp 0), false, []⟩,
 ⟨1, (some 11), none, .call (.const (.v (.c (.fn 34 [])))) [(.tmp 10)], false, []⟩,
 ⟨2, (some 2), none, .mov (.tmp 11), false, []⟩,
 ⟨3, (some 3), none, .mov (.const (.v (.c (.int .i64 0)))), false, []⟩])
 .ret)))⟩

/-- facet/phase.far -/
def c18 : AFun := ⟨16, [(2, none)],
 (.seq (.region [] [⟨0, (some 1), none, .box (.tmp 0), false, []⟩,
 ⟨1, (some 2), none, .mov (.const (.v (.c (.bool false)))), false, []⟩])
 (.seq (.seq (.region [] [⟨0, (some 5), none, .load (some 3) (.tmp 1), false, []⟩,
 ⟨1, (some 6), none, .mov (.const (.v (.c (.int .i64 0)))), false, []⟩])
 (.block 0 (.loop (.seq (.region [] [⟨0, (some 7), none, .bin .lss (.tmp 6) (.const (.v (.c (.int .i64 3)))), false, []⟩])
 (.seq (.cond (.tmp 7) .skip
 (.exit 0))
 (.seq (.block 1 (.seq (.region [] [⟨0, (some 8), none, .index none 1 3 (.tmp 5) (.tmp 6), false, []⟩,
 ⟨1, (some 4), none, .mov (.tmp 8), false, []⟩])
 (.seq (.region [] [⟨0, (some 9), none, .mov (.tmp 4), false, []⟩,
 ⟨1, (some 10), none, .bin .lss (.tmp 9) (.const (.v (.c (.int .i64 (-512))))), false, []⟩,
 ⟨2, (some 11), none, .mov (.tmp 10), false, []⟩,
 ⟨3, (some 12), (some (11, false)), .mov (.tmp 4), false, []⟩,
 ⟨4, (some 13), (some (11, false)), .bin .gtr (.tmp 12) (.const (.v (.c (.int .i64 512)))), false, []⟩,
 ⟨5, (some 14), none, .pick (.tmp 11) (.const (.v (.c (.bool true)))) (.tmp 13), false, []⟩])
 (.cond (.tmp 14) (.seq (.region [] [⟨0, (some 2), none, .mov (.const (.v (.c (.bool true)))), false, []⟩])
 .ret)
 .skip))))
 (.region [] [⟨0, (some 15), none, .bin .add (.tmp 6) (.const (.v (.c (.int .i64 1)))), false, []⟩,
 ⟨1, (some 6), none, .mov (.tmp 15), false, []⟩])))))))
 (.seq (.region [] [⟨0, (some 2), none, .mov (.const (.v (.c (.bool false)))), false, []⟩])
 .ret)))⟩

/-- facet/phase.three -/
def c19 : AFun := ⟨61, [(6, (some (some 3))), (7, none)],
 (.seq (.region [] [⟨0, (some 4), none, .box (.tmp 1), false, []⟩,
 ⟨1, (some 5), none, .box (.tmp 2), false, []⟩,
 ⟨2, (some 6), none, .alloc [(.cpx (.f 0) (.f 0)), (.cpx (.f 0) (.f 0)), (.cpx (.f 0) (.f 0))], false, []⟩,
 ⟨3, (some 7), none, .mov (.const (.v (.c (.bool false)))), false, []⟩])
 (.seq (.region [] [⟨0, (some 8), none, .alloc [(.cpx (.f 0) (.f 0)), (.cpx (.f 0) (.f 0)), (.cpx (.f 0) (.f 0))], false, []⟩])
 (.seq (.region [] [⟨0, (some 9), none, .mov (.const (.v (.c (.int .i64 0)))), false, []⟩])
 (.seq (.seq (.region [] [⟨0, (some 14), none, .load (some 3) (.tmp 4), false, []⟩,
 ⟨1, (some 15), none, .load (some 3) (.tmp 5), false, []⟩,
 ⟨2, (some 16), none, .indexAddr 1 (some 3) (.tmp 4) (.const (.v (.c (.int .i64 0)))), false, []⟩,
 ⟨3, (some 17), none, .load none (.tmp 16), false, []⟩,
 ⟨4, (some 18), none, .un .neg (.tmp 17), false, []⟩,
 ⟨5, (some 19), none, .indexAddr 1 (some 3) (.tmp 5) (.const (.v (.c (.int .i64 0)))), false, []⟩,
 ⟨6, (some 20), none, .load none (.tmp 19), false, []⟩,
 ⟨7, (some 21), none, .bin .sub (.tmp 18) (.tmp 20), false, []⟩,
 ⟨8, (some 22), none, .indexAddr 1 (some 3) (.tmp 4) (.const (.v (.c (.int .i64 1)))), false, []⟩,
 ⟨9, (some 23), none, .load none (.tmp 22), false, []⟩,
 ⟨10, (some 24), none, .un .neg (.tmp 23), false, []⟩,
 ⟨11, (some 25), none, .indexAddr 1 (some 3) (.tmp 5) (.const (.v (.c (.int .i64 1)))), false, []⟩,
 ⟨12, (some 26), none, .load none (.tmp 25), false, []⟩,
 ⟨13, (some 27), none, .bin .sub (.tmp 24) (.tmp 26), false, []⟩,
 ⟨14, (some 28), none, .indexAddr 1 (some 3) (.tmp 4) (.const (.v (.c (.int .i64 2)))), false, []⟩,
 ⟨15, (some 29), none, .load none (.tmp 28), false, []⟩,
 ⟨16, (some 30), none, .un .neg (.tmp 29), false, []⟩,
 ⟨17, (some 31), none, .indexAddr 1 (some 3) (.tmp 5) (.const (.v (.c (.int .i64 2)))), false, []⟩,
 ⟨18, (some 32), none, .load none (.tmp 31), false, []⟩,
 ⟨19, (some 33), none, .bin .sub (.tmp 30) (.tmp 32), false, []⟩,
 ⟨20, (some 34), none, .build [(.int .i64 0), (.int .i64 0), (.int .i64 0)] [(0, 1, (.tmp 21)), (1, 1, (.tmp 27)), (2, 1, (.tmp 33))], false, []⟩,
 ⟨21, (some 35), none, .build [(.int .i64 0), (.int .i64 0), (.int .i64 0), (.int .i64 0), (.int .i64 0), (.int .i64 0), (.int .i64 0), (.int .i64 0), (.int .i64 0)] [(0, 3, (.tmp 14)), (3, 3, (.tmp 15)), (6, 3, (.tmp 34))], false, []⟩,
 ⟨22, (some 36), none, .mov (.const (.v (.c (.int .i64 0)))), false, []⟩])
 (.block 0 (.loop (.seq (.region [] [⟨0, (some 37), none, .bin .lss (.tmp 36) (.const (.v (.c (.int .i64 3)))), false, []⟩])
 (.seq (.cond (.tmp 37) .skip
 (.exit 0))
 (.seq (.block 1 (.seq (.region [] [⟨0, (some 38), none, .mov (.tmp 36), false, []⟩,
 ⟨1, (some 39), none, .index (some 3) 3 3 (.tmp 35) (.tmp 36), false, []⟩,
 ⟨2, (some 11), none, .alloc [(.int .i64 0), (.int .i64 0), (.int .i64 0)], false, []⟩,
 ⟨3, (some 10), none, .mov (.tmp 38), false, []⟩,
 ⟨4, none, none, .store 3 (.tmp 11) (.tmp 39), false, []⟩])
 (.seq (.region [] [⟨0, (some 40), none, .mov (.tmp 0), false, []⟩,
 ⟨1, (some 41), none, .bi .len [(.tmp 40)], false, []⟩,
 ⟨2, (some 42), none, .mov (.const (.v (.c (.int .i64 0)))), false, []⟩])
 (.block 2 (.loop (.seq (.region [] [⟨0, (some 43), none, .bin .lss (.tmp 42) (.tmp 41), false, []⟩])
 (.seq (.cond (.tmp 43) .skip
 (.exit 2))
 (.seq (.block 3 (.seq (.region [] [⟨0, (some 44), none, .indexAddr 4 none (.tmp 40) (.tmp 42), false, []⟩,
 ⟨1, (some 45), none, .load (some 4) (.tmp 44), false, []⟩,
 ⟨2, (some 13), none, .alloc [(.int .i64 0), (.int .i64 0), (.int .i64 0), (.cpx (.f 0) (.f 0))], false, []⟩,
 ⟨3, none, none, .store 4 (.tmp 13) (.tmp 45), false, []⟩])
 (.seq (.region [] [⟨0, (some 46), none, .addr 0 (.tmp 13), false, []⟩,
 ⟨1, (some 47), none, .load (some 3) (.tmp 46), false, []⟩,
 ⟨2, (some 48), none, .load (some 3) (.tmp 11), false, []⟩,
 ⟨3, (some 49), none, .eqA false 3 (.tmp 47) (.tmp 48), false, []⟩])
 (.cond (.tmp 49) (.seq (.region [] [⟨0, (some 50), none, .mov (.tmp 10), false, []⟩,
 ⟨1, (some 51), none, .addr 3 (.tmp 13), false, []⟩,
 ⟨2, (some 52), none, .load none (.tmp 51), false, []⟩,
 ⟨3, (some 53), none, .indexAddr 1 (some 3) (.tmp 8) (.tmp 50), false, []⟩,
 ⟨4, none, none, .store 1 (.tmp 53) (.tmp 52), false, []⟩])
 (.seq (.region [] [⟨0, (some 54), none, .mov (.tmp 9), false, []⟩,
 ⟨1, (some 55), none, .bin .add (.tmp 54) (.const (.v (.c (.int .i64 1)))), false, []⟩,
 ⟨2, (some 9), none, .mov (.tmp 55), false, []⟩])
 (.exit 2)))
 .skip))))
 (.region [] [⟨0, (some 56), none, .bin .add (.tmp 42) (.const (.v (.c (.int .i64 1)))), false, []⟩,
 ⟨1, (some 42), none, .mov (.tmp 56), false, []⟩])))))))))
 (.region [] [⟨0, (some 57), none, .bin .add (.tmp 36) (.const (.v (.c (.int .i64 1)))), false, []⟩,
 ⟨1, (some 36), none, .mov (.tmp 57), false, []⟩])))))))
 (.seq (.region [] [⟨0, (some 58), none, .load (some 3) (.tmp 8), false, []⟩,
 ⟨1, (some 59), none, .mov (.tmp 9), false, []⟩,
 ⟨2, (some 60), none, .bin .lss (.tmp 59) (.const (.v (.c (.int .i64 3)))), false, []⟩,
 ⟨3, none, none, .store 3 (.tmp 6) (.tmp 58), false, []⟩,
 ⟨4, (some 7), none, .mov (.tmp 60), false, []⟩])
 .ret)))))⟩

/-- facet/cplx.Mul -/
def c20 : AFun := ⟨32, [(4, none)],
 (.seq (.region [] [⟨0, (some 4), none, .mov (.const (.v (.c (.cpx (.f 0) (.f 0))))), false, []⟩])
 (.seq (.region [] [⟨0, (some 9), none, .mov (.tmp 0), false, []⟩,
 ⟨1, (some 10), none, .bi .real [(.tmp 9)], false, []⟩,
 ⟨2, (some 11), none, .mov (.tmp 0), false, []⟩,
 ⟨3, (some 12), none, .bi .imag [(.tmp 11)], false, []⟩,
 ⟨4, (some 13), none, .mov (.tmp 1), false, []⟩,
 ⟨5, (some 14), none, .bi .real [(.tmp 13)], false, []⟩,
 ⟨6, (some 15), none, .mov (.tmp 1), false, []⟩,
 ⟨7, (some 16), none, .bi .imag [(.tmp 15)], false, []⟩,
 ⟨8, (some 5), none, .mov (.tmp 10), false, []⟩,
 ⟨9, (some 6), none, .mov (.tmp 12), false, []⟩,
 ⟨10, (some 7), none, .mov (.tmp 14), false, []⟩,
 ⟨11, (some 8), none, .mov (.tmp 16), false, []⟩])
 (.seq (.region [] [⟨0, (some 17), none, .mov (.tmp 5), false, []⟩,
 ⟨1, (some 18), none, .mov (.tmp 7), false, []⟩,
 ⟨2, (some 19), none, .bin .mul (.tmp 17) (.tmp 18), false, []⟩,
 ⟨3, (some 20), none, .mov (.tmp 6), false, []⟩,
 ⟨4, (some 21), none, .mov (.tmp 8), false, []⟩,
 ⟨5, (some 22), none, .bin .mul (.tmp 20) (.tmp 21), false, []⟩,
 ⟨6, (some 23), none, .bin .sub (.tmp 19) (.tmp 22), false, []⟩,
 ⟨7, (some 24), none, .mov (.tmp 5), false, []⟩,
 ⟨8, (some 25), none, .mov (.tmp 8), false, []⟩,
 ⟨9, (some 26), none, .bin .mul (.tmp 24) (.tmp 25), false, []⟩,
 ⟨10, (some 27), none, .mov (.tmp 6), false, []⟩,
 ⟨11, (some 28), none, .mov (.tmp 7), false, []⟩,
 ⟨12, (some 29), none, .bin .mul (.tmp 27) (.tmp 28), false, []⟩,
 ⟨13, (some 30), none, .bin .add (.tmp 26) (.tmp 29), false, []⟩,
 ⟨14, (some 31), none, .bi .complex [(.tmp 23), (.tmp 30)], false, []⟩,
 ⟨15, (some 4), none, .mov (.tmp 31), false, []⟩])
 .ret)))⟩

/-- facet/phase.grid -/
def c23 : AFun := ⟨38, [(2, none)],
 (.seq (.region [] [⟨0, (some 1), none, .box (.tmp 0), false, []⟩,
 ⟨1, (some 2), none, .mov (.const (.v (.c (.int .i64 0)))), false, []⟩])
 (.seq (.seq (.region [] [⟨0, (some 6), none, .addr 0 (.tmp 1), false, []⟩,
 ⟨1, (some 7), none, .load (some 3) (.tmp 6), false, []⟩,
 ⟨2, (some 8), none, .mov (.const (.v (.c (.int .i64 0)))), false, []⟩])
 (.block 0 (.loop (.seq (.region [] [⟨0, (some 9), none, .bin .lss (.tmp 8) (.const (.v (.c (.int .i64 3)))), false, []⟩])
 (.seq (.cond (.tmp 9) .skip
 (.exit 0))
 (.seq (.block 1 (.seq (.region [] [⟨0, (some 10), none, .index none 1 3 (.tmp 7) (.tmp 8), false, []⟩,
 ⟨1, (some 4), none, .mov (.tmp 10), false, []⟩])
 (.seq (.region [] [⟨0, (some 11), none, .mov (.tmp 4), false, []⟩,
 ⟨1, (some 12), none, .bin .lss (.tmp 11) (.const (.v (.c (.int .i64 1)))), false, []⟩,
 ⟨2, (some 13), none, .mov (.tmp 12), false, []⟩,
 ⟨3, (some 14), (some (13, false)), .mov (.tmp 4), false, []⟩,
 ⟨4, (some 15), (some (13, false)), .bin .gtr (.tmp 14) (.const (.v (.c (.int .i64 192)))), false, []⟩,
 ⟨5, (some 16), none, .pick (.tmp 13) (.const (.v (.c (.bool true)))) (.tmp 15), false, []⟩])
 (.cond (.tmp 16) (.seq (.region [] [⟨0, (some 2), none, .mov (.const (.v (.c (.int .i64 1)))), false, []⟩])
 .ret)
 .skip))))
 (.region [] [⟨0, (some 17), none, .bin .add (.tmp 8) (.const (.v (.c (.int .i64 1)))), false, []⟩,
 ⟨1, (some 8), none, .mov (.tmp 17), false, []⟩])))))))
 (.seq (.seq (.region [] [⟨0, (some 18), none, .addr 0 (.tmp 1), false, []⟩,
 ⟨1, (some 19), none, .indexAddr 1 (some 3) (.tmp 18) (.const (.v (.c (.int .i64 0)))), false, []⟩,
 ⟨2, (some 20), none, .load none (.tmp 19), false, []⟩,
 ⟨3, (some 21), none, .addr 0 (.tmp 1), false, []⟩,
 ⟨4, (some 22), none, .indexAddr 1 (some 3) (.tmp 21) (.const (.v (.c (.int .i64 1)))), false, []⟩,
 ⟨5, (some 23), none, .load none (.tmp 22), false, []⟩,
 ⟨6, (some 24), none, .bin .mul (.tmp 20) (.tmp 23), false, []⟩,
 ⟨7, (some 25), none, .addr 0 (.tmp 1), false, []⟩,
 ⟨8, (some 26), none, .indexAddr 1 (some 3) (.tmp 25) (.const (.v (.c (.int .i64 2)))), false, []⟩,
 ⟨9, (some 27), none, .load none (.tmp 26), false, []⟩,
 ⟨10, (some 28), none, .bin .mul (.tmp 24) (.tmp 27), false, []⟩,
 ⟨11, (some 5), none, .mov (.tmp 28), false, []⟩])
 (.block 2 (.seq (.region [] [⟨0, (some 30), none, .mov (.tmp 5), false, []⟩,
 ⟨1, (some 31), none, .bin .gtr (.tmp 30) (.const (.v (.c (.int .i64 262144)))), false, []⟩,
 ⟨2, (some 29), none, .mov (.tmp 31), false, []⟩])
 (.cond (.tmp 29) (.seq (.region [] [⟨0, (some 2), none, .mov (.const (.v (.c (.int .i64 2)))), false, []⟩])
 .ret)
 (.seq (.region [] [⟨0, (some 33), none, .mov (.tmp 5), false, []⟩,
 ⟨1, (some 34), none, .addr 3 (.tmp 1), false, []⟩,
 ⟨2, (some 35), none, .load none (.tmp 34), false, []⟩,
 ⟨3, (some 36), none, .bi .len [(.tmp 35)], false, []⟩,
 ⟨4, (some 37), none, .bin .neq (.tmp 33) (.tmp 36), false, []⟩,
 ⟨5, (some 32), none, .mov (.tmp 37), false, []⟩])
 (.cond (.tmp 32) (.seq (.region [] [⟨0, (some 2), none, .mov (.const (.v (.c (.int .i64 3)))), false, []⟩])
 .ret)
 .skip))))))
 (.seq (.region [] [⟨0, (some 2), none, .mov (.const (.v (.c (.int .i64 0)))), false, []⟩])
 .ret))))⟩

/-- facet/phase.flip -/
def c24 : AFun := ⟨39, [(4, (some (some 4)))],
 (.seq (.region [] [⟨0, (some 2), none, .box (.tmp 0), false, []⟩,
 ⟨1, (some 4), none, .alloc [(.int .i64 0), (.int .i64 0), (.int .i64 0), .nils], false, []⟩])
 (.seq (.region [5] [⟨0, (some 9), none, .addr 0 (.tmp 2), true, []⟩,
 ⟨1, (some 10), none, .load (some 3) (.tmp 9), true, []⟩,
 ⟨2, (some 11), none, .addr 3 (.tmp 2), true, []⟩,
 ⟨3, (some 12), none, .load none (.tmp 11), true, []⟩,
 ⟨4, (some 13), none, .bi .len [(.tmp 12)], true, []⟩,
 ⟨5, (some 14), none, .mkSlice 1 [(.cpx (.f 0) (.f 0))] 16 (.tmp 13) (.tmp 13), false, [1]⟩,
 ⟨6, (some 15), none, .build [(.int .i64 0), (.int .i64 0), (.int .i64 0), .nils] [(0, 3, (.tmp 10)), (3, 1, (.tmp 14))], true, []⟩,
 ⟨7, (some 5), none, .alloc [(.int .i64 0), (.int .i64 0), (.int .i64 0), .nils], false, []⟩,
 ⟨8, none, none, .store 4 (.tmp 5) (.tmp 15), false, []⟩])
 (.seq (.seq (.region [] [⟨0, (some 16), none, .addr 3 (.tmp 2), false, []⟩,
 ⟨1, (some 17), none, .load none (.tmp 16), false, []⟩,
 ⟨2, (some 18), none, .bi .len [(.tmp 17)], false, []⟩,
 ⟨3, (some 19), none, .mov (.const (.v (.c (.int .i64 0)))), false, []⟩])
 (.block 0 (.loop (.seq (.region [] [⟨0, (some 20), none, .bin .lss (.tmp 19) (.tmp 18), false, []⟩])
 (.seq (.cond (.tmp 20) .skip
 (.exit 0))
 (.seq (.block 1 (.seq (.region [] [⟨0, (some 21), none, .mov (.tmp 19), false, []⟩,
 ⟨1, (some 22), none, .indexAddr 1 none (.tmp 17) (.tmp 19), false, []⟩,
 ⟨2, (some 23), none, .load none (.tmp 22), false, []⟩,
 ⟨3, (some 6), none, .mov (.tmp 21), false, []⟩,
 ⟨4, (some 7), none, .mov (.tmp 23), false, []⟩])
 (.seq (.region [] [⟨0, (some 24), none, .mov (.tmp 7), false, []⟩,
 ⟨1, (some 25), none, .bi .real [(.tmp 24)], false, []⟩,
 ⟨2, (some 8), none, .mov (.tmp 25), false, []⟩])
 (.seq (.seq (.region [] [⟨0, (some 26), none, .mov (.tmp 8), false, []⟩,
 ⟨1, (some 27), none, .mov (.tmp 1), false, []⟩,
 ⟨2, (some 28), none, .bin .lss (.tmp 26) (.tmp 27), false, []⟩])
 (.cond (.tmp 28) (.region [] [⟨0, (some 29), none, .mov (.tmp 8), false, []⟩,
 ⟨1, (some 30), none, .un .neg (.tmp 29), false, []⟩,
 ⟨2, (some 8), none, .mov (.tmp 30), false, []⟩])
 .skip))
 (.region [] [⟨0, (some 31), none, .addr 3 (.tmp 5), false, []⟩,
 ⟨1, (some 32), none, .load none (.tmp 31), false, []⟩,
 ⟨2, (some 33), none, .mov (.tmp 6), false, []⟩,
 ⟨3, (some 34), none, .mov (.tmp 8), false, []⟩,
 ⟨4, (some 35), none, .bi .complex [(.tmp 34), (.const (.v (.c (.flt (.f 0)))))], false, []⟩,
 ⟨5, (some 36), none, .indexAddr 1 none (.tmp 32) (.tmp 33), false, []⟩,
 ⟨6, none, none, .store 1 (.tmp 36) (.tmp 35), false, []⟩])))))
 (.region [] [⟨0, (some 37), none, .bin .add (.tmp 19) (.const (.v (.c (.int .i64 1)))), false, []⟩,
 ⟨1, (some 19), none, .mov (.tmp 37), false, []⟩])))))))
 (.seq (.region [] [⟨0, (some 38), none, .load (some 4) (.tmp 5), false, []⟩,
 ⟨1, none, none, .store 4 (.tmp 4) (.tmp 38), false, []⟩])
 .ret))))⟩

/-- facet/facetref17.SameAll -/
def c25 : AFun := ⟨27, [(4, none)],
 (.seq (.region [] [⟨0, (some 4), none, .mov (.const (.v (.c (.bool false)))), false, []⟩])
 (.seq (.seq (.region [] [⟨0, (some 6), none, .mov (.tmp 0), false, []⟩,
 ⟨1, (some 7), none, .bi .len [(.tmp 6)], false, []⟩,
 ⟨2, (some 8), none, .mov (.tmp 1), false, []⟩,
 ⟨3, (some 9), none, .bi .len [(.tmp 8)], false, []⟩,
 ⟨4, (some 10), none, .bin .neq (.tmp 7) (.tmp 9), false, []⟩])
 (.cond (.tmp 10) (.seq (.region [] [⟨0, (some 4), none, .mov (.const (.v (.c (.bool false)))), false, []⟩])
 .ret)
 .skip))
 (.seq (.seq (.region [] [⟨0, (some 11), none, .mov (.tmp 0), false, []⟩,
 ⟨1, (some 12), none, .bi .len [(.tmp 11)], false, []⟩,
 ⟨2, (some 13), none, .mov (.const (.v (.c (.int .i64 0)))), false, []⟩])
 (.block 0 (.loop (.seq (.region [] [⟨0, (some 14), none, .bin .lss (.tmp 13) (.tmp 12), false, []⟩])
 (.seq (.cond (.tmp 14) .skip
 (.exit 0))
 (.seq (.block 1 (.seq (.region [] [⟨0, (some 15), none, .mov (.tmp 13), false, []⟩,
 ⟨1, (some 5), none, .mov (.tmp 15), false, []⟩])
 (.seq (.region [] [⟨0, (some 16), none, .mov (.tmp 0), true, []⟩,
 ⟨1, (some 17), none, .mov (.tmp 5), true, []⟩,
 ⟨2, (some 18), none, .indexAddr 1 none (.tmp 16) (.tmp 17), true, []⟩,
 ⟨3, (some 19), none, .load none (.tmp 18), true, []⟩,
 ⟨4, (some 20), none, .mov (.tmp 1), true, []⟩,
 ⟨5, (some 21), none, .mov (.tmp 5), true, []⟩,
 ⟨6, (some 22), none, .indexAddr 1 none (.tmp 20) (.tmp 21), true, []⟩,
 ⟨7, (some 23), none, .load none (.tmp 22), true, []⟩,
 ⟨8, (some 24), none, .call (.const (.v (.c (.fn 35 [])))) [(.tmp 19), (.tmp 23)], false, []⟩,
 ⟨9, (some 25), none, .un .not (.tmp 24), true, []⟩])
 (.cond (.tmp 25) (.seq (.region [] [⟨0, (some 4), none, .mov (.const (.v (.c (.bool false)))), false, []⟩])
 .ret)
 .skip))))
 (.region [] [⟨0, (some 26), none, .bin .add (.tmp 13) (.const (.v (.c (.int .i64 1)))), false, []⟩,
 ⟨1, (some 13), none, .mov (.tmp 26), false, []⟩])))))))
 (.seq (.region [] [⟨0, (some 4), none, .mov (.const (.v (.c (.bool true)))), false, []⟩])
 .ret))))⟩

/-- facet/cplx.Abs -/
def c26 : AFun := ⟨48, [(2, none)],
 (.seq (.region [] [⟨0, (some 2), none, .mov (.const (.v (.c (.flt (.f 0))))), false, []⟩])
 (.seq (.region [] [⟨0, (some 8), none, .mov (.tmp 0), false, []⟩,
 ⟨1, (some 9), none, .bi .real [(.tmp 8)], false, []⟩,
 ⟨2, (some 10), none, .call (.const (.v (.c (.fn 36 [])))) [(.tmp 9)], false, []⟩,
 ⟨3, (some 11), none, .mov (.tmp 0), false, []⟩,
 ⟨4, (some 12), none, .bi .imag [(.tmp 11)], false, []⟩,
 ⟨5, (some 13), none, .call (.const (.v (.c (.fn 36 [])))) [(.tmp 12)], false, []⟩,
 ⟨6, (some 3), none, .mov (.tmp 10), false, []⟩,
 ⟨7, (some 4), none, .mov (.tmp 13), false, []⟩])
 (.seq (.block 0 (.seq (.region [] [⟨0, (some 15), none, .mov (.tmp 3), false, []⟩,
 ⟨1, (some 16), none, .call (.const (.v (.c (.fn 37 [])))) [(.tmp 15), (.const (.v (.c (.int .i64 1))))], false, []⟩,
 ⟨2, (some 17), none, .mov (.tmp 16), false, []⟩,
 ⟨3, (some 18), (some (17, false)), .mov (.tmp 4), false, []⟩,
 ⟨4, (some 19), (some (17, false)), .call (.const (.v (.c (.fn 37 [])))) [(.tmp 18), (.const (.v (.c (.int .i64 1))))], false, []⟩,
 ⟨5, (some 20), none, .pick (.tmp 17) (.const (.v (.c (.bool true)))) (.tmp 19), false, []⟩,
 ⟨6, (some 14), none, .mov (.tmp 20), false, []⟩])
 (.cond (.tmp 14) (.seq (.region [] [⟨0, (some 21), none, .call (.const (.v (.c (.fn 11 [])))) [(.const (.v (.c (.int .i64 1))))], false, []⟩,
 ⟨1, (some 2), none, .mov (.tmp 21), false, []⟩])
 .ret)
 (.seq (.region [] [⟨0, (some 23), none, .mov (.tmp 3), false, []⟩,
 ⟨1, (some 24), none, .call (.const (.v (.c (.fn 38 [])))) [(.tmp 23)], false, []⟩,
 ⟨2, (some 25), none, .mov (.tmp 24), false, []⟩,
 ⟨3, (some 26), (some (25, false)), .mov (.tmp 4), false, []⟩,
 ⟨4, (some 27), (some (25, false)), .call (.const (.v (.c (.fn 38 [])))) [(.tmp 26)], false, []⟩,
 ⟨5, (some 28), none, .pick (.tmp 25) (.const (.v (.c (.bool true)))) (.tmp 27), false, []⟩,
 ⟨6, (some 22), none, .mov (.tmp 28), false, []⟩])
 (.cond (.tmp 22) (.seq (.region [] [⟨0, (some 29), none, .call (.const (.v (.c (.fn 8 [])))) [], false, []⟩,
 ⟨1, (some 2), none, .mov (.tmp 29), false, []⟩])
 .ret)
 .skip)))))
 (.seq (.region [] [⟨0, (some 30), none, .mov (.tmp 3), false, []⟩,
 ⟨1, (some 31), none, .mov (.tmp 4), false, []⟩,
 ⟨2, (some 32), none, .bi .max [(.tmp 30), (.tmp 31)], false, []⟩,
 ⟨3, (some 33), none, .mov (.tmp 3), false, []⟩,
 ⟨4, (some 34), none, .mov (.tmp 4), false, []⟩,
 ⟨5, (some 35), none, .bi .min [(.tmp 33), (.tmp 34)], false, []⟩,
 ⟨6, (some 5), none, .mov (.tmp 32), false, []⟩,
 ⟨7, (some 6), none, .mov (.tmp 35), false, []⟩])
 (.seq (.seq (.region [] [⟨0, (some 36), none, .mov (.tmp 5), false, []⟩,
 ⟨1, (some 37), none, .bin .eql (.tmp 36) (.const (.v (.c (.flt (.f 0))))), false, []⟩])
 (.cond (.tmp 37) (.seq (.region [] [⟨0, (some 2), none, .mov (.const (.v (.c (.flt (.f 0))))), false, []⟩])
 .ret)
 .skip))
 (.seq (.region [] [⟨0, (some 38), none, .mov (.tmp 6), false, []⟩,
 ⟨1, (some 39), none, .mov (.tmp 5), false, []⟩,
 ⟨2, (some 40), none, .bin .quo (.tmp 38) (.tmp 39), false, []⟩,
 ⟨3, (some 7), none, .mov (.tmp 40), false, []⟩])
 (.seq (.region [] [⟨0, (some 41), none, .mov (.tmp 5), false, []⟩,
 ⟨1, (some 42), none, .mov (.tmp 7), false, []⟩,
 ⟨2, (some 43), none, .mov (.tmp 7), false, []⟩,
 ⟨3, (some 44), none, .bin .mul (.tmp 42) (.tmp 43), false, []⟩,
 ⟨4, (some 45), none, .bin .add (.const (.v (.c (.flt (.f 4607182418800017408))))) (.tmp 44), false, []⟩,
 ⟨5, (some 46), none, .call (.const (.v (.c (.fn 39 [])))) [(.tmp 45)], false, []⟩,
 ⟨6, (some 47), none, .bin .mul (.tmp 41) (.tmp 46), false, []⟩,
 ⟨7, (some 2), none, .mov (.tmp 47), false, []⟩])
 .ret)))))))⟩

/-- facet/cplx.Unit -/
def c27 : AFun := ⟨41, [(2, none), (3, none)],
 (.seq (.region [] [⟨0, (some 2), none, .mov (.const (.v (.c (.cpx (.f 0) (.f 0))))), false, []⟩,
 ⟨1, (some 3), none, .mov (.const (.v (.c (.int .i64 0)))), false, []⟩])
 (.seq (.block 0 (.seq (.region [] [⟨0, (some 7), none, .mov (.tmp 0), false, []⟩,
 ⟨1, (some 8), none, .call (.const (.v (.c (.fn 40 [])))) [(.tmp 7)], false, []⟩,
 ⟨2, (some 9), none, .un .not (.tmp 8), false, []⟩,
 ⟨3, (some 6), none, .mov (.tmp 9), false, []⟩])
 (.cond (.tmp 6) (.seq (.region [] [⟨0, (some 2), none, .mov (.const (.v (.c (.cpx (.f 0) (.f 0))))), false, []⟩,
 ⟨1, (some 3), none, .mov (.const (.v (.c (.int .i64 7)))), false, []⟩])
 .ret)
 (.seq (.region [] [⟨0, (some 11), none, .mov (.tmp 0), false, []⟩,
 ⟨1, (some 12), none, .bin .eql (.tmp 11) (.const (.v (.c (.cpx (.f 0) (.f 0))))), false, []⟩,
 ⟨2, (some 10), none, .mov (.tmp 12), false, []⟩])
 (.cond (.tmp 10) (.seq (.region [] [⟨0, (some 2), none, .mov (.const (.v (.c (.cpx (.f 0) (.f 0))))), false, []⟩,
 ⟨1, (some 3), none, .mov (.const (.v (.c (.int .i64 8)))), false, []⟩])
 .ret)
 .skip)))))
 (.seq (.seq (.region [] [⟨0, (some 13), none, .mov (.tmp 0), false, []⟩,
 ⟨1, (some 14), none, .bi .real [(.tmp 13)], false, []⟩,
 ⟨2, (some 15), none, .call (.const (.v (.c (.fn 36 [])))) [(.tmp 14)], false, []⟩,
 ⟨3, (some 16), none, .mov (.tmp 0), false, []⟩,
 ⟨4, (some 17), none, .bi .imag [(.tmp 16)], false, []⟩,
 ⟨5, (some 18), none, .call (.const (.v (.c (.fn 36 [])))) [(.tmp 17)], false, []⟩,
 ⟨6, (some 19), none, .bi .max [(.tmp 15), (.tmp 18)], false, []⟩,
 ⟨7, (some 4), none, .mov (.tmp 19), false, []⟩])
 (.block 1 (.seq (.region [] [⟨0, (some 21), none, .mov (.tmp 4), false, []⟩,
 ⟨1, (some 22), none, .bin .geq (.tmp 21) (.const (.v (.c (.flt (.f 9110782046170513408))))), false, []⟩,
 ⟨2, (some 20), none, .mov (.tmp 22), false, []⟩])
 (.cond (.tmp 20) (.region [] [⟨0, (some 23), none, .mov (.tmp 0), false, []⟩,
 ⟨1, (some 24), none, .call (.const (.v (.c (.fn 28 [])))) [(.const (.v (.c (.flt (.f 3706462493325918208))))), (.tmp 23)], false, []⟩,
 ⟨2, (some 0), none, .mov (.tmp 24), false, []⟩])
 (.seq (.region [] [⟨0, (some 26), none, .mov (.tmp 4), false, []⟩,
 ⟨1, (some 27), none, .bin .lss (.tmp 26) (.const (.v (.c (.flt (.f 553942754166571008))))), false, []⟩,
 ⟨2, (some 25), none, .mov (.tmp 27), false, []⟩])
 (.cond (.tmp 25) (.region [] [⟨0, (some 28), none, .mov (.tmp 0), false, []⟩,
 ⟨1, (some 29), none, .call (.const (.v (.c (.fn 28 [])))) [(.const (.v (.c (.flt (.f 5507902344274116608))))), (.tmp 28)], false, []⟩,
 ⟨2, (some 0), none, .mov (.tmp 29), false, []⟩])
 .skip))))))
 (.seq (.region [] [⟨0, (some 30), none, .mov (.tmp 0), false, []⟩,
 ⟨1, (some 31), none, .call (.const (.v (.c (.fn 26 [])))) [(.tmp 30)], false, []⟩,
 ⟨2, (some 5), none, .mov (.tmp 31), false, []⟩])
 (.seq (.region [] [⟨0, (some 32), none, .mov (.tmp 0), false, []⟩,
 ⟨1, (some 33), none, .bi .real [(.tmp 32)], false, []⟩,
 ⟨2, (some 34), none, .mov (.tmp 5), false, []⟩,
 ⟨3, (some 35), none, .bin .quo (.tmp 33) (.tmp 34), false, []⟩,
 ⟨4, (some 36), none, .mov (.tmp 0), false, []⟩,
 ⟨5, (some 37), none, .bi .imag [(.tmp 36)], false, []⟩,
 ⟨6, (some 38), none, .mov (.tmp 5), false, []⟩,
 ⟨7, (some 39), none, .bin .quo (.tmp 37) (.tmp 38), false, []⟩,
 ⟨8, (some 40), none, .bi .complex [(.tmp 35), (.tmp 39)], false, []⟩,
 ⟨9, (some 2), none, .mov (.tmp 40), false, []⟩,
 ⟨10, (some 3), none, .mov (.const (.v (.c (.int .i64 0)))), false, []⟩])
 .ret)))))⟩

/-- facet/cplx.Scale -/
def c28 : AFun := ⟨14, [(4, none)],
 (.seq (.region [] [⟨0, (some 4), none, .mov (.const (.v (.c (.cpx (.f 0) (.f 0))))), false, []⟩])
 (.seq (.region [] [⟨0, (some 5), none, .mov (.tmp 0), false, []⟩,
 ⟨1, (some 6), none, .mov (.tmp 1), false, []⟩,
 ⟨2, (some 7), none, .bi .real [(.tmp 6)], false, []⟩,
 ⟨3, (some 8), none, .bin .mul (.tmp 5) (.tmp 7), false, []⟩,
 ⟨4, (some 9), none, .mov (.tmp 0), false, []⟩,
 ⟨5, (some 10), none, .mov (.tmp 1), false, []⟩,
 ⟨6, (some 11), none, .bi .imag [(.tmp 10)], false, []⟩,
 ⟨7, (some 12), none, .bin .mul (.tmp 9) (.tmp 11), false, []⟩,
 ⟨8, (some 13), none, .bi .complex [(.tmp 8), (.tmp 12)], false, []⟩,
 ⟨9, (some 4), none, .mov (.tmp 13), false, []⟩])
 .ret))⟩

/-- facet/facetref16.Same -/
def c29 : AFun := ⟨17, [(4, none)],
 (.seq (.region [] [⟨0, (some 4), none, .mov (.const (.v (.c (.bool false)))), false, []⟩])
 (.seq (.region [] [⟨0, (some 5), none, .mov (.tmp 0), false, []⟩,
 ⟨1, (some 6), none, .bi .real [(.tmp 5)], false, []⟩,
 ⟨2, (some 7), none, .mov (.tmp 1), false, []⟩,
 ⟨3, (some 8), none, .bi .real [(.tmp 7)], false, []⟩,
 ⟨4, (some 9), none, .call (.const (.v (.c (.fn 41 [])))) [(.tmp 6), (.tmp 8)], false, []⟩,
 ⟨5, (some 10), none, .mov (.tmp 9), false, []⟩,
 ⟨6, (some 11), (some (10, true)), .mov (.tmp 0), false, []⟩,
 ⟨7, (some 12), (some (10, true)), .bi .imag [(.tmp 11)], false, []⟩,
 ⟨8, (some 13), (some (10, true)), .mov (.tmp 1), false, []⟩,
 ⟨9, (some 14), (some (10, true)), .bi .imag [(.tmp 13)], false, []⟩,
 ⟨10, (some 15), (some (10, true)), .call (.const (.v (.c (.fn 41 [])))) [(.tmp 12), (.tmp 14)], false, []⟩,
 ⟨11, (some 16), none, .pick (.tmp 10) (.tmp 15) (.const (.v (.c (.bool false)))), false, []⟩,
 ⟨12, (some 4), none, .mov (.tmp 16), false, []⟩])
 .ret))⟩

end Go.Proofs.YtfgkhpoibfbnkaaGreat
