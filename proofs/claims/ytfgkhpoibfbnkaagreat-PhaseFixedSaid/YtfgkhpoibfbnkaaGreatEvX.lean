/-
  The evaluator's states at two points of the program's own law, printed by a program of ours. No conditions.
-/
import Derived.Test.YtfgkhpoibfbnkaaGreatEvA
namespace Go.Proofs.YtfgkhpoibfbnkaaGreat
open Go.Ev

def t20 : Tr AT :=
  (.node (some (.v (.c (.bool false)))) (.node (some (.v (.c (.sl 43 0 3 (some 3))))) (.node (some (.v (.c (.int .i64 0)))) (.node (some (.v (.c (.int .i64 7)))) (.node (some (.v (.c
  (.flt (.f 9221120237041090561))))) (.node none (.node (some (.v (.agg [(.int .i64 (-1)), (.int .i64 (-1)), (.int .i64 0), (.cpx (.f 4607182418800017408) (.f 0))]))) (.node (some (.v
  (.c (.int .i64 1)))) .nil .nil) (.node (some (.v (.c (.bool false)))) .nil .nil)) (.node (some (.v (.c (.int .i64 9)))) (.node (some (.v (.agg [(.int .i64 3), (.int .i64 1), (.int
  .i64 1), (.sl 286 0 3 (some 3))]))) .nil .nil) (.node (some (.v (.c (.bool true)))) .nil .nil))) (.node none (.node (some (.tup [(.c (.cpx (.f 0) (.f 0))), (.c (.int .i64 1))]))
  (.node (some (.v (.c (.flt (.f 9221120237041090561))))) .nil .nil) (.node (some (.v (.c (.bool false)))) .nil .nil)) (.node (some (.v (.agg [(.int .i64 1), (.int .i64 0), (.int .i64
  0)]))) (.node (some (.v (.c (.int .i64 3)))) .nil .nil) (.node (some (.v (.c (.bool false)))) .nil .nil)))) (.node none (.node none (.node (some (.v (.c (.int .i64 0)))) (.node
  (some (.v (.c (.int .i64 9)))) .nil .nil) (.node (some (.v (.c (.cpx (.f 9223372036854775808) (.f 0))))) .nil .nil)) (.node (some (.tup [(.c (.cpx (.f 0) (.f 0))), (.c (.int .i64
  9))])) (.node (some (.v (.c (.int .i64 7)))) .nil .nil) (.node (some (.v (.agg [(.int .i64 2), (.int .i64 0), (.int .i64 0), (.cpx (.f 4613937818241073152) (.f 0))]))) .nil .nil)))
  (.node (some (.v (.c (.bool true)))) (.node (some (.v (.c (.sl 43 0 3 (some 3))))) (.node (some (.v (.c (.flt (.f 9223372036854775808))))) .nil .nil) (.node (some (.v (.c (.bool
  false)))) .nil .nil)) (.node (some (.v (.c (.cpx (.f 0) (.f 4618441417868443648))))) (.node (some (.v (.c (.int .i64 0)))) .nil .nil) (.node (some (.v (.c (.bool false)))) .nil
  .nil))))) (.node (some (.v (.c (.int .i64 0)))) (.node (some (.v (.c (.osl 366 3 4)))) (.node none (.node (some (.v (.agg [(.int .i64 1), (.int .i64 0), (.int .i64 0)]))) (.node
  (some (.v (.c (.int .i64 9)))) .nil .nil) (.node (some (.v (.c (.bool false)))) .nil .nil)) (.node (some (.v (.c (.sl 207 0 1 (some 1))))) (.node (some (.v (.agg [(.int .i64 1),
  (.int .i64 1), (.int .i64 1), (.sl 289 0 1 (some 1))]))) .nil .nil) (.node (some (.v (.agg [(.int .i64 1), (.int .i64 0), (.int .i64 0), (.cpx (.f 0) (.f 4611686018427387904))])))
  .nil .nil))) (.node none (.node (some (.tup [(.c (.cpx (.f 0) (.f 0))), (.c (.int .i64 1))])) (.node (some (.tup [(.agg [(.int .i64 4), (.int .i64 1), (.int .i64 1), (.sl 276 0 4
  (some 4))]), (.c (.int .i64 0))])) .nil .nil) (.node (some (.v (.c (.bool false)))) .nil .nil)) (.node (some (.v (.c (.int .i64 10)))) (.node (some (.v (.c (.flt (.f
  9218868437227405312))))) .nil .nil) (.node (some (.v (.agg [(.int .i64 3), (.int .i64 0), (.int .i64 0), (.cpx (.f 4617315517961601024) (.f 0))]))) .nil .nil)))) (.node none (.node
  none (.node (some (.v (.agg [(.int .i64 1), (.int .i64 0), (.int .i64 0)]))) (.node (some (.v (.c (.int .i64 10)))) .nil .nil) (.node (some (.v (.agg [(.int .i64 3), (.int .i64 1),
  (.int .i64 1), (.sl 312 0 3 (some 3))]))) .nil .nil)) (.node (some (.v (.c (.sl 43 0 3 (some 3))))) (.node (some (.v (.agg [(.int .i64 2), (.int .i64 1), (.int .i64 1), (.sl 294 0 1
  (some 1))]))) .nil .nil) (.node (some (.v (.c (.osl 366 3 4)))) .nil .nil))) (.node (some (.v (.agg [(.int .i64 1), (.int .i64 0), (.int .i64 0), (.cpx (.f 4611686018427387904) (.f
  0))]))) (.node (some (.v (.agg [(.int .i64 512), (.int .i64 0), (.int .i64 0)]))) (.node (some (.v (.c (.cpx (.f 9221120237041090561) (.f 4607182418800017408))))) .nil .nil) (.node
  (some (.v (.c (.bool false)))) .nil .nil)) (.node (some (.v (.c (.int .i64 9)))) (.node (some (.v (.c (.sl 308 0 4 (some 4))))) .nil .nil) .nil))))) (.node (some (.v (.c (.int .i64
  0)))) (.node (some (.v (.c (.int .i64 3)))) (.node (some (.v (.c (.ptr 288 0)))) (.node none (.node (some (.tup [(.c (.cpx (.f 0) (.f 4618441417868443648))), (.c (.int .i64 0))]))
  (.node (some (.v (.c (.bool false)))) .nil .nil) (.node (some (.v (.c (.int .i64 0)))) .nil .nil)) (.node (some (.v (.c (.sl 43 0 3 (some 3))))) (.node (some (.tup [(.agg [(.int
  .i64 0), (.int .i64 0), (.int .i64 0), .nils]), (.c (.int .i64 7))])) .nil .nil) (.node (some (.v (.c (.bool false)))) .nil .nil))) (.node none (.node (some (.v (.agg [(.int .i64
  513), (.int .i64 0), (.int .i64 0)]))) (.node (some (.v (.c (.sl 269 0 4 (some 4))))) .nil .nil) (.node (some (.v (.c (.bool false)))) .nil .nil)) (.node (some (.tup [(.c (.cpx (.f
  0) (.f 0))), (.c (.int .i64 10))])) (.node (some (.v (.c (.sl 298 0 5 (some 5))))) .nil .nil) (.node (some (.v (.agg [(.int .i64 1), (.int .i64 0), (.int .i64 0), (.cpx (.f 0) (.f
  4617315517961601024))]))) .nil .nil)))) (.node none (.node none (.node (some (.v (.c (.sl 43 0 3 (some 3))))) (.node (some (.v (.c (.bool false)))) .nil .nil) (.node (some (.v (.c
  (.cpx (.f 9221120237041090561) (.f 0))))) .nil .nil)) (.node (some (.v (.c (.int .i64 9)))) (.node (some (.v (.agg [(.int .i64 2), (.int .i64 1), (.int .i64 1)]))) .nil .nil) (.node
  (some (.v (.c (.sl 326 0 3 (some 3))))) .nil .nil))) (.node (some (.v (.c (.bool false)))) (.node (some (.v (.c (.sl 158 0 1 (some 1))))) (.node (some (.v (.c (.cpx (.f
  9223372036854775808) (.f 9223372036854775808))))) .nil .nil) (.node (some (.v (.c (.bool false)))) .nil .nil)) (.node (some (.v (.c (.bool false)))) (.node (some (.v (.c (.bool
  false)))) .nil .nil) (.node (some (.v (.agg [(.int .i64 4), (.int .i64 1), (.int .i64 1), (.sl 371 0 4 (some 4))]))) .nil .nil))))) (.node (some (.v (.c (.int .i64 10)))) (.node
  none (.node none (.node (some (.tup [(.c (.cpx (.f 0) (.f 4618441417868443648))), (.c (.int .i64 0))])) (.node (some (.v (.c (.bool false)))) .nil .nil) (.node (some (.v (.agg
  [(.int .i64 3), (.int .i64 1), (.int .i64 1), (.sl 286 0 3 (some 3))]))) .nil .nil)) (.node (some (.v (.agg [(.int .i64 7), (.int .i64 0), (.int .i64 0)]))) (.node (some (.tup
  [(.agg [(.int .i64 0), (.int .i64 0), (.int .i64 0), .nils]), (.c (.int .i64 7))])) .nil .nil) (.node (some (.v (.c (.sl 322 0 2 (some 2))))) .nil .nil))) (.node none (.node (some
  (.v (.c (.int .i64 1)))) (.node (some (.v (.c (.int .i64 0)))) .nil .nil) (.node (some (.v (.c (.bool false)))) .nil .nil)) (.node (some (.v (.c (.bool false)))) (.node (some (.v
  (.agg [(.int .i64 5), (.int .i64 1), (.int .i64 1), (.sl 305 0 5 (some 5))]))) .nil .nil) (.node (some (.v (.c (.bool true)))) .nil .nil)))) (.node none (.node none (.node (some (.v
  (.c (.cpx (.f 0) (.f 0))))) (.node (some (.v (.c (.bool false)))) .nil .nil) (.node (some (.v (.c (.bool false)))) .nil .nil)) (.node (some (.v (.c (.sl 240 0 1 (some 1))))) (.node
  (some (.tup [(.agg [(.int .i64 0), (.int .i64 0), (.int .i64 0), .nils]), (.c (.int .i64 3))])) .nil .nil) (.node (some (.v (.c (.int .i64 0)))) .nil .nil))) (.node (some (.v (.agg
  [(.int .i64 0), (.int .i64 1), (.int .i64 0), (.cpx (.f 0) (.f 4613937818241073152))]))) (.node (some (.tup [(.c (.cpx (.f 0) (.f 0))), (.c (.int .i64 9))])) (.node (some (.v (.agg
  [(.int .i64 3), (.int .i64 1), (.int .i64 1), (.sl 279 0 3 (some 3))]))) .nil .nil) (.node (some (.v (.c (.sl 316 0 5 (some 5))))) .nil .nil)) (.node (some (.v (.c (.bool false))))
  (.node (some (.v (.c (.bool true)))) .nil .nil) .nil)))))) (.node (some (.v (.c (.cpx (.f 0) (.f 4618441417868443648))))) (.node (some (.v (.c (.cpx (.f 0) (.f 0))))) (.node (some
  (.v (.c (.cpx (.f 0) (.f 0))))) (.node (some (.v (.c (.ptr 278 0)))) (.node none (.node (some (.v (.c (.sl 43 0 3 (some 3))))) (.node (some (.v (.c (.bool false)))) .nil .nil)
  (.node (some (.v (.c (.bool false)))) .nil .nil)) (.node (some (.tup [(.c (.cpx (.f 0) (.f 0))), (.c (.int .i64 9))])) (.node (some (.v (.c (.int .i64 0)))) .nil .nil) (.node (some
  (.v (.c (.bool false)))) .nil .nil))) (.node none (.node (some (.v (.c (.sl 43 0 3 (some 3))))) (.node (some (.tup [(.agg [(.int .i64 4), (.int .i64 1), (.int .i64 1), (.sl 276 0 4
  (some 4))]), (.c (.int .i64 0))])) .nil .nil) (.node (some (.v (.c (.int .i64 7)))) .nil .nil)) (.node (some (.v (.agg [(.int .i64 0), (.int .i64 1), (.int .i64 0)]))) (.node (some
  (.tup [(.agg [(.int .i64 5), (.int .i64 1), (.int .i64 1), (.sl 305 0 5 (some 5))]), (.c (.int .i64 0))])) .nil .nil) (.node (some (.v (.c (.osl 366 3 4)))) .nil .nil)))) (.node
  none (.node none (.node (some (.tup [(.c (.cpx (.f 0) (.f 0))), (.c (.int .i64 9))])) (.node (some (.v (.c (.bool false)))) .nil .nil) (.node (some (.v (.c (.flt (.f
  9221120237041090561))))) .nil .nil)) (.node (some (.v (.c (.cpx (.f 0) (.f 0))))) (.node (some (.tup [(.agg [(.int .i64 0), (.int .i64 0), (.int .i64 0), .nils]), (.c (.int .i64
  3))])) .nil .nil) (.node (some (.v (.agg [(.int .i64 3), (.int .i64 0), (.int .i64 0), (.cpx (.f 4613937818241073152) (.f 4616189618054758400))]))) .nil .nil))) (.node (some (.v (.c
  (.bool false)))) (.node (some (.v (.agg [(.int .i64 512), (.int .i64 0), (.int .i64 0), (.cpx (.f 4607182418800017408) (.f 0))]))) (.node (some (.v (.c (.flt (.f
  9223372036854775808))))) .nil .nil) (.node (some (.v (.c (.int .i64 0)))) .nil .nil)) (.node (some (.v (.c (.bool false)))) (.node (some (.v (.c (.bool false)))) .nil .nil) (.node
  (some (.v (.c (.sl 371 0 4 (some 4))))) .nil .nil))))) (.node (some (.v (.c (.cpx (.f 0) (.f 0))))) (.node (some (.v (.c (.ptr 373 0)))) (.node none (.node (some (.v (.agg [(.int
  .i64 0), (.int .i64 1), (.int .i64 0)]))) (.node (some (.v (.c (.bool false)))) .nil .nil) (.node (some (.v (.c (.bool false)))) .nil .nil)) (.node (some (.v (.c (.osl 208 4 4))))
  (.node (some (.v (.c (.flt (.f 9221120237041090561))))) .nil .nil) (.node (some (.v (.agg [(.int .i64 2), (.int .i64 0), (.int .i64 0), (.cpx (.f 0) (.f 0))]))) .nil .nil))) (.node
  none (.node (some (.v (.c (.cpx (.f 0) (.f 0))))) (.node (some (.v (.agg [(.int .i64 4), (.int .i64 1), (.int .i64 1), (.sl 276 0 4 (some 4))]))) .nil .nil) (.node (some (.v (.c
  (.int .i64 3)))) .nil .nil)) (.node (some (.v (.c (.int .i64 0)))) (.node (some (.tup [(.agg [(.int .i64 5), (.int .i64 1), (.int .i64 1), (.sl 305 0 5 (some 5))]), (.c (.int .i64
  0))])) .nil .nil) (.node (some (.v (.c (.sl 370 0 3 (some 3))))) .nil .nil)))) (.node none (.node none (.node (some (.tup [(.c (.cpx (.f 0) (.f 0))), (.c (.int .i64 9))])) (.node
  (some (.v (.c (.bool false)))) .nil .nil) (.node (some (.v (.c (.bool true)))) .nil .nil)) (.node (some (.v (.agg [(.int .i64 1), (.int .i64 0), (.int .i64 0), (.cpx (.f
  4617315517961601024) (.f 0))]))) (.node (some (.v (.c (.flt (.f 9221120237041090561))))) .nil .nil) (.node (some (.v (.c (.int .i64 0)))) .nil .nil))) (.node (some (.v (.agg [(.int
  .i64 0), (.int .i64 1), (.int .i64 0)]))) (.node (some (.v (.agg [(.int .i64 1), (.int .i64 0), (.int .i64 0)]))) (.node (some (.v (.c (.sl 279 0 3 (some 3))))) .nil .nil) (.node
  (some (.v (.agg [(.int .i64 5), (.int .i64 1), (.int .i64 1), (.sl 305 0 5 (some 5))]))) .nil .nil)) (.node (some (.v (.c (.bool false)))) (.node (some (.v (.agg [(.int .i64 4),
  (.int .i64 1), (.int .i64 1), (.sl 308 0 4 (some 4))]))) .nil .nil) .nil))))) (.node (some (.v (.c (.cpx (.f 0) (.f 0))))) (.node (some (.v (.c (.cpx (.f 0) (.f 0))))) (.node (some
  (.v (.c (.ptr 307 0)))) (.node none (.node (some (.v (.c (.sl 43 0 3 (some 3))))) (.node (some (.v (.c (.bool false)))) .nil .nil) (.node (some (.v (.c (.bool false)))) .nil .nil))
  (.node (some (.v (.agg [(.int .i64 1), (.int .i64 0), (.int .i64 0), (.cpx (.f 4617315517961601024) (.f 0))]))) (.node (some (.v (.c (.sl 289 0 1 (some 1))))) .nil .nil) (.node
  (some (.tup [(.c (.osl 366 3 4)), (.c (.int .i64 0))])) .nil .nil))) (.node none (.node (some (.v (.agg [(.int .i64 0), (.int .i64 0), (.int .i64 0)]))) (.node (some (.v (.agg
  [(.int .i64 4), (.int .i64 1), (.int .i64 1), (.sl 269 0 4 (some 4))]))) .nil .nil) (.node (some (.v (.c (.bool false)))) .nil .nil)) (.node (some (.v (.c (.cpx (.f 0) (.f 0)))))
  (.node (some (.v (.agg [(.int .i64 5), (.int .i64 1), (.int .i64 1), (.sl 298 0 5 (some 5))]))) .nil .nil) (.node (some (.v (.agg [(.int .i64 2), (.int .i64 0), (.int .i64 0), (.cpx
  (.f 4613937818241073152) (.f 0))]))) .nil .nil)))) (.node none (.node none (.node (some (.v (.agg [(.int .i64 1), (.int .i64 0), (.int .i64 0)]))) (.node (some (.v (.c (.bool
  false)))) .nil .nil) (.node (some (.v (.c (.sl 312 0 3 (some 3))))) .nil .nil)) (.node (some (.tup [(.c (.cpx (.f 0) (.f 0))), (.c (.int .i64 10))])) (.node (some (.v (.c (.sl 294 0
  1 (some 1))))) .nil .nil) (.node (some (.tup [(.c (.osl 366 3 4)), (.c (.int .i64 0))])) .nil .nil))) (.node (some (.v (.c (.bool false)))) (.node (some (.v (.c (.osl 159 4 4))))
  (.node (some (.v (.c (.flt (.f 9221120237041090561))))) .nil .nil) (.node (some (.v (.c (.bool false)))) .nil .nil)) (.node (some (.v (.c (.bool false)))) (.node (some (.v (.agg
  [(.int .i64 4), (.int .i64 1), (.int .i64 1), (.sl 276 0 4 (some 4))]))) .nil .nil) .nil)))) (.node (some (.v (.c (.flt (.f 9223372036854775808))))) (.node none (.node none (.node
  (some (.v (.c (.cpx (.f 0) (.f 4618441417868443648))))) (.node (some (.v (.c (.bool false)))) .nil .nil) (.node (some (.v (.c (.flt (.f 9223372036854775808))))) .nil .nil)) (.node
  (some (.v (.agg [(.int .i64 1), (.int .i64 0), (.int .i64 0)]))) (.node (some (.v (.agg [(.int .i64 0), (.int .i64 0), (.int .i64 0), .nils]))) .nil .nil) (.node (some (.v (.agg
  [(.int .i64 1), (.int .i64 0), (.int .i64 0), (.cpx (.f 13840687554816376832) (.f 0))]))) .nil .nil))) (.node none (.node (some (.tup [(.c (.cpx (.f 0) (.f 0))), (.c (.int .i64
  9))])) (.node (some (.tup [(.agg [(.int .i64 3), (.int .i64 1), (.int .i64 1), (.sl 286 0 3 (some 3))]), (.c (.int .i64 0))])) .nil .nil) (.node (some (.v (.c (.bool false)))) .nil
  .nil)) (.node (some (.v (.c (.bool false)))) (.node (some (.v (.c (.int .i64 0)))) .nil .nil) (.node (some (.v (.c (.bool false)))) .nil .nil)))) (.node none (.node none (.node
  (some (.v (.c (.int .i64 9)))) (.node (some (.v (.c (.flt (.f 9223372036854775808))))) .nil .nil) (.node (some (.v (.c (.bool false)))) .nil .nil)) (.node (some (.v (.c (.osl 241 4
  4)))) (.node (some (.v (.agg [(.int .i64 0), (.int .i64 0), (.int .i64 0), .nils]))) .nil .nil) (.node (some (.v (.c (.bool false)))) .nil .nil))) (.node (some (.v (.agg [(.int .i64
  (-1)), (.int .i64 (-1)), (.int .i64 0)]))) (.node (some (.v (.c (.cpx (.f 0) (.f 0))))) (.node (some (.tup [(.agg [(.int .i64 3), (.int .i64 1), (.int .i64 1), (.sl 286 0 3 (some
  3))]), (.c (.int .i64 0))])) .nil .nil) (.node (some (.v (.agg [(.int .i64 5), (.int .i64 1), (.int .i64 1), (.sl 316 0 5 (some 5))]))) .nil .nil)) (.node (some (.v (.c (.bool
  false)))) (.node (some (.v (.c (.bool false)))) .nil .nil) .nil)))))))

def m20 : Tr AO :=
  (.node (some (.cells [(.int .i64 1), (.int .i64 2), (.int .i64 0), (.cpx (.f 4607182418800017408) (.f 4611686018427387904))] true)) (.node (some (.cells [(.int .i64 6), (.int .i64
  0), (.int .i64 0)] true)) (.node (some (.cells [(.int .i64 1), (.int .i64 2), (.int .i64 0), (.cpx (.f 4607182418800017408) (.f 4611686018427387904))] true)) (.node (some (.cells
  [(.int .i64 1), (.int .i64 2), (.int .i64 0), (.cpx (.f 4607182418800017408) (.f 4611686018427387904))] true)) (.node (some (.cells [(.int .i64 2), (.int .i64 1), (.int .i64 1),
  (.sl 11 0 2 (some 2))] true)) (.node (some (.cells [] true)) (.node (some (.cells [(.int .i64 (-1)), (.int .i64 (-1)), (.int .i64 0), (.cpx (.f 4607182418800017408) (.f 0))] true))
  (.node (some (.cells [(.int .i64 (-1)), (.int .i64 (-1)), (.int .i64 0), (.cpx (.f 4607182418800017408) (.f 0)), (.int .i64 0), (.int .i64 1), (.int .i64 0), (.cpx (.f 0) (.f
  4613937818241073152)), (.int .i64 1), (.int .i64 0), (.int .i64 0), (.cpx (.f 4611686018427387904) (.f 0))] false)) (.node (some (.cells [(.int .i64 1), (.int .i64 0), (.int .i64
  0)] true)) .nil .nil) .nil) (.node (some (.cells [(.cpx (.f 4607182418800017408) (.f 0)), (.cpx (.f 4611686018427387904) (.f 0)), (.cpx (.f 0) (.f 0))] true)) (.node (some (.cells
  [(.int .i64 5), (.int .i64 1), (.int .i64 1), (.sl 316 0 5 (some 5))] true)) .nil .nil) .nil)) (.node (some (.cells [(.int .i64 1), (.int .i64 0), (.int .i64 0)] true)) (.node (some
  (.cells [(.int .i64 1), (.int .i64 0), (.int .i64 0), (.cpx (.f 4611686018427387904) (.f 0)), (.int .i64 0), (.int .i64 1), (.int .i64 0), (.cpx (.f 0) (.f 4613937818241073152)),
  (.int .i64 (-1)), (.int .i64 (-1)), (.int .i64 0), (.cpx (.f 4607182418800017408) (.f 0)), (.int .i64 512), (.int .i64 0), (.int .i64 0), (.cpx (.f 4607182418800017408) (.f 0))]
  false)) (.node (some (.cells [(.int .i64 3), (.int .i64 1), (.int .i64 1), (.sl 286 0 3 (some 3))] true)) .nil .nil) .nil) (.node (some (.cells [(.int .i64 1), (.int .i64 0), (.int
  .i64 0)] true)) (.node (some (.cells [(.int .i64 3), (.int .i64 0), (.int .i64 0), (.cpx (.f 4613937818241073152) (.f 4616189618054758400))] true)) .nil .nil) .nil))) (.node (some
  (.cells [(.int .i64 1), (.int .i64 0), (.int .i64 0), (.cpx (.f 4611686018427387904) (.f 0))] true)) (.node (some (.cells [(.int .i64 (-1)), (.int .i64 (-1)), (.int .i64 0), (.cpx
  (.f 4607182418800017408) (.f 0))] true)) (.node (some (.cells [(.cpx (.f 0) (.f 0)), (.cpx (.f 0) (.f 0)), (.cpx (.f 0) (.f 0))] true)) (.node (some (.cells [(.int .i64 4), (.int
  .i64 1), (.int .i64 1), (.sl 269 0 4 (some 4))] true)) .nil .nil) .nil) (.node (some (.cells [(.int .i64 1), (.int .i64 0), (.int .i64 0), (.cpx (.f 4617315517961601024) (.f 0))]
  true)) (.node (some (.cells [(.int .i64 1), (.int .i64 0), (.int .i64 0), (.cpx (.f 0) (.f 4611686018427387904))] true)) .nil .nil) .nil)) (.node (some (.cells [(.int .i64 1), (.int
  .i64 0), (.int .i64 0), (.cpx (.f 4611686018427387904) (.f 0))] true)) (.node (some (.cells [(.int .i64 0), (.int .i64 1), (.int .i64 0)] true)) (.node (some (.cells [(.int .i64 5),
  (.int .i64 1), (.int .i64 1), (.sl 298 0 5 (some 5))] true)) .nil .nil) .nil) (.node (some (.cells [(.int .i64 1), (.int .i64 0), (.int .i64 0), (.cpx (.f 4617315517961601024) (.f
  0))] true)) (.node (some (.cells [(.int .i64 1), (.int .i64 0), (.int .i64 0), (.cpx (.f 0) (.f 4617315517961601024))] true)) .nil .nil) .nil)))) (.node (some (.map [((.agg [(.int
  .i64 1), (.int .i64 0), (.int .i64 0)]), (.c (.int .i64 1)))])) (.node (some (.cells [(.int .i64 2), (.int .i64 1), (.int .i64 1), (.sl 38 0 2 (some 2))] true)) (.node (some (.cells
  [(.int .i64 1), (.int .i64 0), (.int .i64 0)] true)) (.node (some (.cells [(.int .i64 1), (.int .i64 0), (.int .i64 0)] true)) (.node (some (.cells [(.int .i64 0), (.int .i64 1),
  (.int .i64 0), (.cpx (.f 0) (.f 4613937818241073152))] true)) .nil .nil) .nil) (.node (some (.cells [(.int .i64 1), (.int .i64 0), (.int .i64 0), (.cpx (.f 4611686018427387904) (.f
  0))] true)) (.node (some (.map [((.agg [(.int .i64 1), (.int .i64 0), (.int .i64 0)]), (.c (.int .i64 1))), ((.agg [(.int .i64 2), (.int .i64 0), (.int .i64 0)]), (.c (.int .i64
  1)))])) .nil .nil) .nil)) (.node (some (.cells [(.int .i64 0), (.int .i64 1), (.int .i64 0)] true)) (.node (some (.cells [(.int .i64 (-1)), (.int .i64 (-1)), (.int .i64 0), (.cpx
  (.f 4607182418800017408) (.f 0))] true)) (.node (some (.cells [(.int .i64 2), (.int .i64 1), (.int .i64 1), (.sl 294 0 1 (some 1))] true)) .nil .nil) .nil) (.node (some (.cells
  [(.int .i64 1), (.int .i64 0), (.int .i64 0)] true)) (.node (some (.cells [(.int .i64 1), (.int .i64 0), (.int .i64 0), (.cpx (.f 0) (.f 4617315517961601024))] true)) .nil .nil)
  .nil))) (.node (some (.cells [(.int .i64 0), (.int .i64 1), (.int .i64 0), (.cpx (.f 0) (.f 4613937818241073152))] true)) (.node (some (.cells [(.int .i64 0), (.int .i64 1), (.int
  .i64 0)] true)) (.node (some (.cells [(.int .i64 (-1)), (.int .i64 (-1)), (.int .i64 0), (.cpx (.f 4607182418800017408) (.f 0))] true)) (.node (some (.cells [(.cpx (.f 0) (.f 0)),
  (.cpx (.f 9223372036854775808) (.f 9223372036854775808)), (.cpx (.f 9221120237041090561) (.f 4607182418800017408))] true)) .nil .nil) .nil) (.node (some (.cells [(.int .i64 0),
  (.int .i64 1), (.int .i64 0)] true)) (.node (some (.cells [(.int .i64 3), (.int .i64 0), (.int .i64 0), (.cpx (.f 4613937818241073152) (.f 4616189618054758400))] true)) .nil .nil)
  .nil)) (.node (some (.map [((.agg [(.int .i64 1), (.int .i64 0), (.int .i64 0)]), (.c (.int .i64 1))), ((.agg [(.int .i64 0), (.int .i64 1), (.int .i64 0)]), (.c (.int .i64 1))),
  ((.agg [(.int .i64 (-1)), (.int .i64 (-1)), (.int .i64 0)]), (.c (.int .i64 1)))])) (.node (some (.cells [(.int .i64 (-1)), (.int .i64 (-1)), (.int .i64 0)] true)) (.node (some
  (.cells [(.int .i64 4), (.int .i64 1), (.int .i64 1), (.sl 308 0 4 (some 4))] true)) .nil .nil) .nil) (.node (some (.cells [(.int .i64 0), (.int .i64 1), (.int .i64 0), (.cpx (.f 0)
  (.f 4613937818241073152))] true)) .nil .nil))))) (.node (some (.cells [(.cpx (.f 4607182418800017408) (.f 0)), (.cpx (.f 13837309855095848960) (.f 0))] true)) (.node (some (.cells
  [(.int .i64 2), (.int .i64 1), (.int .i64 1), (.sl 18 0 2 (some 2))] true)) (.node (some (.cells [(.int .i64 1), (.int .i64 0), (.int .i64 0), (.cpx (.f 13840687554816376832) (.f
  0))] true)) (.node (some (.cells [(.int .i64 1), (.int .i64 0), (.int .i64 0)] true)) (.node (some (.cells [(.int .i64 1), (.int .i64 0), (.int .i64 0)] true)) (.node (some (.cells
  [(.int .i64 1), (.int .i64 0), (.int .i64 0)] true)) .nil .nil) .nil) (.node (some (.cells [(.int .i64 0), (.int .i64 1), (.int .i64 0), (.cpx (.f 0) (.f 4613937818241073152))]
  true)) (.node (some (.cells [(.int .i64 1), (.int .i64 0), (.int .i64 0), (.cpx (.f 13840687554816376832) (.f 0))] true)) .nil .nil) .nil)) (.node (some (.cells [(.int .i64 1),
  (.int .i64 0), (.int .i64 0)] true)) (.node (some (.cells [(.int .i64 1), (.int .i64 0), (.int .i64 0), (.cpx (.f 4611686018427387904) (.f 0))] true)) (.node (some (.cells [(.int
  .i64 1), (.int .i64 1), (.int .i64 1), (.sl 289 0 1 (some 1))] true)) .nil .nil) .nil) (.node (some (.cells [(.int .i64 1), (.int .i64 0), (.int .i64 0), (.cpx (.f
  4611686018427387904) (.f 0))] true)) (.node (some (.map [((.agg [(.int .i64 1), (.int .i64 0), (.int .i64 0)]), (.c (.int .i64 1))), ((.agg [(.int .i64 2), (.int .i64 0), (.int .i64
  0)]), (.c (.int .i64 2)))])) .nil .nil) .nil))) (.node (some (.cells [(.int .i64 (-1)), (.int .i64 (-1)), (.int .i64 0), (.cpx (.f 4607182418800017408) (.f 0))] true)) (.node (some
  (.map [((.agg [(.int .i64 1), (.int .i64 0), (.int .i64 0)]), (.c (.int .i64 1))), ((.agg [(.int .i64 0), (.int .i64 1), (.int .i64 0)]), (.c (.int .i64 1))), ((.agg [(.int .i64
  (-1)), (.int .i64 (-1)), (.int .i64 0)]), (.c (.int .i64 1)))])) (.node (some (.cells [(.int .i64 (-1)), (.int .i64 (-1)), (.int .i64 0), (.cpx (.f 4607182418800017408) (.f 0))]
  true)) (.node (some (.cells [(.int .i64 4), (.int .i64 1), (.int .i64 1), (.sl 276 0 4 (some 4))] true)) .nil .nil) .nil) (.node (some (.map [((.agg [(.int .i64 1), (.int .i64 0),
  (.int .i64 0)]), (.c (.int .i64 2))), ((.agg [(.int .i64 0), (.int .i64 1), (.int .i64 0)]), (.c (.int .i64 1))), ((.agg [(.int .i64 (-1)), (.int .i64 (-1)), (.int .i64 0)]), (.c
  (.int .i64 1)))])) (.node (some (.cells [(.int .i64 1), (.int .i64 0), (.int .i64 0), (.cpx (.f 13840687554816376832) (.f 0))] true)) .nil .nil) .nil)) (.node (some (.cells [(.int
  .i64 (-1)), (.int .i64 (-1)), (.int .i64 0), (.cpx (.f 4607182418800017408) (.f 0))] true)) (.node (some (.cells [(.int .i64 (-1)), (.int .i64 (-1)), (.int .i64 0)] true)) (.node
  (some (.cells [(.int .i64 5), (.int .i64 1), (.int .i64 1), (.sl 305 0 5 (some 5))] true)) .nil .nil) .nil) (.node (some (.cells [(.int .i64 0), (.int .i64 1), (.int .i64 0)] true))
  (.node (some (.cells [(.cpx (.f 4607182418800017408) (.f 0)), (.cpx (.f 4607182418800017408) (.f 0)), (.cpx (.f 4607182418800017408) (.f 0)), (.cpx (.f 4607182418800017408) (.f 0))]
  true)) .nil .nil) .nil)))) (.node (some (.cells [(.int .i64 1), (.int .i64 0), (.int .i64 0), (.cpx (.f 0) (.f 4611686018427387904))] false)) (.node (some (.cells [(.int .i64 1),
  (.int .i64 0), (.int .i64 0), (.cpx (.f 4611686018427387904) (.f 0)), (.int .i64 0), (.int .i64 1), (.int .i64 0), (.cpx (.f 0) (.f 4613937818241073152)), (.int .i64 (-1)), (.int
  .i64 (-1)), (.int .i64 0), (.cpx (.f 4607182418800017408) (.f 0))] true)) (.node (some (.cells [(.int .i64 0), (.int .i64 1), (.int .i64 0), (.cpx (.f 0) (.f 4613937818241073152))]
  true)) (.node (some (.cells [(.int .i64 0), (.int .i64 1), (.int .i64 0)] true)) (.node (some (.cells [(.int .i64 (-1)), (.int .i64 (-1)), (.int .i64 0), (.cpx (.f
  4607182418800017408) (.f 0))] true)) .nil .nil) .nil) (.node (some (.cells [(.int .i64 (-1)), (.int .i64 (-1)), (.int .i64 0), (.cpx (.f 4607182418800017408) (.f 0))] true)) (.node
  (some (.cells [(.int .i64 2), (.int .i64 0), (.int .i64 0)] true)) .nil .nil) .nil)) (.node (some (.cells [(.cpx (.f 4611686018427387904) (.f 0)), (.cpx (.f 4611686018427387904) (.f
  0)), (.cpx (.f 0) (.f 0))] true)) (.node (some (.cells [] true)) (.node (some (.cells [(.int .i64 5), (.int .i64 1), (.int .i64 1), (.sl 298 0 5 (some 5))] true)) .nil .nil) .nil)
  (.node (some (.cells [(.int .i64 0), (.int .i64 1), (.int .i64 0), (.cpx (.f 0) (.f 4613937818241073152))] true)) (.node none .nil .nil) .nil))) (.node (some (.cells [(.int .i64
  (-1)), (.int .i64 (-1)), (.int .i64 0), (.cpx (.f 4607182418800017408) (.f 0))] true)) (.node (some (.cells [(.int .i64 (-1)), (.int .i64 (-1)), (.int .i64 0), (.cpx (.f
  4607182418800017408) (.f 0)), (.int .i64 0), (.int .i64 1), (.int .i64 0), (.cpx (.f 0) (.f 4613937818241073152)), (.int .i64 1), (.int .i64 0), (.int .i64 0), (.cpx (.f
  4611686018427387904) (.f 0))] false)) (.node (some (.cells [(.int .i64 (-1)), (.int .i64 (-1)), (.int .i64 0), (.cpx (.f 4607182418800017408) (.f 0))] true)) (.node (some (.cells
  [(.int .i64 3), (.int .i64 1), (.int .i64 1), (.sl 279 0 3 (some 3))] true)) .nil .nil) .nil) (.node (some (.cells [(.int .i64 1), (.int .i64 0), (.int .i64 0)] true)) (.node (some
  (.cells [(.int .i64 2), (.int .i64 0), (.int .i64 0), (.cpx (.f 4613937818241073152) (.f 0))] true)) .nil .nil) .nil)) (.node (some (.cells [(.int .i64 0), (.int .i64 1), (.int .i64
  0)] true)) (.node (some (.cells [(.int .i64 512), (.int .i64 0), (.int .i64 0)] true)) (.node (some (.cells [(.int .i64 3), (.int .i64 1), (.int .i64 1), (.sl 312 0 3 (some 3))]
  true)) .nil .nil) .nil) (.node (some (.cells [(.int .i64 1), (.int .i64 0), (.int .i64 0), (.cpx (.f 4617315517961601024) (.f 0))] true)) .nil .nil)))))) (.node (some (.cells []
  true)) (.node (some (.cells [(.int .i64 1), (.int .i64 2), (.int .i64 0), (.cpx (.f 13835058055282163712) (.f 4607182418800017408))] true)) (.node (some (.cells [(.int .i64 2),
  (.int .i64 1), (.int .i64 1), (.sl 18 0 2 (some 2))] true)) (.node (some (.map [((.agg [(.int .i64 1), (.int .i64 0), (.int .i64 0)]), (.c (.int .i64 1)))])) (.node (some (.cells
  [(.int .i64 (-1)), (.int .i64 (-1)), (.int .i64 0)] true)) (.node (some (.cells [(.int .i64 1), (.int .i64 0), (.int .i64 0), (.cpx (.f 4611686018427387904) (.f 0))] true)) (.node
  (some (.cells [(.cpx (.f 4611686018427387904) (.f 0)), (.cpx (.f 0) (.f 4613937818241073152)), (.cpx (.f 4607182418800017408) (.f 0))] true)) .nil .nil) .nil) (.node (some (.cells
  [(.int .i64 512), (.int .i64 0), (.int .i64 0)] true)) (.node (some (.cells [(.int .i64 2), (.int .i64 0), (.int .i64 0), (.cpx (.f 0) (.f 0))] true)) .nil .nil) .nil)) (.node (some
  (.cells [(.int .i64 1), (.int .i64 0), (.int .i64 0), (.cpx (.f 4611686018427387904) (.f 0))] true)) (.node (some (.cells [(.int .i64 1), (.int .i64 0), (.int .i64 0)] true)) (.node
  (some (.cells [(.cpx (.f 4607182418800017408) (.f 0))] true)) .nil .nil) .nil) (.node (some (.cells [(.cpx (.f 0) (.f 0)), (.cpx (.f 4611686018427387904) (.f 0)), (.cpx (.f 0) (.f
  0))] true)) (.node (some (.cells [(.int .i64 3), (.int .i64 0), (.int .i64 0)] true)) .nil .nil) .nil))) (.node (some (.cells [(.int .i64 0), (.int .i64 1), (.int .i64 0), (.cpx (.f
  0) (.f 4613937818241073152))] true)) (.node (some (.cells [(.int .i64 1), (.int .i64 0), (.int .i64 0)] true)) (.node (some (.cells [(.int .i64 1), (.int .i64 0), (.int .i64 0),
  (.cpx (.f 4611686018427387904) (.f 0))] true)) (.node (some (.cells [(.int .i64 4), (.int .i64 1), (.int .i64 1), (.sl 269 0 4 (some 4))] true)) .nil .nil) .nil) (.node (some
  (.cells [(.int .i64 7), (.int .i64 0), (.int .i64 0)] true)) (.node (some (.cells [(.int .i64 1), (.int .i64 0), (.int .i64 0)] true)) .nil .nil) .nil)) (.node (some (.cells [(.int
  .i64 1), (.int .i64 0), (.int .i64 0), (.cpx (.f 4611686018427387904) (.f 0))] true)) (.node (some (.cells [(.int .i64 (-1)), (.int .i64 (-1)), (.int .i64 0), (.cpx (.f
  4607182418800017408) (.f 0))] true)) (.node (some (.cells [(.cpx (.f 13840687554816376832) (.f 0)), (.cpx (.f 13841813454723219456) (.f 0)), (.cpx (.f 13842939354630062080) (.f 0)),
  (.cpx (.f 13844065254536904704) (.f 0)), (.cpx (.f 13844628204490326016) (.f 0))] true)) .nil .nil) .nil) (.node (some (.cells [(.int .i64 1), (.int .i64 0), (.int .i64 0), (.cpx
  (.f 4611686018427387904) (.f 0)), (.int .i64 0), (.int .i64 1), (.int .i64 0), (.cpx (.f 0) (.f 4613937818241073152)), (.int .i64 (-1)), (.int .i64 (-1)), (.int .i64 0), (.cpx (.f
  4607182418800017408) (.f 0)), (.int .i64 1), (.int .i64 0), (.int .i64 0), (.cpx (.f 4617315517961601024) (.f 0))] false)) (.node (some (.cells [(.int .i64 3), (.int .i64 0), (.int
  .i64 0), (.cpx (.f 4617315517961601024) (.f 0))] true)) .nil .nil) .nil)))) (.node (some (.cells [(.int .i64 1), (.int .i64 0), (.int .i64 0)] true)) (.node (some (.cells [(.int
  .i64 2), (.int .i64 1), (.int .i64 1), (.sl 38 0 2 (some 2))] true)) (.node (some (.cells [(.int .i64 0), (.int .i64 1), (.int .i64 0)] true)) (.node (some (.cells [(.int .i64 0),
  (.int .i64 1), (.int .i64 0), (.cpx (.f 0) (.f 4613937818241073152))] true)) (.node (some (.cells [(.int .i64 1), (.int .i64 0), (.int .i64 0), (.cpx (.f 4611686018427387904) (.f
  0))] true)) .nil .nil) .nil) (.node (some (.cells [(.int .i64 1), (.int .i64 0), (.int .i64 0), (.cpx (.f 4611686018427387904) (.f 0))] true)) (.node (some (.cells [(.int .i64 1),
  (.int .i64 0), (.int .i64 0)] true)) .nil .nil) .nil)) (.node (some (.cells [(.int .i64 1), (.int .i64 0), (.int .i64 0)] true)) (.node (some (.cells [(.int .i64 512), (.int .i64
  0), (.int .i64 0), (.cpx (.f 4607182418800017408) (.f 0))] true)) (.node (some (.cells [(.int .i64 2), (.int .i64 1), (.int .i64 1), (.sl 294 0 1 (some 1))] true)) .nil .nil) .nil)
  (.node (some (.cells [(.int .i64 (-8)), (.int .i64 0), (.int .i64 0)] true)) (.node (some (.cells [(.int .i64 2), (.int .i64 0), (.int .i64 0), (.cpx (.f 4613937818241073152) (.f
  0))] true)) .nil .nil) .nil))) (.node (some (.cells [(.int .i64 0), (.int .i64 1), (.int .i64 0)] true)) (.node (some (.cells [(.int .i64 (-1)), (.int .i64 (-1)), (.int .i64 0)]
  true)) (.node (some (.cells [(.int .i64 1), (.int .i64 0), (.int .i64 0), (.cpx (.f 4611686018427387904) (.f 0))] true)) (.node (some (.cells [(.int .i64 3), (.int .i64 1), (.int
  .i64 1), (.sl 279 0 3 (some 3))] true)) .nil .nil) .nil) (.node (some (.cells [(.int .i64 (-1)), (.int .i64 (-1)), (.int .i64 0)] true)) (.node (some (.cells [] true)) .nil .nil)
  .nil)) (.node (some (.cells [(.int .i64 1), (.int .i64 0), (.int .i64 0)] true)) (.node (some (.cells [(.int .i64 512), (.int .i64 0), (.int .i64 0), (.cpx (.f 4607182418800017408)
  (.f 0))] true)) (.node (some (.cells [(.int .i64 3), (.int .i64 1), (.int .i64 1), (.sl 312 0 3 (some 3))] true)) .nil .nil) .nil) (.node (some (.cells [(.int .i64 (-1)), (.int .i64
  (-1)), (.int .i64 0), (.cpx (.f 4607182418800017408) (.f 0))] true)) .nil .nil))))) (.node (some (.cells [(.int .i64 2), (.int .i64 1), (.int .i64 1), (.sl 11 0 2 (some 2))] true))
  (.node (some (.cells [(.int .i64 1), (.int .i64 0), (.int .i64 0), (.cpx (.f 0) (.f 4611686018427387904))] true)) (.node (some (.cells [(.int .i64 1), (.int .i64 0), (.int .i64 0),
  (.cpx (.f 0) (.f 4617315517961601024))] false)) (.node (some (.cells [(.cpx (.f 4611686018427387904) (.f 0)), (.cpx (.f 0) (.f 4613937818241073152)), (.cpx (.f 4607182418800017408)
  (.f 0))] true)) (.node (some (.cells [(.int .i64 1), (.int .i64 0), (.int .i64 0), (.cpx (.f 4611686018427387904) (.f 0))] true)) (.node (some (.cells [(.int .i64 0), (.int .i64 1),
  (.int .i64 0)] true)) .nil .nil) .nil) (.node (some (.cells [(.int .i64 512), (.int .i64 0), (.int .i64 0), (.cpx (.f 4607182418800017408) (.f 0))] true)) (.node (some (.cells
  [(.int .i64 3), (.int .i64 0), (.int .i64 0), (.cpx (.f 4613937818241073152) (.f 4616189618054758400))] true)) .nil .nil) .nil)) (.node (some (.cells [(.int .i64 0), (.int .i64 1),
  (.int .i64 0), (.cpx (.f 0) (.f 4613937818241073152))] true)) (.node (some (.cells [(.int .i64 0), (.int .i64 1), (.int .i64 0), (.cpx (.f 0) (.f 4613937818241073152))] true))
  (.node (some (.cells [(.int .i64 1), (.int .i64 1), (.int .i64 1), (.sl 289 0 1 (some 1))] true)) .nil .nil) .nil) (.node (some (.cells [(.int .i64 (-1)), (.int .i64 (-1)), (.int
  .i64 0), (.cpx (.f 4607182418800017408) (.f 0))] true)) (.node (some (.cells [(.int .i64 2), (.int .i64 0), (.int .i64 0), (.cpx (.f 0) (.f 0))] true)) .nil .nil) .nil))) (.node
  (some (.cells [] true)) (.node (some (.cells [(.int .i64 1), (.int .i64 0), (.int .i64 0)] true)) (.node (some (.cells [(.int .i64 1), (.int .i64 0), (.int .i64 0), (.cpx (.f
  4611686018427387904) (.f 0))] true)) (.node (some (.cells [(.int .i64 4), (.int .i64 1), (.int .i64 1), (.sl 276 0 4 (some 4))] true)) .nil .nil) .nil) (.node (some (.cells [(.int
  .i64 1), (.int .i64 0), (.int .i64 0)] true)) (.node (some (.cells [(.int .i64 2), (.int .i64 0), (.int .i64 0), (.cpx (.f 4613937818241073152) (.f 0))] true)) .nil .nil) .nil))
  (.node (some (.cells [(.int .i64 513), (.int .i64 0), (.int .i64 0)] true)) (.node (some (.cells [(.int .i64 (-1)), (.int .i64 (-1)), (.int .i64 0), (.cpx (.f 4607182418800017408)
  (.f 0))] true)) (.node (some (.cells [(.int .i64 4), (.int .i64 1), (.int .i64 1), (.sl 308 0 4 (some 4))] true)) .nil .nil) .nil) (.node (some (.cells [(.int .i64 1), (.int .i64
  0), (.int .i64 0), (.cpx (.f 4611686018427387904) (.f 0))] true)) (.node (some (.cells [(.int .i64 4), (.int .i64 1), (.int .i64 1), (.sl 371 0 4 (some 4))] true)) .nil .nil)
  .nil)))) (.node (some (.cells [(.int .i64 1), (.int .i64 0), (.int .i64 0), (.cpx (.f 13840687554816376832) (.f 0))] true)) (.node (some (.cells [(.int .i64 0), (.int .i64 1), (.int
  .i64 0)] true)) (.node (some (.cells [(.int .i64 1), (.int .i64 0), (.int .i64 0), (.cpx (.f 4611686018427387904) (.f 0))] true)) (.node (some (.cells [(.int .i64 0), (.int .i64 0),
  (.int .i64 0)] true)) (.node (some (.cells [(.cpx (.f 4607182418800017408) (.f 0)), (.cpx (.f 4611686018427387904) (.f 0)), (.cpx (.f 13837309855095848960) (.f 0)), (.cpx (.f
  4602678819172646912) (.f 4619567317775286272))] true)) .nil .nil) .nil) (.node (some (.cells [(.cpx (.f 4607182418800017408) (.f 0)), (.cpx (.f 4611686018427387904) (.f 0)), (.cpx
  (.f 0) (.f 0))] true)) (.node (some (.cells [(.int .i64 1), (.int .i64 0), (.int .i64 0), (.cpx (.f 0) (.f 4611686018427387904)), (.int .i64 2), (.int .i64 0), (.int .i64 0), (.cpx
  (.f 0) (.f 0))] false)) .nil .nil) .nil)) (.node (some (.cells [(.int .i64 1), (.int .i64 0), (.int .i64 0), (.cpx (.f 4611686018427387904) (.f 0))] true)) (.node (some (.cells
  [(.int .i64 0), (.int .i64 1), (.int .i64 0), (.cpx (.f 0) (.f 4613937818241073152))] true)) (.node (some (.cells [(.int .i64 5), (.int .i64 1), (.int .i64 1), (.sl 305 0 5 (some
  5))] true)) .nil .nil) .nil) (.node (some (.cells [(.int .i64 1), (.int .i64 0), (.int .i64 0), (.cpx (.f 4617315517961601024) (.f 0))] true)) (.node (some (.cells [(.int .i64 3),
  (.int .i64 0), (.int .i64 0), (.cpx (.f 4617315517961601024) (.f 0))] true)) .nil .nil) .nil))) (.node (some (.cells [(.int .i64 (-1)), (.int .i64 (-1)), (.int .i64 0)] true))
  (.node (some (.cells [(.int .i64 1), (.int .i64 0), (.int .i64 0), (.cpx (.f 4611686018427387904) (.f 0))] true)) (.node (some (.cells [(.int .i64 512), (.int .i64 0), (.int .i64
  0), (.cpx (.f 4607182418800017408) (.f 0))] true)) (.node (some (.cells [(.int .i64 3), (.int .i64 1), (.int .i64 1), (.sl 286 0 3 (some 3))] true)) .nil .nil) .nil) (.node (some
  (.cells [(.int .i64 1), (.int .i64 0), (.int .i64 0)] true)) (.node (some (.cells [(.int .i64 2), (.int .i64 0), (.int .i64 0)] true)) .nil .nil) .nil)) (.node (some (.cells [(.int
  .i64 (-1)), (.int .i64 (-1)), (.int .i64 0)] true)) (.node (some (.cells [(.int .i64 512), (.int .i64 0), (.int .i64 0)] true)) (.node (some (.cells [(.int .i64 5), (.int .i64 1),
  (.int .i64 1), (.sl 316 0 5 (some 5))] true)) .nil .nil) .nil) (.node (some (.cells [(.int .i64 1), (.int .i64 0), (.int .i64 0)] true)) .nil .nil))))))) (.node (some (.map [((.agg
  [(.int .i64 1), (.int .i64 2), (.int .i64 0)]), (.c (.int .i64 1)))])) (.node (some (.cells [(.int .i64 1), (.int .i64 2), (.int .i64 0)] true)) (.node (some (.cells [(.int .u64
  4607182418800017408), (.int .u64 4607177596232733550), (.int .u64 4607163133695007814), (.int .u64 4607139046673687846), (.int .u64 4607105360961759387), (.int .u64
  4607062112630726507), (.int .u64 4607009347991985328), (.int .u64 4606947123547232624), (.int .u64 4606875505927962389), (.int .u64 4606794571824115162), (.int .u64
  4606704407901956523), (.int .u64 4606605110711272677), (.int .u64 4606496786581982534), (.int .u64 4606379551510276960), (.int .u64 4606253531034407156), (.int .u64
  4606118860100255153), (.int .u64 4605975682916830378), (.int .u64 4605824152801847042), (.int .u64 4605664432017547683), (.int .u64 4605496691596948699), (.int .u64
  4605321111160693906), (.int .u64 4605137878724712257), (.int .u64 4604947190498885672), (.int .u64 4604749250676942587), (.int .u64 4604544271217802189), (.int .u64
  4604332471618603501), (.int .u64 4604114078679662348), (.int .u64 4603889326261607894), (.int .u64 4603658455034958826), (.int .u64 4603421712222407333), (.int .u64
  4603179351334086856), (.int .u64 4602931631896107088), (.int .u64 4602678819172646912), (.int .u64 4602163548591158843), (.int .u64 4601639184639747836), (.int .u64
  4601106288820466945), (.int .u64 4600565431771507043), (.int .u64 4600017192656143146), (.int .u64 4599462158542551880), (.int .u64 4598900923775164166), (.int .u64
  4598334089338226320), (.int .u64 4597349304879225727), (.int .u64 4596196889902818827), (.int .u64 4595036948236777107), (.int .u64 4593870721975689937), (.int .u64
  4591727299969791020), (.int .u64 4589377212798040715), (.int .u64 4584876137810324206)] true)) (.node (some (.cells [(.int .i64 2), (.int .i64 1), (.int .i64 1), (.sl 11 0 2 (some
  2))] true)) (.node (some (.cells [(.int .i64 1), (.int .i64 0), (.int .i64 0), (.cpx (.f 13840687554816376832) (.f 0))] false)) (.node (some (.cells [(.int .i64 0), (.int .i64 1),
  (.int .i64 0), (.cpx (.f 0) (.f 4613937818241073152))] true)) (.node (some (.cells [(.int .i64 0), (.int .i64 1), (.int .i64 0), (.cpx (.f 0) (.f 4613937818241073152))] true))
  (.node (some (.cells [(.int .i64 0), (.int .i64 1), (.int .i64 0)] true)) .nil .nil) .nil) (.node (some (.cells [(.cpx (.f 4607182418800017408) (.f 0)), (.cpx (.f
  4611686018427387904) (.f 0)), (.cpx (.f 0) (.f 0))] true)) (.node (some (.cells [(.int .i64 1), (.int .i64 0), (.int .i64 0), (.cpx (.f 0) (.f 4611686018427387904))] true)) .nil
  .nil) .nil)) (.node (some (.cells [(.int .i64 (-1)), (.int .i64 (-1)), (.int .i64 0), (.cpx (.f 4607182418800017408) (.f 0))] true)) (.node (some (.cells [(.int .i64 512), (.int
  .i64 0), (.int .i64 0)] true)) (.node (some (.cells [(.int .i64 3), (.int .i64 1), (.int .i64 1), (.sl 286 0 3 (some 3))] true)) .nil .nil) .nil) (.node (some (.cells [(.cpx (.f 0)
  (.f 0)), (.cpx (.f 4611686018427387904) (.f 0)), (.cpx (.f 0) (.f 0))] true)) (.node (some (.cells [(.int .i64 2), (.int .i64 0), (.int .i64 0), (.cpx (.f 4613937818241073152) (.f
  0))] true)) .nil .nil) .nil))) (.node (some (.cells [(.int .i64 1), (.int .i64 0), (.int .i64 0)] true)) (.node (some (.cells [(.cpx (.f 4611686018427387904) (.f 0)), (.cpx (.f 0)
  (.f 4613937818241073152)), (.cpx (.f 4607182418800017408) (.f 0))] true)) (.node (some (.cells [(.int .i64 513), (.int .i64 0), (.int .i64 0)] true)) (.node (some (.cells [(.int
  .i64 4), (.int .i64 1), (.int .i64 1), (.sl 276 0 4 (some 4))] true)) .nil .nil) .nil) (.node (some (.cells [(.int .i64 1), (.int .i64 0), (.int .i64 0), (.cpx (.f
  4611686018427387904) (.f 0)), (.int .i64 0), (.int .i64 1), (.int .i64 0), (.cpx (.f 0) (.f 4613937818241073152)), (.int .i64 (-1)), (.int .i64 (-1)), (.int .i64 0), (.cpx (.f
  4607182418800017408) (.f 0)), (.int .i64 1), (.int .i64 0), (.int .i64 0), (.cpx (.f 4617315517961601024) (.f 0))] false)) (.node (some (.cells [(.int .i64 2), (.int .i64 0), (.int
  .i64 0)] true)) .nil .nil) .nil)) (.node (some (.cells [(.int .i64 (-2)), (.int .i64 0), (.int .i64 0)] true)) (.node (some (.cells [(.int .i64 1), (.int .i64 0), (.int .i64 0)]
  true)) (.node (some (.cells [(.int .i64 5), (.int .i64 1), (.int .i64 1), (.sl 305 0 5 (some 5))] true)) .nil .nil) .nil) (.node (some (.cells [(.int .i64 1), (.int .i64 0), (.int
  .i64 0), (.cpx (.f 4617315517961601024) (.f 0))] true)) (.node (some (.cells [(.int .i64 2), (.int .i64 0), (.int .i64 0), (.cpx (.f 4613937818241073152) (.f 0))] true)) .nil .nil)
  .nil)))) (.node (some (.cells [(.int .i64 1), (.int .i64 0), (.int .i64 0), (.cpx (.f 0) (.f 4611686018427387904))] true)) (.node (some (.cells [(.int .i64 2), (.int .i64 1), (.int
  .i64 1), (.sl 18 0 2 (some 2))] true)) (.node (some (.cells [(.int .i64 1), (.int .i64 0), (.int .i64 0), (.cpx (.f 4611686018427387904) (.f 0))] true)) (.node (some (.cells [(.int
  .i64 (-1)), (.int .i64 (-1)), (.int .i64 0), (.cpx (.f 4607182418800017408) (.f 0))] true)) (.node (some (.cells [(.int .i64 (-1)), (.int .i64 (-1)), (.int .i64 0)] true)) .nil
  .nil) .nil) (.node (some (.cells [(.int .i64 (-513)), (.int .i64 0), (.int .i64 0)] true)) (.node (some (.cells [(.int .i64 1), (.int .i64 0), (.int .i64 0), (.cpx (.f 0) (.f
  4611686018427387904))] true)) .nil .nil) .nil)) (.node (some (.cells [(.int .i64 1), (.int .i64 0), (.int .i64 0)] true)) (.node (some (.cells [(.int .i64 (-1)), (.int .i64 (-1)),
  (.int .i64 0)] true)) (.node (some (.cells [(.int .i64 0), (.int .i64 0), (.int .i64 0), .nils] true)) .nil .nil) .nil) (.node (some (.cells [(.int .i64 1), (.int .i64 0), (.int
  .i64 0), (.cpx (.f 4611686018427387904) (.f 0))] true)) (.node none .nil .nil) .nil))) (.node (some (.cells [(.int .i64 1), (.int .i64 0), (.int .i64 0), (.cpx (.f
  4611686018427387904) (.f 0))] true)) (.node (some (.cells [(.int .i64 (-1)), (.int .i64 (-1)), (.int .i64 0), (.cpx (.f 4607182418800017408) (.f 0))] true)) (.node (some (.cells
  [(.int .i64 (-513)), (.int .i64 0), (.int .i64 0)] true)) (.node (some (.cells [(.int .i64 3), (.int .i64 1), (.int .i64 1), (.sl 279 0 3 (some 3))] true)) .nil .nil) .nil) (.node
  (some (.cells [(.int .i64 (-1)), (.int .i64 (-1)), (.int .i64 0), (.cpx (.f 4607182418800017408) (.f 0))] true)) (.node (some (.cells [(.int .i64 3), (.int .i64 0), (.int .i64 0)]
  true)) .nil .nil) .nil)) (.node (some (.cells [(.int .i64 1), (.int .i64 0), (.int .i64 0), (.cpx (.f 4611686018427387904) (.f 0))] true)) (.node (some (.cells [(.int .i64 0), (.int
  .i64 1), (.int .i64 0)] true)) (.node (some (.cells [(.cpx (.f 9223372036854775808) (.f 0)), (.cpx (.f 0) (.f 0)), (.cpx (.f 9221120237041090561) (.f 0))] true)) .nil .nil) .nil)
  (.node (some (.cells [(.int .i64 0), (.int .i64 1), (.int .i64 0)] true)) .nil .nil))))) (.node (some (.cells [(.int .i64 2), (.int .i64 1), (.int .i64 1), (.sl 11 0 2 (some 2))]
  true)) (.node (some (.cells [(.int .i64 2), (.int .i64 1), (.int .i64 1), (.sl 18 0 2 (some 2))] true)) (.node (some (.cells [(.int .i64 1), (.int .i64 0), (.int .i64 0), (.cpx (.f
  0) (.f 4617315517961601024))] true)) (.node (some (.cells [(.int .i64 0), (.int .i64 1), (.int .i64 0)] true)) (.node (some (.cells [(.int .i64 (-1)), (.int .i64 (-1)), (.int .i64
  0), (.cpx (.f 4607182418800017408) (.f 0))] true)) (.node (some (.cells [(.int .i64 1), (.int .i64 0), (.int .i64 0), (.cpx (.f 4611686018427387904) (.f 0))] true)) .nil .nil) .nil)
  (.node (some (.cells [(.int .i64 (-1)), (.int .i64 (-1)), (.int .i64 0), (.cpx (.f 4607182418800017408) (.f 0))] true)) (.node (some (.cells [(.int .i64 2), (.int .i64 0), (.int
  .i64 0), (.cpx (.f 4613937818241073152) (.f 0))] true)) .nil .nil) .nil)) (.node (some (.cells [(.int .i64 (-1)), (.int .i64 (-1)), (.int .i64 0), (.cpx (.f 4607182418800017408) (.f
  0))] true)) (.node (some (.cells [(.int .i64 1), (.int .i64 0), (.int .i64 0)] true)) (.node (some (.cells [(.int .i64 0), (.int .i64 0), (.int .i64 0), .nils] true)) .nil .nil)
  .nil) (.node (some (.cells [(.int .i64 0), (.int .i64 1), (.int .i64 0), (.cpx (.f 0) (.f 4613937818241073152))] true)) (.node (some (.cells [(.int .i64 1), (.int .i64 0), (.int
  .i64 0), (.cpx (.f 0) (.f 4611686018427387904))] true)) .nil .nil) .nil))) (.node (some (.cells [(.int .i64 (-1)), (.int .i64 (-1)), (.int .i64 0)] true)) (.node (some (.cells
  [(.int .i64 1), (.int .i64 0), (.int .i64 0), (.cpx (.f 4611686018427387904) (.f 0))] true)) (.node (some (.cells [(.int .i64 0), (.int .i64 0), (.int .i64 0)] true)) (.node (some
  (.cells [(.cpx (.f 4607182418800017408) (.f 0)), (.cpx (.f 4611686018427387904) (.f 0)), (.cpx (.f 4613937818241073152) (.f 0)), (.cpx (.f 13826050856027422720) (.f 0))] true)) .nil
  .nil) .nil) (.node (some (.cells [(.int .i64 1), (.int .i64 0), (.int .i64 0), (.cpx (.f 4611686018427387904) (.f 0))] true)) (.node (some (.cells [(.int .i64 1), (.int .i64 0),
  (.int .i64 0)] true)) .nil .nil) .nil)) (.node (some (.cells [(.cpx (.f 4611686018427387904) (.f 0)), (.cpx (.f 4611686018427387904) (.f 0)), (.cpx (.f 0) (.f 0))] true)) (.node
  (some (.cells [(.int .i64 1), (.int .i64 0), (.int .i64 0)] true)) (.node (some (.cells [(.cpx (.f 4607182418800017408) (.f 0)), (.cpx (.f 4611686018427387904) (.f 0)), (.cpx (.f
  4613937818241073152) (.f 0)), (.cpx (.f 13826050856027422720) (.f 0))] true)) .nil .nil) .nil) (.node (some (.map [((.agg [(.int .i64 1), (.int .i64 0), (.int .i64 0)]), (.c (.int
  .i64 2))), ((.agg [(.int .i64 0), (.int .i64 1), (.int .i64 0)]), (.c (.int .i64 1))), ((.agg [(.int .i64 (-1)), (.int .i64 (-1)), (.int .i64 0)]), (.c (.int .i64 1)))])) (.node
  (some (.cells [(.int .i64 4), (.int .i64 1), (.int .i64 1), (.sl 371 0 4 (some 4))] true)) .nil .nil) .nil)))) (.node (some (.map [((.agg [(.int .i64 1), (.int .i64 0), (.int .i64
  0)]), (.c (.int .i64 1)))])) (.node (some (.cells [(.int .i64 1), (.int .i64 0), (.int .i64 0)] true)) (.node (some (.cells [(.int .i64 (-1)), (.int .i64 (-1)), (.int .i64 0)]
  true)) (.node (some (.cells [(.int .i64 513), (.int .i64 0), (.int .i64 0)] true)) (.node (some (.cells [(.cpx (.f 4611686018427387904) (.f 0)), (.cpx (.f 0) (.f
  4613937818241073152)), (.cpx (.f 4607182418800017408) (.f 0))] true)) .nil .nil) .nil) (.node (some (.cells [(.int .i64 512), (.int .i64 0), (.int .i64 0), (.cpx (.f
  4607182418800017408) (.f 0))] true)) (.node (some (.cells [] true)) .nil .nil) .nil)) (.node (some (.cells [(.int .i64 1), (.int .i64 0), (.int .i64 0)] true)) (.node (some (.cells
  [(.int .i64 (-1)), (.int .i64 (-1)), (.int .i64 0), (.cpx (.f 4607182418800017408) (.f 0)), (.int .i64 0), (.int .i64 1), (.int .i64 0), (.cpx (.f 0) (.f 4613937818241073152)),
  (.int .i64 1), (.int .i64 0), (.int .i64 0), (.cpx (.f 4611686018427387904) (.f 0)), (.int .i64 512), (.int .i64 0), (.int .i64 0), (.cpx (.f 4607182418800017408) (.f 0))] false))
  (.node (some (.cells [(.int .i64 5), (.int .i64 1), (.int .i64 1), (.sl 298 0 5 (some 5))] true)) .nil .nil) .nil) (.node (some (.cells [(.int .i64 (-1)), (.int .i64 (-1)), (.int
  .i64 0), (.cpx (.f 4607182418800017408) (.f 0))] true)) (.node (some (.cells [(.int .i64 3), (.int .i64 0), (.int .i64 0), (.cpx (.f 4613937818241073152) (.f 4616189618054758400))]
  true)) .nil .nil) .nil))) (.node (some (.cells [(.int .i64 1), (.int .i64 0), (.int .i64 0), (.cpx (.f 4611686018427387904) (.f 0))] true)) (.node (some (.cells [(.int .i64 0),
  (.int .i64 1), (.int .i64 0), (.cpx (.f 0) (.f 4613937818241073152))] true)) (.node (some (.cells [(.cpx (.f 0) (.f 0)), (.cpx (.f 0) (.f 0)), (.cpx (.f 0) (.f 0))] true)) (.node
  (some (.cells [(.int .i64 3), (.int .i64 1), (.int .i64 1), (.sl 279 0 3 (some 3))] true)) .nil .nil) .nil) (.node (some (.cells [(.int .i64 7), (.int .i64 0), (.int .i64 0)] true))
  (.node (some (.cells [(.int .i64 1), (.int .i64 0), (.int .i64 0), (.cpx (.f 13840687554816376832) (.f 0))] true)) .nil .nil) .nil)) (.node (some (.cells [(.int .i64 (-1)), (.int
  .i64 (-1)), (.int .i64 0), (.cpx (.f 4607182418800017408) (.f 0))] true)) (.node (some (.cells [(.int .i64 1), (.int .i64 0), (.int .i64 0)] true)) (.node (some (.cells [(.cpx (.f
  13840687554816376832) (.f 0)), (.cpx (.f 13841813454723219456) (.f 0)), (.cpx (.f 13842939354630062080) (.f 0)), (.cpx (.f 13844065254536904704) (.f 0)), (.cpx (.f
  13844628204490326016) (.f 0))] true)) .nil .nil) .nil) (.node (some (.cells [(.int .i64 1), (.int .i64 0), (.int .i64 0)] true)) .nil .nil)))))) (.node (some (.cells [(.int .i64 1),
  (.int .i64 2), (.int .i64 0), (.cpx (.f 4607182418800017408) (.f 4611686018427387904))] false)) (.node (some (.cells [(.int .i64 1), (.int .i64 2), (.int .i64 0), (.cpx (.f
  13835058055282163712) (.f 4607182418800017408))] false)) (.node (some (.cells [(.cpx (.f 4607182418800017408) (.f 0)), (.cpx (.f 4613937818241073152) (.f 0))] true)) (.node (some
  (.cells [(.int .i64 1), (.int .i64 0), (.int .i64 0), (.cpx (.f 0) (.f 4611686018427387904))] true)) (.node (some (.cells [(.int .i64 0), (.int .i64 1), (.int .i64 0)] true)) (.node
  (some (.cells [(.int .i64 0), (.int .i64 1), (.int .i64 0)] true)) (.node (some (.cells [(.cpx (.f 4611686018427387904) (.f 0)), (.cpx (.f 0) (.f 4613937818241073152)), (.cpx (.f
  4607182418800017408) (.f 0))] true)) .nil .nil) .nil) (.node (some (.cells [(.int .i64 1), (.int .i64 0), (.int .i64 0), (.cpx (.f 4611686018427387904) (.f 0))] true)) (.node (some
  (.cells [(.int .i64 1), (.int .i64 0), (.int .i64 0), (.cpx (.f 0) (.f 4611686018427387904)), (.int .i64 2), (.int .i64 0), (.int .i64 0), (.cpx (.f 0) (.f 0))] true)) .nil .nil)
  .nil)) (.node (some (.cells [(.int .i64 (-1)), (.int .i64 (-1)), (.int .i64 0)] true)) (.node (some (.map [((.agg [(.int .i64 1), (.int .i64 0), (.int .i64 0)]), (.c (.int .i64
  1))), ((.agg [(.int .i64 0), (.int .i64 1), (.int .i64 0)]), (.c (.int .i64 1))), ((.agg [(.int .i64 (-1)), (.int .i64 (-1)), (.int .i64 0)]), (.c (.int .i64 1))), ((.agg [(.int
  .i64 512), (.int .i64 0), (.int .i64 0)]), (.c (.int .i64 1)))])) (.node (some (.cells [(.int .i64 1), (.int .i64 1), (.int .i64 1), (.sl 289 0 1 (some 1))] true)) .nil .nil) .nil)
  (.node (some (.cells [(.int .i64 7), (.int .i64 0), (.int .i64 0)] true)) (.node (some (.cells [(.int .i64 2), (.int .i64 0), (.int .i64 0)] true)) .nil .nil) .nil))) (.node (some
  (.cells [(.int .i64 0), (.int .i64 1), (.int .i64 0)] true)) (.node (some (.cells [(.int .i64 1), (.int .i64 0), (.int .i64 0)] true)) (.node (some (.cells [(.int .i64 0), (.int
  .i64 1), (.int .i64 0), (.cpx (.f 0) (.f 4613937818241073152))] true)) (.node (some (.cells [(.int .i64 4), (.int .i64 1), (.int .i64 1), (.sl 269 0 4 (some 4))] true)) .nil .nil)
  .nil) (.node (some (.cells [(.int .i64 1), (.int .i64 0), (.int .i64 0)] true)) (.node (some (.map [((.agg [(.int .i64 1), (.int .i64 0), (.int .i64 0)]), (.c (.int .i64 1))),
  ((.agg [(.int .i64 2), (.int .i64 0), (.int .i64 0)]), (.c (.int .i64 1))), ((.agg [(.int .i64 3), (.int .i64 0), (.int .i64 0)]), (.c (.int .i64 1)))])) .nil .nil) .nil)) (.node
  (some (.cells [(.int .i64 0), (.int .i64 1), (.int .i64 0), (.cpx (.f 0) (.f 4613937818241073152))] true)) (.node (some (.cells [(.int .i64 1), (.int .i64 0), (.int .i64 0), (.cpx
  (.f 4611686018427387904) (.f 0))] true)) (.node (some (.cells [(.int .i64 5), (.int .i64 1), (.int .i64 1), (.sl 305 0 5 (some 5))] true)) .nil .nil) .nil) (.node (some (.cells
  [(.int .i64 1), (.int .i64 0), (.int .i64 0)] true)) (.node (some (.cells [(.int .i64 1), (.int .i64 0), (.int .i64 0), (.cpx (.f 0) (.f 4617315517961601024)), (.int .i64 2), (.int
  .i64 0), (.int .i64 0), (.cpx (.f 4613937818241073152) (.f 0)), (.int .i64 3), (.int .i64 0), (.int .i64 0), (.cpx (.f 4617315517961601024) (.f 0))] true)) .nil .nil) .nil))))
  (.node (some (.cells [] true)) (.node (some (.cells [(.int .i64 1), (.int .i64 0), (.int .i64 0), (.cpx (.f 4611686018427387904) (.f 0))] true)) (.node (some (.cells [(.int .i64 1),
  (.int .i64 0), (.int .i64 0), (.cpx (.f 4611686018427387904) (.f 0))] true)) (.node (some (.cells [(.int .i64 (-1)), (.int .i64 (-1)), (.int .i64 0)] true)) (.node (some (.cells
  [(.int .i64 0), (.int .i64 1), (.int .i64 0), (.cpx (.f 0) (.f 4613937818241073152))] true)) .nil .nil) .nil) (.node (some (.cells [(.int .i64 0), (.int .i64 1), (.int .i64 0),
  (.cpx (.f 0) (.f 4613937818241073152))] true)) (.node (some (.cells [(.int .i64 2), (.int .i64 0), (.int .i64 0), (.cpx (.f 0) (.f 0))] true)) .nil .nil) .nil)) (.node (some (.cells
  [(.cpx (.f 4611686018427387904) (.f 0)), (.cpx (.f 4611686018427387904) (.f 0)), (.cpx (.f 0) (.f 0))] true)) (.node (some (.cells [(.int .i64 512), (.int .i64 0), (.int .i64 0)]
  true)) (.node (some (.cells [(.cpx (.f 4617315517961601024) (.f 0)), (.cpx (.f 4618441417868443648) (.f 0)), (.cpx (.f 4619567317775286272) (.f 0)), (.cpx (.f 4620693217682128896)
  (.f 0)), (.cpx (.f 4621256167635550208) (.f 0))] true)) .nil .nil) .nil) (.node (some (.cells [(.int .i64 1), (.int .i64 0), (.int .i64 0), (.cpx (.f 4611686018427387904) (.f 0))]
  true)) (.node (some (.cells [(.int .i64 2), (.int .i64 0), (.int .i64 0), (.cpx (.f 4613937818241073152) (.f 0))] true)) .nil .nil) .nil))) (.node (some (.cells [(.int .i64 1),
  (.int .i64 0), (.int .i64 0)] true)) (.node (some (.cells [] true)) (.node (some (.cells [(.int .i64 0), (.int .i64 1), (.int .i64 0), (.cpx (.f 0) (.f 4613937818241073152))] true))
  (.node (some (.cells [(.int .i64 3), (.int .i64 1), (.int .i64 1), (.sl 286 0 3 (some 3))] true)) .nil .nil) .nil) (.node (some (.cells [(.int .i64 1), (.int .i64 0), (.int .i64 0),
  (.cpx (.f 4617315517961601024) (.f 0))] true)) (.node (some (.cells [(.int .i64 1), (.int .i64 0), (.int .i64 0), (.cpx (.f 13840687554816376832) (.f 0)), (.int .i64 2), (.int .i64
  0), (.int .i64 0), (.cpx (.f 4613937818241073152) (.f 0)), (.int .i64 3), (.int .i64 0), (.int .i64 0), (.cpx (.f 4613937818241073152) (.f 4616189618054758400))] false)) .nil .nil)
  .nil)) (.node (some (.cells [(.int .i64 0), (.int .i64 1), (.int .i64 0), (.cpx (.f 0) (.f 4613937818241073152))] true)) (.node (some (.cells [(.int .i64 1), (.int .i64 0), (.int
  .i64 0), (.cpx (.f 4611686018427387904) (.f 0))] true)) (.node (some (.cells [(.int .i64 3), (.int .i64 1), (.int .i64 1), (.sl 286 0 3 (some 3))] true)) .nil .nil) .nil) (.node
  (some (.cells [(.int .i64 (-1)), (.int .i64 (-1)), (.int .i64 0)] true)) .nil .nil))))) (.node (some (.cells [(.int .i64 2), (.int .i64 1), (.int .i64 1), (.sl 18 0 2 (some 2))]
  true)) (.node (some (.cells [(.int .i64 1), (.int .i64 0), (.int .i64 0), (.cpx (.f 13840687554816376832) (.f 0))] true)) (.node (some (.cells [(.cpx (.f 4607182418800017408) (.f
  0)), (.cpx (.f 4613937818241073152) (.f 0))] true)) (.node (some (.cells [(.cpx (.f 4611686018427387904) (.f 0)), (.cpx (.f 0) (.f 4613937818241073152)), (.cpx (.f
  4607182418800017408) (.f 0))] true)) (.node (some (.cells [(.int .i64 (-1)), (.int .i64 (-1)), (.int .i64 0)] true)) (.node (some (.cells [(.int .i64 1), (.int .i64 0), (.int .i64
  0), (.cpx (.f 4611686018427387904) (.f 0))] true)) .nil .nil) .nil) (.node (some (.cells [(.int .i64 1), (.int .i64 0), (.int .i64 0)] true)) (.node (some (.cells [(.int .i64 1),
  (.int .i64 0), (.int .i64 0), (.cpx (.f 13840687554816376832) (.f 0)), (.int .i64 2), (.int .i64 0), (.int .i64 0), (.cpx (.f 4613937818241073152) (.f 0)), (.int .i64 3), (.int .i64
  0), (.int .i64 0), (.cpx (.f 4613937818241073152) (.f 4616189618054758400))] true)) .nil .nil) .nil)) (.node (some (.cells [(.int .i64 (-1)), (.int .i64 (-1)), (.int .i64 0)] true))
  (.node (some (.cells [(.int .i64 0), (.int .i64 1), (.int .i64 0)] true)) (.node (some (.cells [(.cpx (.f 4607182418800017408) (.f 0))] true)) .nil .nil) .nil) (.node (some (.cells
  [(.int .i64 1), (.int .i64 0), (.int .i64 0), (.cpx (.f 4617315517961601024) (.f 0))] true)) (.node (some (.cells [(.int .i64 1), (.int .i64 0), (.int .i64 0), (.cpx (.f
  13840687554816376832) (.f 0))] true)) .nil .nil) .nil))) (.node (some (.cells [(.int .i64 (-1)), (.int .i64 (-1)), (.int .i64 0), (.cpx (.f 4607182418800017408) (.f 0)), (.int .i64
  0), (.int .i64 1), (.int .i64 0), (.cpx (.f 0) (.f 4613937818241073152)), (.int .i64 1), (.int .i64 0), (.int .i64 0), (.cpx (.f 4611686018427387904) (.f 0))] false)) (.node (some
  (.cells [(.int .i64 0), (.int .i64 1), (.int .i64 0), (.cpx (.f 0) (.f 4613937818241073152))] true)) (.node (some (.cells [(.int .i64 0), (.int .i64 1), (.int .i64 0), (.cpx (.f 0)
  (.f 4613937818241073152))] true)) (.node (some (.cells [(.int .i64 4), (.int .i64 1), (.int .i64 1), (.sl 276 0 4 (some 4))] true)) .nil .nil) .nil) (.node (some (.cells [(.int .i64
  0), (.int .i64 1), (.int .i64 0), (.cpx (.f 0) (.f 4613937818241073152))] true)) (.node (some (.cells [(.int .i64 2), (.int .i64 0), (.int .i64 0)] true)) .nil .nil) .nil)) (.node
  (some (.cells [(.int .i64 0), (.int .i64 0), (.int .i64 0)] true)) (.node (some (.cells [(.int .i64 0), (.int .i64 1), (.int .i64 0), (.cpx (.f 0) (.f 4613937818241073152))] true))
  (.node (some (.cells [(.int .i64 4), (.int .i64 1), (.int .i64 1), (.sl 276 0 4 (some 4))] true)) .nil .nil) .nil) (.node (some (.cells [(.int .i64 1), (.int .i64 0), (.int .i64 0)]
  true)) .nil .nil)))) (.node (some (.cells [(.int .i64 1), (.int .i64 0), (.int .i64 0)] true)) (.node (some (.map [((.agg [(.int .i64 1), (.int .i64 0), (.int .i64 0)]), (.c (.int
  .i64 1))), ((.agg [(.int .i64 0), (.int .i64 1), (.int .i64 0)]), (.c (.int .i64 1))), ((.agg [(.int .i64 (-1)), (.int .i64 (-1)), (.int .i64 0)]), (.c (.int .i64 1)))])) (.node
  (some (.cells [(.int .i64 0), (.int .i64 1), (.int .i64 0), (.cpx (.f 0) (.f 4613937818241073152))] true)) (.node (some (.cells [(.cpx (.f 0) (.f 0)), (.cpx (.f 0) (.f 0)), (.cpx
  (.f 0) (.f 0))] true)) (.node (some (.cells [(.int .i64 4), (.int .i64 1), (.int .i64 1), (.sl 269 0 4 (some 4))] true)) .nil .nil) .nil) (.node (some (.cells [(.int .i64 1), (.int
  .i64 0), (.int .i64 0), (.cpx (.f 4617315517961601024) (.f 0))] true)) (.node (some (.cells [(.int .i64 2), (.int .i64 0), (.int .i64 0), (.cpx (.f 0) (.f 0))] true)) .nil .nil)
  .nil)) (.node (some (.cells [(.int .i64 1), (.int .i64 0), (.int .i64 0)] true)) (.node (some (.cells [(.int .i64 1), (.int .i64 0), (.int .i64 0), (.cpx (.f 4611686018427387904)
  (.f 0))] true)) (.node (some (.cells [(.int .i64 5), (.int .i64 1), (.int .i64 1), (.sl 298 0 5 (some 5))] true)) .nil .nil) .nil) (.node (some (.cells [(.cpx (.f 0) (.f 0)), (.cpx
  (.f 4611686018427387904) (.f 0)), (.cpx (.f 0) (.f 0))] true)) (.node (some (.cells [(.int .i64 1), (.int .i64 0), (.int .i64 0), (.cpx (.f 0) (.f 4617315517961601024)), (.int .i64
  2), (.int .i64 0), (.int .i64 0), (.cpx (.f 4613937818241073152) (.f 0)), (.int .i64 3), (.int .i64 0), (.int .i64 0), (.cpx (.f 4617315517961601024) (.f 0))] false)) .nil .nil)
  .nil))) (.node (some (.cells [(.int .i64 1), (.int .i64 0), (.int .i64 0)] true)) (.node (some (.cells [(.int .i64 0), (.int .i64 1), (.int .i64 0)] true)) (.node (some (.cells
  [(.int .i64 512), (.int .i64 0), (.int .i64 0), (.cpx (.f 4607182418800017408) (.f 0))] true)) (.node (some (.cells [(.cpx (.f 9223372036854775808) (.f 0)), (.cpx (.f 0) (.f 0)),
  (.cpx (.f 9221120237041090561) (.f 0))] true)) .nil .nil) .nil) (.node (some (.cells [(.int .i64 7), (.int .i64 0), (.int .i64 0)] true)) (.node (some (.cells [(.int .i64 1), (.int
  .i64 0), (.int .i64 0)] true)) .nil .nil) .nil)) (.node (some (.cells [] true)) (.node (some (.cells [(.int .i64 1), (.int .i64 0), (.int .i64 0)] true)) (.node (some (.cells [(.int
  .i64 5), (.int .i64 1), (.int .i64 1), (.sl 305 0 5 (some 5))] true)) .nil .nil) .nil) (.node (some (.cells [(.int .i64 0), (.int .i64 1), (.int .i64 0)] true)) .nil .nil))))))))

def t21 : Tr AT :=
  (.node (some (.v (.c (.bool false)))) (.node (some (.v (.c (.sl 43 0 3 (some 3))))) (.node (some (.v (.c (.int .i64 0)))) (.node (some (.v (.c (.int .i64 7)))) (.node (some (.v (.c
  (.flt (.f 9221120237041090561))))) (.node none (.node (some (.v (.agg [(.int .i64 (-1)), (.int .i64 (-1)), (.int .i64 0), (.cpx (.f 4607182418800017408) (.f 0))]))) (.node (some (.v
  (.c (.int .i64 1)))) (.node (some (.v (.agg [(.int .i64 4), (.int .i64 1), (.int .i64 1), (.sl 708 0 4 (some 4))]))) .nil .nil) .nil) (.node (some (.v (.c (.bool false)))) .nil
  .nil)) (.node (some (.v (.c (.int .i64 9)))) (.node (some (.v (.agg [(.int .i64 3), (.int .i64 1), (.int .i64 1), (.sl 286 0 3 (some 3))]))) .nil .nil) (.node (some (.v (.c (.bool
  true)))) .nil .nil))) (.node none (.node (some (.tup [(.c (.cpx (.f 0) (.f 0))), (.c (.int .i64 1))])) (.node (some (.v (.c (.flt (.f 9221120237041090561))))) .nil .nil) (.node
  (some (.v (.c (.bool false)))) .nil .nil)) (.node (some (.v (.agg [(.int .i64 1), (.int .i64 0), (.int .i64 0)]))) (.node (some (.v (.c (.int .i64 3)))) .nil .nil) (.node (some (.v
  (.c (.bool false)))) .nil .nil)))) (.node none (.node none (.node (some (.v (.c (.int .i64 0)))) (.node (some (.v (.c (.int .i64 9)))) .nil .nil) (.node (some (.v (.c (.cpx (.f
  9223372036854775808) (.f 0))))) .nil .nil)) (.node (some (.tup [(.c (.cpx (.f 0) (.f 0))), (.c (.int .i64 9))])) (.node (some (.v (.c (.int .i64 7)))) .nil .nil) (.node (some (.v
  (.agg [(.int .i64 2), (.int .i64 0), (.int .i64 0), (.cpx (.f 4613937818241073152) (.f 0))]))) .nil .nil))) (.node (some (.v (.c (.bool true)))) (.node (some (.v (.c (.sl 43 0 3
  (some 3))))) (.node (some (.v (.c (.flt (.f 9223372036854775808))))) .nil .nil) (.node (some (.v (.c (.bool false)))) .nil .nil)) (.node (some (.v (.c (.cpx (.f 0) (.f
  4618441417868443648))))) (.node (some (.v (.c (.int .i64 0)))) .nil .nil) (.node (some (.v (.c (.bool false)))) .nil .nil))))) (.node (some (.v (.c (.int .i64 0)))) (.node (some (.v
  (.c (.osl 366 3 4)))) (.node none (.node (some (.v (.agg [(.int .i64 1), (.int .i64 0), (.int .i64 0)]))) (.node (some (.v (.c (.int .i64 9)))) .nil .nil) (.node (some (.v (.c
  (.bool false)))) .nil .nil)) (.node (some (.v (.c (.sl 207 0 1 (some 1))))) (.node (some (.v (.agg [(.int .i64 1), (.int .i64 1), (.int .i64 1), (.sl 289 0 1 (some 1))]))) .nil
  .nil) (.node (some (.v (.agg [(.int .i64 1), (.int .i64 0), (.int .i64 0), (.cpx (.f 0) (.f 4611686018427387904))]))) .nil .nil))) (.node none (.node (some (.tup [(.c (.cpx (.f 0)
  (.f 0))), (.c (.int .i64 1))])) (.node (some (.tup [(.agg [(.int .i64 4), (.int .i64 1), (.int .i64 1), (.sl 276 0 4 (some 4))]), (.c (.int .i64 0))])) .nil .nil) (.node (some (.v
  (.c (.bool false)))) .nil .nil)) (.node (some (.v (.c (.int .i64 10)))) (.node (some (.v (.c (.flt (.f 9218868437227405312))))) .nil .nil) (.node (some (.v (.agg [(.int .i64 3),
  (.int .i64 0), (.int .i64 0), (.cpx (.f 4617315517961601024) (.f 0))]))) .nil .nil)))) (.node none (.node none (.node (some (.v (.agg [(.int .i64 1), (.int .i64 0), (.int .i64
  0)]))) (.node (some (.v (.c (.int .i64 10)))) .nil .nil) (.node (some (.v (.agg [(.int .i64 3), (.int .i64 1), (.int .i64 1), (.sl 312 0 3 (some 3))]))) .nil .nil)) (.node (some (.v
  (.c (.sl 43 0 3 (some 3))))) (.node (some (.v (.agg [(.int .i64 2), (.int .i64 1), (.int .i64 1), (.sl 294 0 1 (some 1))]))) .nil .nil) (.node (some (.v (.c (.osl 366 3 4)))) .nil
  .nil))) (.node (some (.v (.agg [(.int .i64 1), (.int .i64 0), (.int .i64 0), (.cpx (.f 4611686018427387904) (.f 0))]))) (.node (some (.v (.agg [(.int .i64 512), (.int .i64 0), (.int
  .i64 0)]))) (.node (some (.v (.c (.cpx (.f 9221120237041090561) (.f 4607182418800017408))))) .nil .nil) (.node (some (.v (.c (.bool false)))) .nil .nil)) (.node (some (.v (.c (.int
  .i64 9)))) (.node (some (.v (.c (.sl 308 0 4 (some 4))))) .nil .nil) (.node (some (.v (.agg [(.int .i64 0), (.int .i64 0), (.int .i64 0), (.cpx (.f 4616189618054758400) (.f 0))])))
  .nil .nil)))))) (.node (some (.v (.c (.int .i64 0)))) (.node (some (.v (.c (.int .i64 3)))) (.node (some (.v (.c (.ptr 288 0)))) (.node none (.node (some (.tup [(.c (.cpx (.f 0) (.f
  4618441417868443648))), (.c (.int .i64 0))])) (.node (some (.v (.c (.bool false)))) (.node (some (.v (.c (.int .i64 0)))) .nil .nil) .nil) (.node (some (.v (.c (.int .i64 0)))) .nil
  .nil)) (.node (some (.v (.c (.sl 43 0 3 (some 3))))) (.node (some (.tup [(.agg [(.int .i64 0), (.int .i64 0), (.int .i64 0), .nils]), (.c (.int .i64 7))])) .nil .nil) (.node (some
  (.v (.c (.bool false)))) .nil .nil))) (.node none (.node (some (.v (.agg [(.int .i64 513), (.int .i64 0), (.int .i64 0)]))) (.node (some (.v (.c (.sl 269 0 4 (some 4))))) .nil .nil)
  (.node (some (.v (.c (.bool false)))) .nil .nil)) (.node (some (.tup [(.c (.cpx (.f 0) (.f 0))), (.c (.int .i64 10))])) (.node (some (.v (.c (.sl 298 0 5 (some 5))))) .nil .nil)
  (.node (some (.v (.agg [(.int .i64 1), (.int .i64 0), (.int .i64 0), (.cpx (.f 0) (.f 4617315517961601024))]))) .nil .nil)))) (.node none (.node none (.node (some (.v (.c (.sl 43 0
  3 (some 3))))) (.node (some (.v (.c (.bool false)))) .nil .nil) (.node (some (.v (.c (.cpx (.f 9221120237041090561) (.f 0))))) .nil .nil)) (.node (some (.v (.c (.int .i64 9))))
  (.node (some (.v (.agg [(.int .i64 2), (.int .i64 1), (.int .i64 1)]))) .nil .nil) (.node (some (.v (.c (.sl 326 0 3 (some 3))))) .nil .nil))) (.node (some (.v (.c (.bool false))))
  (.node (some (.v (.c (.sl 158 0 1 (some 1))))) (.node (some (.v (.c (.cpx (.f 9223372036854775808) (.f 9223372036854775808))))) .nil .nil) (.node (some (.v (.c (.bool false)))) .nil
  .nil)) (.node (some (.v (.c (.bool false)))) (.node (some (.v (.c (.bool false)))) .nil .nil) (.node (some (.v (.agg [(.int .i64 4), (.int .i64 1), (.int .i64 1), (.sl 371 0 4 (some
  4))]))) .nil .nil))))) (.node (some (.v (.c (.int .i64 10)))) (.node (some (.v (.c (.ptr 775 0)))) (.node none (.node (some (.tup [(.c (.cpx (.f 0) (.f 4618441417868443648))), (.c
  (.int .i64 0))])) (.node (some (.v (.c (.bool false)))) .nil .nil) (.node (some (.v (.agg [(.int .i64 3), (.int .i64 1), (.int .i64 1), (.sl 286 0 3 (some 3))]))) .nil .nil)) (.node
  (some (.v (.agg [(.int .i64 7), (.int .i64 0), (.int .i64 0)]))) (.node (some (.tup [(.agg [(.int .i64 0), (.int .i64 0), (.int .i64 0), .nils]), (.c (.int .i64 7))])) .nil .nil)
  (.node (some (.v (.c (.sl 322 0 2 (some 2))))) .nil .nil))) (.node none (.node (some (.v (.c (.int .i64 1)))) (.node (some (.v (.c (.int .i64 0)))) .nil .nil) (.node (some (.v (.c
  (.bool false)))) .nil .nil)) (.node (some (.v (.c (.bool false)))) (.node (some (.v (.agg [(.int .i64 5), (.int .i64 1), (.int .i64 1), (.sl 305 0 5 (some 5))]))) .nil .nil) (.node
  (some (.v (.c (.bool true)))) .nil .nil)))) (.node none (.node none (.node (some (.v (.c (.cpx (.f 0) (.f 0))))) (.node (some (.v (.c (.bool false)))) .nil .nil) (.node (some (.v
  (.c (.bool false)))) .nil .nil)) (.node (some (.v (.c (.sl 240 0 1 (some 1))))) (.node (some (.tup [(.agg [(.int .i64 0), (.int .i64 0), (.int .i64 0), .nils]), (.c (.int .i64
  3))])) .nil .nil) (.node (some (.v (.c (.int .i64 0)))) .nil .nil))) (.node (some (.v (.agg [(.int .i64 0), (.int .i64 1), (.int .i64 0), (.cpx (.f 0) (.f 4613937818241073152))])))
  (.node (some (.tup [(.c (.cpx (.f 0) (.f 0))), (.c (.int .i64 9))])) (.node (some (.v (.agg [(.int .i64 3), (.int .i64 1), (.int .i64 1), (.sl 279 0 3 (some 3))]))) .nil .nil)
  (.node (some (.v (.c (.sl 316 0 5 (some 5))))) .nil .nil)) (.node (some (.v (.c (.bool false)))) (.node (some (.v (.c (.bool true)))) .nil .nil) (.node (some (.v (.agg [(.int .i64
  4), (.int .i64 1), (.int .i64 1), (.sl 371 0 4 (some 4))]))) .nil .nil))))))) (.node (some (.v (.c (.cpx (.f 0) (.f 4618441417868443648))))) (.node (some (.v (.c (.cpx (.f 0) (.f
  0))))) (.node (some (.v (.c (.cpx (.f 0) (.f 0))))) (.node (some (.v (.c (.ptr 278 0)))) (.node none (.node (some (.v (.c (.sl 43 0 3 (some 3))))) (.node (some (.v (.c (.bool
  false)))) (.node (some (.v (.c (.osl 774 1 1)))) .nil .nil) .nil) (.node (some (.v (.c (.bool false)))) .nil .nil)) (.node (some (.tup [(.c (.cpx (.f 0) (.f 0))), (.c (.int .i64
  9))])) (.node (some (.v (.c (.int .i64 0)))) .nil .nil) (.node (some (.v (.c (.bool false)))) .nil .nil))) (.node none (.node (some (.v (.c (.sl 43 0 3 (some 3))))) (.node (some
  (.tup [(.agg [(.int .i64 4), (.int .i64 1), (.int .i64 1), (.sl 276 0 4 (some 4))]), (.c (.int .i64 0))])) .nil .nil) (.node (some (.v (.c (.int .i64 7)))) .nil .nil)) (.node (some
  (.v (.agg [(.int .i64 0), (.int .i64 1), (.int .i64 0)]))) (.node (some (.tup [(.agg [(.int .i64 5), (.int .i64 1), (.int .i64 1), (.sl 305 0 5 (some 5))]), (.c (.int .i64 0))]))
  .nil .nil) (.node (some (.v (.c (.osl 366 3 4)))) .nil .nil)))) (.node none (.node none (.node (some (.tup [(.c (.cpx (.f 0) (.f 0))), (.c (.int .i64 9))])) (.node (some (.v (.c
  (.bool false)))) .nil .nil) (.node (some (.v (.c (.flt (.f 9221120237041090561))))) .nil .nil)) (.node (some (.v (.c (.cpx (.f 0) (.f 0))))) (.node (some (.tup [(.agg [(.int .i64
  0), (.int .i64 0), (.int .i64 0), .nils]), (.c (.int .i64 3))])) .nil .nil) (.node (some (.v (.agg [(.int .i64 3), (.int .i64 0), (.int .i64 0), (.cpx (.f 4613937818241073152) (.f
  4616189618054758400))]))) .nil .nil))) (.node (some (.v (.c (.bool false)))) (.node (some (.v (.agg [(.int .i64 512), (.int .i64 0), (.int .i64 0), (.cpx (.f 4607182418800017408)
  (.f 0))]))) (.node (some (.v (.c (.flt (.f 9223372036854775808))))) .nil .nil) (.node (some (.v (.c (.int .i64 0)))) .nil .nil)) (.node (some (.v (.c (.bool false)))) (.node (some
  (.v (.c (.bool false)))) .nil .nil) (.node (some (.v (.c (.sl 371 0 4 (some 4))))) .nil .nil))))) (.node (some (.v (.c (.cpx (.f 0) (.f 0))))) (.node (some (.v (.c (.ptr 373 0))))
  (.node none (.node (some (.v (.agg [(.int .i64 0), (.int .i64 1), (.int .i64 0)]))) (.node (some (.v (.c (.bool false)))) .nil .nil) (.node (some (.v (.c (.bool false)))) .nil
  .nil)) (.node (some (.v (.c (.osl 208 4 4)))) (.node (some (.v (.c (.flt (.f 9221120237041090561))))) .nil .nil) (.node (some (.v (.agg [(.int .i64 2), (.int .i64 0), (.int .i64 0),
  (.cpx (.f 0) (.f 0))]))) .nil .nil))) (.node none (.node (some (.v (.c (.cpx (.f 0) (.f 0))))) (.node (some (.v (.agg [(.int .i64 4), (.int .i64 1), (.int .i64 1), (.sl 276 0 4
  (some 4))]))) .nil .nil) (.node (some (.v (.c (.int .i64 3)))) .nil .nil)) (.node (some (.v (.c (.int .i64 0)))) (.node (some (.tup [(.agg [(.int .i64 5), (.int .i64 1), (.int .i64
  1), (.sl 305 0 5 (some 5))]), (.c (.int .i64 0))])) .nil .nil) (.node (some (.v (.c (.sl 370 0 3 (some 3))))) .nil .nil)))) (.node none (.node none (.node (some (.tup [(.c (.cpx (.f
  0) (.f 0))), (.c (.int .i64 9))])) (.node (some (.v (.c (.bool false)))) .nil .nil) (.node (some (.v (.c (.bool true)))) .nil .nil)) (.node (some (.v (.agg [(.int .i64 1), (.int
  .i64 0), (.int .i64 0), (.cpx (.f 4617315517961601024) (.f 0))]))) (.node (some (.v (.c (.flt (.f 9221120237041090561))))) .nil .nil) (.node (some (.v (.c (.int .i64 0)))) .nil
  .nil))) (.node (some (.v (.agg [(.int .i64 0), (.int .i64 1), (.int .i64 0)]))) (.node (some (.v (.agg [(.int .i64 1), (.int .i64 0), (.int .i64 0)]))) (.node (some (.v (.c (.sl 279
  0 3 (some 3))))) .nil .nil) (.node (some (.v (.agg [(.int .i64 5), (.int .i64 1), (.int .i64 1), (.sl 305 0 5 (some 5))]))) .nil .nil)) (.node (some (.v (.c (.bool false)))) (.node
  (some (.v (.agg [(.int .i64 4), (.int .i64 1), (.int .i64 1), (.sl 308 0 4 (some 4))]))) .nil .nil) (.node (some (.v (.c (.sl 375 0 1 (some 1))))) .nil .nil)))))) (.node (some (.v
  (.c (.cpx (.f 0) (.f 0))))) (.node (some (.v (.c (.cpx (.f 0) (.f 0))))) (.node (some (.v (.c (.ptr 307 0)))) (.node none (.node (some (.v (.c (.sl 43 0 3 (some 3))))) (.node (some
  (.v (.c (.bool false)))) .nil .nil) (.node (some (.v (.c (.bool false)))) .nil .nil)) (.node (some (.v (.agg [(.int .i64 1), (.int .i64 0), (.int .i64 0), (.cpx (.f
  4617315517961601024) (.f 0))]))) (.node (some (.v (.c (.sl 289 0 1 (some 1))))) .nil .nil) (.node (some (.tup [(.c (.osl 366 3 4)), (.c (.int .i64 0))])) .nil .nil))) (.node none
  (.node (some (.v (.agg [(.int .i64 0), (.int .i64 0), (.int .i64 0)]))) (.node (some (.v (.agg [(.int .i64 4), (.int .i64 1), (.int .i64 1), (.sl 269 0 4 (some 4))]))) .nil .nil)
  (.node (some (.v (.c (.bool false)))) .nil .nil)) (.node (some (.v (.c (.cpx (.f 0) (.f 0))))) (.node (some (.v (.agg [(.int .i64 5), (.int .i64 1), (.int .i64 1), (.sl 298 0 5
  (some 5))]))) .nil .nil) (.node (some (.v (.agg [(.int .i64 2), (.int .i64 0), (.int .i64 0), (.cpx (.f 4613937818241073152) (.f 0))]))) .nil .nil)))) (.node none (.node none (.node
  (some (.v (.agg [(.int .i64 1), (.int .i64 0), (.int .i64 0)]))) (.node (some (.v (.c (.bool false)))) .nil .nil) (.node (some (.v (.c (.sl 312 0 3 (some 3))))) .nil .nil)) (.node
  (some (.tup [(.c (.cpx (.f 0) (.f 0))), (.c (.int .i64 10))])) (.node (some (.v (.c (.sl 294 0 1 (some 1))))) .nil .nil) (.node (some (.tup [(.c (.osl 366 3 4)), (.c (.int .i64
  0))])) .nil .nil))) (.node (some (.v (.c (.bool false)))) (.node (some (.v (.c (.osl 159 4 4)))) (.node (some (.v (.c (.flt (.f 9221120237041090561))))) .nil .nil) (.node (some (.v
  (.c (.bool false)))) .nil .nil)) (.node (some (.v (.c (.bool false)))) (.node (some (.v (.agg [(.int .i64 4), (.int .i64 1), (.int .i64 1), (.sl 276 0 4 (some 4))]))) .nil .nil)
  (.node (some (.tup [(.agg [(.int .i64 4), (.int .i64 1), (.int .i64 1), (.sl 708 0 4 (some 4))]), (.c (.osl 774 1 1)), (.c (.int .i64 0))])) .nil .nil))))) (.node (some (.v (.c
  (.flt (.f 9223372036854775808))))) (.node (some (.v (.c (.osl 774 1 1)))) (.node none (.node (some (.v (.c (.cpx (.f 0) (.f 4618441417868443648))))) (.node (some (.v (.c (.bool
  false)))) .nil .nil) (.node (some (.v (.c (.flt (.f 9223372036854775808))))) .nil .nil)) (.node (some (.v (.agg [(.int .i64 1), (.int .i64 0), (.int .i64 0)]))) (.node (some (.v
  (.agg [(.int .i64 0), (.int .i64 0), (.int .i64 0), .nils]))) .nil .nil) (.node (some (.v (.agg [(.int .i64 1), (.int .i64 0), (.int .i64 0), (.cpx (.f 13840687554816376832) (.f
  0))]))) .nil .nil))) (.node none (.node (some (.tup [(.c (.cpx (.f 0) (.f 0))), (.c (.int .i64 9))])) (.node (some (.tup [(.agg [(.int .i64 3), (.int .i64 1), (.int .i64 1), (.sl
  286 0 3 (some 3))]), (.c (.int .i64 0))])) .nil .nil) (.node (some (.v (.c (.bool false)))) .nil .nil)) (.node (some (.v (.c (.bool false)))) (.node (some (.v (.c (.int .i64 0))))
  .nil .nil) (.node (some (.v (.c (.bool false)))) .nil .nil)))) (.node none (.node none (.node (some (.v (.c (.int .i64 9)))) (.node (some (.v (.c (.flt (.f 9223372036854775808)))))
  .nil .nil) (.node (some (.v (.c (.bool false)))) .nil .nil)) (.node (some (.v (.c (.osl 241 4 4)))) (.node (some (.v (.agg [(.int .i64 0), (.int .i64 0), (.int .i64 0), .nils])))
  .nil .nil) (.node (some (.v (.c (.bool false)))) .nil .nil))) (.node (some (.v (.agg [(.int .i64 (-1)), (.int .i64 (-1)), (.int .i64 0)]))) (.node (some (.v (.c (.cpx (.f 0) (.f
  0))))) (.node (some (.tup [(.agg [(.int .i64 3), (.int .i64 1), (.int .i64 1), (.sl 286 0 3 (some 3))]), (.c (.int .i64 0))])) .nil .nil) (.node (some (.v (.agg [(.int .i64 5),
  (.int .i64 1), (.int .i64 1), (.sl 316 0 5 (some 5))]))) .nil .nil)) (.node (some (.v (.c (.bool false)))) (.node (some (.v (.c (.bool false)))) .nil .nil) (.node (some (.tup [(.agg
  [(.int .i64 4), (.int .i64 1), (.int .i64 1), (.sl 708 0 4 (some 4))]), (.c (.osl 774 1 1)), (.c (.int .i64 0))])) .nil .nil))))))))

def m21 : Tr AO :=
  (.node (some (.cells [(.int .i64 1), (.int .i64 2), (.int .i64 0), (.cpx (.f 4607182418800017408) (.f 4611686018427387904))] true)) (.node (some (.cells [(.int .i64 6), (.int .i64
  0), (.int .i64 0)] true)) (.node (some (.cells [(.int .i64 1), (.int .i64 2), (.int .i64 0), (.cpx (.f 4607182418800017408) (.f 4611686018427387904))] true)) (.node (some (.cells
  [(.int .i64 1), (.int .i64 2), (.int .i64 0), (.cpx (.f 4607182418800017408) (.f 4611686018427387904))] true)) (.node (some (.cells [(.int .i64 2), (.int .i64 1), (.int .i64 1),
  (.sl 11 0 2 (some 2))] true)) (.node (some (.cells [] true)) (.node (some (.cells [(.int .i64 (-1)), (.int .i64 (-1)), (.int .i64 0), (.cpx (.f 4607182418800017408) (.f 0))] true))
  (.node (some (.cells [(.int .i64 (-1)), (.int .i64 (-1)), (.int .i64 0), (.cpx (.f 4607182418800017408) (.f 0)), (.int .i64 0), (.int .i64 1), (.int .i64 0), (.cpx (.f 0) (.f
  4613937818241073152)), (.int .i64 1), (.int .i64 0), (.int .i64 0), (.cpx (.f 4611686018427387904) (.f 0))] false)) (.node (some (.cells [(.int .i64 1), (.int .i64 0), (.int .i64
  0)] true)) (.node (some (.cells [(.cpx (.f 4607182418800017408) (.f 0))] true)) .nil .nil) (.node (some (.cells [(.int .u64 4607182418800017408), (.int .u64 4607177596232733550),
  (.int .u64 4607163133695007814), (.int .u64 4607139046673687846), (.int .u64 4607105360961759387), (.int .u64 4607062112630726507), (.int .u64 4607009347991985328), (.int .u64
  4606947123547232624), (.int .u64 4606875505927962389), (.int .u64 4606794571824115162), (.int .u64 4606704407901956523), (.int .u64 4606605110711272677), (.int .u64
  4606496786581982534), (.int .u64 4606379551510276960), (.int .u64 4606253531034407156), (.int .u64 4606118860100255153), (.int .u64 4605975682916830378), (.int .u64
  4605824152801847042), (.int .u64 4605664432017547683), (.int .u64 4605496691596948699), (.int .u64 4605321111160693906), (.int .u64 4605137878724712257), (.int .u64
  4604947190498885672), (.int .u64 4604749250676942587), (.int .u64 4604544271217802189), (.int .u64 4604332471618603501), (.int .u64 4604114078679662348), (.int .u64
  4603889326261607894), (.int .u64 4603658455034958826), (.int .u64 4603421712222407333), (.int .u64 4603179351334086856), (.int .u64 4602931631896107088), (.int .u64
  4602678819172646912), (.int .u64 4602163548591158843), (.int .u64 4601639184639747836), (.int .u64 4601106288820466945), (.int .u64 4600565431771507043), (.int .u64
  4600017192656143146), (.int .u64 4599462158542551880), (.int .u64 4598900923775164166), (.int .u64 4598334089338226320), (.int .u64 4597349304879225727), (.int .u64
  4596196889902818827), (.int .u64 4595036948236777107), (.int .u64 4593870721975689937), (.int .u64 4591727299969791020), (.int .u64 4589377212798040715), (.int .u64
  4584876137810324206)] true)) .nil .nil)) (.node (some (.cells [] true)) (.node (some (.cells [(.int .i64 1), (.int .i64 0), (.int .i64 0), (.int .i64 0), (.int .i64 1), (.int .i64
  0), (.int .i64 0), (.int .i64 0), (.int .i64 1)] true)) .nil .nil) .nil)) (.node (some (.cells [(.cpx (.f 4607182418800017408) (.f 0)), (.cpx (.f 4611686018427387904) (.f 0)), (.cpx
  (.f 0) (.f 0))] true)) (.node (some (.cells [(.int .i64 5), (.int .i64 1), (.int .i64 1), (.sl 316 0 5 (some 5))] true)) (.node (some (.cells [(.int .i64 0), (.int .i64 0), (.int
  .i64 0)] true)) .nil .nil) .nil) (.node (some (.cells [(.int .i64 1), (.int .i64 0), (.int .i64 0), (.int .i64 0), (.int .i64 1), (.int .i64 0), (.int .i64 0), (.int .i64 0), (.int
  .i64 1), (.int .i64 0), (.int .i64 0), (.int .i64 0)] true)) (.node (some (.cells [(.int .i64 4), (.int .i64 1), (.int .i64 1), (.sl 694 0 4 (some 4))] true)) .nil .nil) .nil)))
  (.node (some (.cells [(.int .i64 1), (.int .i64 0), (.int .i64 0)] true)) (.node (some (.cells [(.int .i64 1), (.int .i64 0), (.int .i64 0), (.cpx (.f 4611686018427387904) (.f 0)),
  (.int .i64 0), (.int .i64 1), (.int .i64 0), (.cpx (.f 0) (.f 4613937818241073152)), (.int .i64 (-1)), (.int .i64 (-1)), (.int .i64 0), (.cpx (.f 4607182418800017408) (.f 0)), (.int
  .i64 512), (.int .i64 0), (.int .i64 0), (.cpx (.f 4607182418800017408) (.f 0))] false)) (.node (some (.cells [(.int .i64 3), (.int .i64 1), (.int .i64 1), (.sl 286 0 3 (some 3))]
  true)) (.node (some (.cells [(.cpx (.f 4607182418800017408) (.f 0))] true)) .nil .nil) .nil) (.node (some (.cells [(.int .i64 0), (.int .i64 0), (.int .i64 0)] true)) (.node (some
  (.cells [(.int .i64 1), (.int .i64 0), (.int .i64 0)] true)) .nil .nil) .nil)) (.node (some (.cells [(.int .i64 1), (.int .i64 0), (.int .i64 0)] true)) (.node (some (.cells [(.int
  .i64 3), (.int .i64 0), (.int .i64 0), (.cpx (.f 4613937818241073152) (.f 4616189618054758400))] true)) (.node (some (.cells [(.int .i64 4), (.int .i64 1), (.int .i64 1)] true))
  .nil .nil) .nil) (.node (some (.cells [(.int .i64 1), (.int .i64 0), (.int .i64 0)] true)) (.node (some (.cells [(.cpx (.f 4616189618054758400) (.f 0)), (.cpx (.f 0) (.f 0)), (.cpx
  (.f 0) (.f 0)), (.cpx (.f 0) (.f 0))] true)) .nil .nil) .nil)))) (.node (some (.cells [(.int .i64 1), (.int .i64 0), (.int .i64 0), (.cpx (.f 4611686018427387904) (.f 0))] true))
  (.node (some (.cells [(.int .i64 (-1)), (.int .i64 (-1)), (.int .i64 0), (.cpx (.f 4607182418800017408) (.f 0))] true)) (.node (some (.cells [(.cpx (.f 0) (.f 0)), (.cpx (.f 0) (.f
  0)), (.cpx (.f 0) (.f 0))] true)) (.node (some (.cells [(.int .i64 4), (.int .i64 1), (.int .i64 1), (.sl 269 0 4 (some 4))] true)) (.node (some (.cells [(.cpx (.f
  4607182418800017408) (.f 0))] true)) .nil .nil) .nil) (.node (some (.cells [(.int .i64 4), (.int .i64 1), (.int .i64 1), (.sl 400 0 4 (some 4))] true)) (.node (some (.cells [(.int
  .i64 1), (.int .i64 0), (.int .i64 0)] true)) .nil .nil) .nil)) (.node (some (.cells [(.int .i64 1), (.int .i64 0), (.int .i64 0), (.cpx (.f 4617315517961601024) (.f 0))] true))
  (.node (some (.cells [(.int .i64 1), (.int .i64 0), (.int .i64 0), (.cpx (.f 0) (.f 4611686018427387904))] true)) (.node (some (.cells [(.int .i64 0), (.int .i64 0), (.int .i64 0),
  (.cpx (.f 4616189618054758400) (.f 0))] true)) .nil .nil) .nil) (.node (some (.cells [(.int .i64 1), (.int .i64 0), (.int .i64 0), (.int .i64 0), (.int .i64 1), (.int .i64 0), (.int
  .i64 0), (.int .i64 0), (.int .i64 1)] true)) (.node (some (.cells [(.cpx (.f 0) (.f 0))] true)) .nil .nil) .nil))) (.node (some (.cells [(.int .i64 1), (.int .i64 0), (.int .i64
  0), (.cpx (.f 4611686018427387904) (.f 0))] true)) (.node (some (.cells [(.int .i64 0), (.int .i64 1), (.int .i64 0)] true)) (.node (some (.cells [(.int .i64 5), (.int .i64 1),
  (.int .i64 1), (.sl 298 0 5 (some 5))] true)) (.node (some (.cells [(.int .i64 4), (.int .i64 1), (.int .i64 1), (.sl 496 0 4 (some 4))] true)) .nil .nil) .nil) (.node (some (.cells
  [(.int .i64 1), (.int .i64 0), (.int .i64 0), (.int .i64 0), (.int .i64 1), (.int .i64 0), (.int .i64 0), (.int .i64 0), (.int .i64 1)] true)) (.node (some (.cells [(.int .i64 0),
  (.int .i64 0), (.int .i64 0)] true)) .nil .nil) .nil)) (.node (some (.cells [(.int .i64 1), (.int .i64 0), (.int .i64 0), (.cpx (.f 4617315517961601024) (.f 0))] true)) (.node (some
  (.cells [(.int .i64 1), (.int .i64 0), (.int .i64 0), (.cpx (.f 0) (.f 4617315517961601024))] true)) (.node (some (.cells [(.int .i64 1), (.int .i64 0), (.int .i64 0), (.int .i64
  0), (.int .i64 1), (.int .i64 0), (.int .i64 0), (.int .i64 0), (.int .i64 1), (.int .i64 0), (.int .i64 0), (.int .i64 0)] true)) .nil .nil) .nil) (.node (some (.cells [(.int .i64
  4), (.int .i64 1), (.int .i64 1), (.sl 400 0 4 (some 4))] true)) (.node (some (.cells [(.int .u64 4607182418800017408), (.int .u64 4607177596232733550), (.int .u64
  4607163133695007814), (.int .u64 4607139046673687846), (.int .u64 4607105360961759387), (.int .u64 4607062112630726507), (.int .u64 4607009347991985328), (.int .u64
  4606947123547232624), (.int .u64 4606875505927962389), (.int .u64 4606794571824115162), (.int .u64 4606704407901956523), (.int .u64 4606605110711272677), (.int .u64
  4606496786581982534), (.int .u64 4606379551510276960), (.int .u64 4606253531034407156), (.int .u64 4606118860100255153), (.int .u64 4605975682916830378), (.int .u64
  4605824152801847042), (.int .u64 4605664432017547683), (.int .u64 4605496691596948699), (.int .u64 4605321111160693906), (.int .u64 4605137878724712257), (.int .u64
  4604947190498885672), (.int .u64 4604749250676942587), (.int .u64 4604544271217802189), (.int .u64 4604332471618603501), (.int .u64 4604114078679662348), (.int .u64
  4603889326261607894), (.int .u64 4603658455034958826), (.int .u64 4603421712222407333), (.int .u64 4603179351334086856), (.int .u64 4602931631896107088), (.int .u64
  4602678819172646912), (.int .u64 4602163548591158843), (.int .u64 4601639184639747836), (.int .u64 4601106288820466945), (.int .u64 4600565431771507043), (.int .u64
  4600017192656143146), (.int .u64 4599462158542551880), (.int .u64 4598900923775164166), (.int .u64 4598334089338226320), (.int .u64 4597349304879225727), (.int .u64
  4596196889902818827), (.int .u64 4595036948236777107), (.int .u64 4593870721975689937), (.int .u64 4591727299969791020), (.int .u64 4589377212798040715), (.int .u64
  4584876137810324206)] true)) .nil .nil) .nil))))) (.node (some (.map [((.agg [(.int .i64 1), (.int .i64 0), (.int .i64 0)]), (.c (.int .i64 1)))])) (.node (some (.cells [(.int .i64
  2), (.int .i64 1), (.int .i64 1), (.sl 38 0 2 (some 2))] true)) (.node (some (.cells [(.int .i64 1), (.int .i64 0), (.int .i64 0)] true)) (.node (some (.cells [(.int .i64 1), (.int
  .i64 0), (.int .i64 0)] true)) (.node (some (.cells [(.int .i64 0), (.int .i64 1), (.int .i64 0), (.cpx (.f 0) (.f 4613937818241073152))] true)) (.node (some (.cells [(.int .u64
  4607182418800017408), (.int .u64 4607177596232733550), (.int .u64 4607163133695007814), (.int .u64 4607139046673687846), (.int .u64 4607105360961759387), (.int .u64
  4607062112630726507), (.int .u64 4607009347991985328), (.int .u64 4606947123547232624), (.int .u64 4606875505927962389), (.int .u64 4606794571824115162), (.int .u64
  4606704407901956523), (.int .u64 4606605110711272677), (.int .u64 4606496786581982534), (.int .u64 4606379551510276960), (.int .u64 4606253531034407156), (.int .u64
  4606118860100255153), (.int .u64 4605975682916830378), (.int .u64 4605824152801847042), (.int .u64 4605664432017547683), (.int .u64 4605496691596948699), (.int .u64
  4605321111160693906), (.int .u64 4605137878724712257), (.int .u64 4604947190498885672), (.int .u64 4604749250676942587), (.int .u64 4604544271217802189), (.int .u64
  4604332471618603501), (.int .u64 4604114078679662348), (.int .u64 4603889326261607894), (.int .u64 4603658455034958826), (.int .u64 4603421712222407333), (.int .u64
  4603179351334086856), (.int .u64 4602931631896107088), (.int .u64 4602678819172646912), (.int .u64 4602163548591158843), (.int .u64 4601639184639747836), (.int .u64
  4601106288820466945), (.int .u64 4600565431771507043), (.int .u64 4600017192656143146), (.int .u64 4599462158542551880), (.int .u64 4598900923775164166), (.int .u64
  4598334089338226320), (.int .u64 4597349304879225727), (.int .u64 4596196889902818827), (.int .u64 4595036948236777107), (.int .u64 4593870721975689937), (.int .u64
  4591727299969791020), (.int .u64 4589377212798040715), (.int .u64 4584876137810324206)] true)) .nil .nil) (.node (some (.cells [(.int .i64 4), (.int .i64 1), (.int .i64 1), (.sl 708
  0 4 (some 4))] true)) .nil .nil)) (.node (some (.cells [(.int .i64 0), (.int .i64 0), (.int .i64 0)] true)) (.node (some (.cells [(.int .i64 1), (.int .i64 0), (.int .i64 0), (.int
  .i64 0), (.int .i64 1), (.int .i64 0), (.int .i64 0), (.int .i64 0), (.int .i64 1)] true)) .nil .nil) .nil)) (.node (some (.cells [(.int .i64 1), (.int .i64 0), (.int .i64 0), (.cpx
  (.f 4611686018427387904) (.f 0))] true)) (.node (some (.map [((.agg [(.int .i64 1), (.int .i64 0), (.int .i64 0)]), (.c (.int .i64 1))), ((.agg [(.int .i64 2), (.int .i64 0), (.int
  .i64 0)]), (.c (.int .i64 1)))])) (.node (some (.cells [(.int .i64 0), (.int .i64 0), (.int .i64 0)] true)) .nil .nil) .nil) (.node (some (.cells [(.int .i64 0), (.int .i64 0),
  (.int .i64 1)] true)) (.node (some (.cells [(.cpx (.f 4616189618054758400) (.f 0))] true)) .nil .nil) .nil))) (.node (some (.cells [(.int .i64 0), (.int .i64 1), (.int .i64 0)]
  true)) (.node (some (.cells [(.int .i64 (-1)), (.int .i64 (-1)), (.int .i64 0), (.cpx (.f 4607182418800017408) (.f 0))] true)) (.node (some (.cells [(.int .i64 2), (.int .i64 1),
  (.int .i64 1), (.sl 294 0 1 (some 1))] true)) (.node (some (.cells [(.cpx (.f 4607182418800017408) (.f 0))] true)) .nil .nil) .nil) (.node (some (.cells [(.int .i64 1), (.int .i64
  0), (.int .i64 0), (.int .i64 0), (.int .i64 1), (.int .i64 0), (.int .i64 0), (.int .i64 0), (.int .i64 1), (.int .i64 0), (.int .i64 0), (.int .i64 0), (.int .i64 1), (.int .i64
  0), (.int .i64 0), (.int .i64 0), (.int .i64 1), (.int .i64 0), (.int .i64 0), (.int .i64 0), (.int .i64 1), (.int .i64 0), (.int .i64 0), (.int .i64 0)] true)) (.node (some (.cells
  [(.int .i64 1), (.int .i64 0), (.int .i64 0), (.int .i64 0), (.int .i64 1), (.int .i64 0), (.int .i64 0), (.int .i64 0), (.int .i64 1), (.int .i64 0), (.int .i64 0), (.int .i64 0)]
  true)) .nil .nil) .nil)) (.node (some (.cells [(.int .i64 1), (.int .i64 0), (.int .i64 0)] true)) (.node (some (.cells [(.int .i64 1), (.int .i64 0), (.int .i64 0), (.cpx (.f 0)
  (.f 4617315517961601024))] true)) (.node (some (.cells [(.int .i64 0), (.int .i64 0), (.int .i64 0)] true)) .nil .nil) .nil) (.node (some (.cells [(.int .i64 1), (.int .i64 0),
  (.int .i64 0)] true)) (.node (some (.cells [(.cpx (.f 4616189618054758400) (.f 0))] false)) .nil .nil) .nil)))) (.node (some (.cells [(.int .i64 0), (.int .i64 1), (.int .i64 0),
  (.cpx (.f 0) (.f 4613937818241073152))] true)) (.node (some (.cells [(.int .i64 0), (.int .i64 1), (.int .i64 0)] true)) (.node (some (.cells [(.int .i64 (-1)), (.int .i64 (-1)),
  (.int .i64 0), (.cpx (.f 4607182418800017408) (.f 0))] true)) (.node (some (.cells [(.cpx (.f 0) (.f 0)), (.cpx (.f 9223372036854775808) (.f 9223372036854775808)), (.cpx (.f
  9221120237041090561) (.f 4607182418800017408))] true)) (.node (some (.cells [(.cpx (.f 4607182418800017408) (.f 0))] true)) .nil .nil) .nil) (.node (some (.cells [(.int .i64 4),
  (.int .i64 1), (.int .i64 1)] true)) (.node (some (.cells [(.int .i64 1), (.int .i64 0), (.int .i64 0), (.int .i64 0), (.int .i64 1), (.int .i64 0), (.int .i64 0), (.int .i64 0),
  (.int .i64 1)] true)) .nil .nil) .nil)) (.node (some (.cells [(.int .i64 0), (.int .i64 1), (.int .i64 0)] true)) (.node (some (.cells [(.int .i64 3), (.int .i64 0), (.int .i64 0),
  (.cpx (.f 4613937818241073152) (.f 4616189618054758400))] true)) (.node (some (.cells [(.int .i64 0), (.int .i64 0), (.int .i64 0)] true)) .nil .nil) .nil) (.node (some (.cells
  [(.int .i64 0), (.int .i64 0), (.int .i64 1)] true)) (.node (some (.cells [(.cpx (.f 0) (.f 0))] true)) .nil .nil) .nil))) (.node (some (.map [((.agg [(.int .i64 1), (.int .i64 0),
  (.int .i64 0)]), (.c (.int .i64 1))), ((.agg [(.int .i64 0), (.int .i64 1), (.int .i64 0)]), (.c (.int .i64 1))), ((.agg [(.int .i64 (-1)), (.int .i64 (-1)), (.int .i64 0)]), (.c
  (.int .i64 1)))])) (.node (some (.cells [(.int .i64 (-1)), (.int .i64 (-1)), (.int .i64 0)] true)) (.node (some (.cells [(.int .i64 4), (.int .i64 1), (.int .i64 1), (.sl 308 0 4
  (some 4))] true)) (.node (some (.cells [(.int .i64 0), (.int .i64 0), (.int .i64 0), (.cpx (.f 4616189618054758400) (.f 0))] false)) .nil .nil) .nil) (.node (some (.cells [(.int
  .i64 1), (.int .i64 0), (.int .i64 0)] true)) (.node (some (.cells [(.int .i64 4), (.int .i64 1), (.int .i64 1), (.sl 694 0 4 (some 4))] true)) .nil .nil) .nil)) (.node (some
  (.cells [(.int .i64 0), (.int .i64 1), (.int .i64 0), (.cpx (.f 0) (.f 4613937818241073152))] true)) (.node (some (.cells [(.int .i64 0), (.int .i64 0), (.int .i64 0), (.cpx (.f
  4616189618054758400) (.f 0))] true)) (.node (some (.cells [(.int .i64 0), (.int .i64 1), (.int .i64 0)] true)) .nil .nil) .nil) (.node (some (.cells [(.int .u64
  4607182418800017408), (.int .u64 4607177596232733550), (.int .u64 4607163133695007814), (.int .u64 4607139046673687846), (.int .u64 4607105360961759387), (.int .u64
  4607062112630726507), (.int .u64 4607009347991985328), (.int .u64 4606947123547232624), (.int .u64 4606875505927962389), (.int .u64 4606794571824115162), (.int .u64
  4606704407901956523), (.int .u64 4606605110711272677), (.int .u64 4606496786581982534), (.int .u64 4606379551510276960), (.int .u64 4606253531034407156), (.int .u64
  4606118860100255153), (.int .u64 4605975682916830378), (.int .u64 4605824152801847042), (.int .u64 4605664432017547683), (.int .u64 4605496691596948699), (.int .u64
  4605321111160693906), (.int .u64 4605137878724712257), (.int .u64 4604947190498885672), (.int .u64 4604749250676942587), (.int .u64 4604544271217802189), (.int .u64
  4604332471618603501), (.int .u64 4604114078679662348), (.int .u64 4603889326261607894), (.int .u64 4603658455034958826), (.int .u64 4603421712222407333), (.int .u64
  4603179351334086856), (.int .u64 4602931631896107088), (.int .u64 4602678819172646912), (.int .u64 4602163548591158843), (.int .u64 4601639184639747836), (.int .u64
  4601106288820466945), (.int .u64 4600565431771507043), (.int .u64 4600017192656143146), (.int .u64 4599462158542551880), (.int .u64 4598900923775164166), (.int .u64
  4598334089338226320), (.int .u64 4597349304879225727), (.int .u64 4596196889902818827), (.int .u64 4595036948236777107), (.int .u64 4593870721975689937), (.int .u64
  4591727299969791020), (.int .u64 4589377212798040715), (.int .u64 4584876137810324206)] true)) (.node (some (.cells [(.cpx (.f 0) (.f 0))] false)) .nil .nil) .nil)))))) (.node (some
  (.cells [(.cpx (.f 4607182418800017408) (.f 0)), (.cpx (.f 13837309855095848960) (.f 0))] true)) (.node (some (.cells [(.int .i64 2), (.int .i64 1), (.int .i64 1), (.sl 18 0 2 (some
  2))] true)) (.node (some (.cells [(.int .i64 1), (.int .i64 0), (.int .i64 0), (.cpx (.f 13840687554816376832) (.f 0))] true)) (.node (some (.cells [(.int .i64 1), (.int .i64 0),
  (.int .i64 0)] true)) (.node (some (.cells [(.int .i64 1), (.int .i64 0), (.int .i64 0)] true)) (.node (some (.cells [(.int .i64 1), (.int .i64 0), (.int .i64 0)] true)) (.node
  (some (.cells [(.cpx (.f 4607182418800017408) (.f 0))] true)) .nil .nil) (.node (some (.cells [(.int .i64 4), (.int .i64 1), (.int .i64 1), (.sl 708 0 4 (some 4))] true)) .nil
  .nil)) (.node (some (.cells [(.int .i64 0), (.int .i64 0), (.int .i64 0), (.cpx (.f 4616189618054758400) (.f 0))] true)) (.node (some (.cells [(.int .i64 0), (.int .i64 0), (.int
  .i64 1)] true)) .nil .nil) .nil)) (.node (some (.cells [(.int .i64 0), (.int .i64 1), (.int .i64 0), (.cpx (.f 0) (.f 4613937818241073152))] true)) (.node (some (.cells [(.int .i64
  1), (.int .i64 0), (.int .i64 0), (.cpx (.f 13840687554816376832) (.f 0))] true)) (.node (some (.cells [(.int .i64 0), (.int .i64 0), (.int .i64 0)] true)) .nil .nil) .nil) (.node
  (some (.cells [(.int .i64 1), (.int .i64 0), (.int .i64 0), (.int .i64 0), (.int .i64 1), (.int .i64 0), (.int .i64 0), (.int .i64 0), (.int .i64 1)] true)) (.node (some (.cells
  [(.int .i64 4), (.int .i64 1), (.int .i64 1), (.sl 694 0 4 (some 4))] true)) .nil .nil) .nil))) (.node (some (.cells [(.int .i64 1), (.int .i64 0), (.int .i64 0)] true)) (.node
  (some (.cells [(.int .i64 1), (.int .i64 0), (.int .i64 0), (.cpx (.f 4611686018427387904) (.f 0))] true)) (.node (some (.cells [(.int .i64 1), (.int .i64 1), (.int .i64 1), (.sl
  289 0 1 (some 1))] true)) (.node (some (.cells [(.cpx (.f 4607182418800017408) (.f 0))] false)) .nil .nil) .nil) (.node (some (.cells [(.int .i64 1), (.int .i64 0), (.int .i64 0),
  (.int .i64 0), (.int .i64 1), (.int .i64 0), (.int .i64 0), (.int .i64 0), (.int .i64 1)] true)) (.node (some (.cells [(.int .i64 0), (.int .i64 0), (.int .i64 0)] true)) .nil .nil)
  .nil)) (.node (some (.cells [(.int .i64 1), (.int .i64 0), (.int .i64 0), (.cpx (.f 4611686018427387904) (.f 0))] true)) (.node (some (.map [((.agg [(.int .i64 1), (.int .i64 0),
  (.int .i64 0)]), (.c (.int .i64 1))), ((.agg [(.int .i64 2), (.int .i64 0), (.int .i64 0)]), (.c (.int .i64 2)))])) (.node (some (.cells [(.int .i64 4), (.int .i64 1), (.int .i64
  1)] true)) .nil .nil) .nil) (.node (some (.cells [(.int .i64 1), (.int .i64 0), (.int .i64 0), (.int .i64 0), (.int .i64 1), (.int .i64 0), (.int .i64 0), (.int .i64 0), (.int .i64
  1)] true)) (.node (some (.cells [(.cpx (.f 0) (.f 0))] true)) .nil .nil) .nil)))) (.node (some (.cells [(.int .i64 (-1)), (.int .i64 (-1)), (.int .i64 0), (.cpx (.f
  4607182418800017408) (.f 0))] true)) (.node (some (.map [((.agg [(.int .i64 1), (.int .i64 0), (.int .i64 0)]), (.c (.int .i64 1))), ((.agg [(.int .i64 0), (.int .i64 1), (.int .i64
  0)]), (.c (.int .i64 1))), ((.agg [(.int .i64 (-1)), (.int .i64 (-1)), (.int .i64 0)]), (.c (.int .i64 1)))])) (.node (some (.cells [(.int .i64 (-1)), (.int .i64 (-1)), (.int .i64
  0), (.cpx (.f 4607182418800017408) (.f 0))] true)) (.node (some (.cells [(.int .i64 4), (.int .i64 1), (.int .i64 1), (.sl 276 0 4 (some 4))] true)) (.node (some (.cells [(.cpx (.f
  4607182418800017408) (.f 0))] false)) .nil .nil) .nil) (.node (some (.cells [(.int .i64 4), (.int .i64 1), (.int .i64 1)] true)) (.node (some (.cells [(.int .i64 1), (.int .i64 0),
  (.int .i64 0)] true)) .nil .nil) .nil)) (.node (some (.map [((.agg [(.int .i64 1), (.int .i64 0), (.int .i64 0)]), (.c (.int .i64 2))), ((.agg [(.int .i64 0), (.int .i64 1), (.int
  .i64 0)]), (.c (.int .i64 1))), ((.agg [(.int .i64 (-1)), (.int .i64 (-1)), (.int .i64 0)]), (.c (.int .i64 1)))])) (.node (some (.cells [(.int .i64 1), (.int .i64 0), (.int .i64
  0), (.cpx (.f 13840687554816376832) (.f 0))] true)) (.node (some (.cells [] true)) .nil .nil) .nil) (.node (some (.cells [(.int .i64 0), (.int .i64 0), (.int .i64 0)] true)) (.node
  (some (.cells [(.cpx (.f 4616189618054758400) (.f 0))] true)) .nil .nil) .nil))) (.node (some (.cells [(.int .i64 (-1)), (.int .i64 (-1)), (.int .i64 0), (.cpx (.f
  4607182418800017408) (.f 0))] true)) (.node (some (.cells [(.int .i64 (-1)), (.int .i64 (-1)), (.int .i64 0)] true)) (.node (some (.cells [(.int .i64 5), (.int .i64 1), (.int .i64
  1), (.sl 305 0 5 (some 5))] true)) (.node (some (.cells [(.int .i64 0), (.int .i64 0), (.int .i64 0)] true)) .nil .nil) .nil) (.node (some (.cells [(.int .i64 1), (.int .i64 0),
  (.int .i64 0), (.int .i64 0), (.int .i64 1), (.int .i64 0), (.int .i64 0), (.int .i64 0), (.int .i64 1), (.int .i64 0), (.int .i64 0), (.int .i64 0)] true)) (.node (some (.cells
  [(.int .i64 0), (.int .i64 0), (.int .i64 1)] true)) .nil .nil) .nil)) (.node (some (.cells [(.int .i64 0), (.int .i64 1), (.int .i64 0)] true)) (.node (some (.cells [(.cpx (.f
  4607182418800017408) (.f 0)), (.cpx (.f 4607182418800017408) (.f 0)), (.cpx (.f 4607182418800017408) (.f 0)), (.cpx (.f 4607182418800017408) (.f 0))] true)) (.node (some (.cells
  [(.int .i64 1), (.int .i64 0), (.int .i64 0), (.int .i64 0), (.int .i64 1), (.int .i64 0), (.int .i64 0), (.int .i64 0), (.int .i64 1)] true)) .nil .nil) .nil) (.node (some (.cells
  [(.cpx (.f 4607182418800017408) (.f 0))] true)) (.node (some (.cells [(.cpx (.f 0) (.f 0))] true)) .nil .nil) .nil))))) (.node (some (.cells [(.int .i64 1), (.int .i64 0), (.int
  .i64 0), (.cpx (.f 0) (.f 4611686018427387904))] false)) (.node (some (.cells [(.int .i64 1), (.int .i64 0), (.int .i64 0), (.cpx (.f 4611686018427387904) (.f 0)), (.int .i64 0),
  (.int .i64 1), (.int .i64 0), (.cpx (.f 0) (.f 4613937818241073152)), (.int .i64 (-1)), (.int .i64 (-1)), (.int .i64 0), (.cpx (.f 4607182418800017408) (.f 0))] true)) (.node (some
  (.cells [(.int .i64 0), (.int .i64 1), (.int .i64 0), (.cpx (.f 0) (.f 4613937818241073152))] true)) (.node (some (.cells [(.int .i64 0), (.int .i64 1), (.int .i64 0)] true)) (.node
  (some (.cells [(.int .i64 (-1)), (.int .i64 (-1)), (.int .i64 0), (.cpx (.f 4607182418800017408) (.f 0))] true)) (.node (some (.cells [(.cpx (.f 4607182418800017408) (.f 0)), (.cpx
  (.f 4607182418800017408) (.f 0)), (.cpx (.f 4607182418800017408) (.f 0)), (.cpx (.f 4607182418800017408) (.f 0))] true)) .nil .nil) .nil) (.node (some (.cells [(.int .i64 4), (.int
  .i64 1), (.int .i64 1), (.sl 708 0 4 (some 4))] true)) (.node (some (.cells [(.int .i64 1), (.int .i64 0), (.int .i64 0), (.int .i64 0), (.int .i64 1), (.int .i64 0), (.int .i64 0),
  (.int .i64 0), (.int .i64 1)] true)) .nil .nil) .nil)) (.node (some (.cells [(.int .i64 (-1)), (.int .i64 (-1)), (.int .i64 0), (.cpx (.f 4607182418800017408) (.f 0))] true)) (.node
  (some (.cells [(.int .i64 2), (.int .i64 0), (.int .i64 0)] true)) (.node (some (.cells [(.int .i64 0), (.int .i64 0), (.int .i64 0), (.cpx (.f 4616189618054758400) (.f 0))] true))
  .nil .nil) .nil) (.node (some (.cells [(.int .i64 0), (.int .i64 0), (.int .i64 1)] true)) (.node (some (.cells [(.int .u64 4607182418800017408), (.int .u64 4607177596232733550),
  (.int .u64 4607163133695007814), (.int .u64 4607139046673687846), (.int .u64 4607105360961759387), (.int .u64 4607062112630726507), (.int .u64 4607009347991985328), (.int .u64
  4606947123547232624), (.int .u64 4606875505927962389), (.int .u64 4606794571824115162), (.int .u64 4606704407901956523), (.int .u64 4606605110711272677), (.int .u64
  4606496786581982534), (.int .u64 4606379551510276960), (.int .u64 4606253531034407156), (.int .u64 4606118860100255153), (.int .u64 4605975682916830378), (.int .u64
  4605824152801847042), (.int .u64 4605664432017547683), (.int .u64 4605496691596948699), (.int .u64 4605321111160693906), (.int .u64 4605137878724712257), (.int .u64
  4604947190498885672), (.int .u64 4604749250676942587), (.int .u64 4604544271217802189), (.int .u64 4604332471618603501), (.int .u64 4604114078679662348), (.int .u64
  4603889326261607894), (.int .u64 4603658455034958826), (.int .u64 4603421712222407333), (.int .u64 4603179351334086856), (.int .u64 4602931631896107088), (.int .u64
  4602678819172646912), (.int .u64 4602163548591158843), (.int .u64 4601639184639747836), (.int .u64 4601106288820466945), (.int .u64 4600565431771507043), (.int .u64
  4600017192656143146), (.int .u64 4599462158542551880), (.int .u64 4598900923775164166), (.int .u64 4598334089338226320), (.int .u64 4597349304879225727), (.int .u64
  4596196889902818827), (.int .u64 4595036948236777107), (.int .u64 4593870721975689937), (.int .u64 4591727299969791020), (.int .u64 4589377212798040715), (.int .u64
  4584876137810324206)] true)) .nil .nil) .nil))) (.node (some (.cells [(.cpx (.f 4611686018427387904) (.f 0)), (.cpx (.f 4611686018427387904) (.f 0)), (.cpx (.f 0) (.f 0))] true))
  (.node (some (.cells [] true)) (.node (some (.cells [(.int .i64 5), (.int .i64 1), (.int .i64 1), (.sl 298 0 5 (some 5))] true)) (.node (some (.cells [(.int .u64
  4607182418800017408), (.int .u64 4607177596232733550), (.int .u64 4607163133695007814), (.int .u64 4607139046673687846), (.int .u64 4607105360961759387), (.int .u64
  4607062112630726507), (.int .u64 4607009347991985328), (.int .u64 4606947123547232624), (.int .u64 4606875505927962389), (.int .u64 4606794571824115162), (.int .u64
  4606704407901956523), (.int .u64 4606605110711272677), (.int .u64 4606496786581982534), (.int .u64 4606379551510276960), (.int .u64 4606253531034407156), (.int .u64
  4606118860100255153), (.int .u64 4605975682916830378), (.int .u64 4605824152801847042), (.int .u64 4605664432017547683), (.int .u64 4605496691596948699), (.int .u64
  4605321111160693906), (.int .u64 4605137878724712257), (.int .u64 4604947190498885672), (.int .u64 4604749250676942587), (.int .u64 4604544271217802189), (.int .u64
  4604332471618603501), (.int .u64 4604114078679662348), (.int .u64 4603889326261607894), (.int .u64 4603658455034958826), (.int .u64 4603421712222407333), (.int .u64
  4603179351334086856), (.int .u64 4602931631896107088), (.int .u64 4602678819172646912), (.int .u64 4602163548591158843), (.int .u64 4601639184639747836), (.int .u64
  4601106288820466945), (.int .u64 4600565431771507043), (.int .u64 4600017192656143146), (.int .u64 4599462158542551880), (.int .u64 4598900923775164166), (.int .u64
  4598334089338226320), (.int .u64 4597349304879225727), (.int .u64 4596196889902818827), (.int .u64 4595036948236777107), (.int .u64 4593870721975689937), (.int .u64
  4591727299969791020), (.int .u64 4589377212798040715), (.int .u64 4584876137810324206)] true)) .nil .nil) .nil) (.node (some (.cells [(.int .i64 1), (.int .i64 0), (.int .i64 0),
  (.int .i64 0), (.int .i64 1), (.int .i64 0), (.int .i64 0), (.int .i64 0), (.int .i64 1)] true)) (.node (some (.cells [(.int .i64 0), (.int .i64 0), (.int .i64 1)] true)) .nil .nil)
  .nil)) (.node (some (.cells [(.int .i64 0), (.int .i64 1), (.int .i64 0), (.cpx (.f 0) (.f 4613937818241073152))] true)) (.node none (.node (some (.cells [(.int .i64 0), (.int .i64
  0), (.int .i64 0)] true)) .nil .nil) .nil) (.node (some (.cells [(.int .i64 4), (.int .i64 1), (.int .i64 1), (.sl 400 0 4 (some 4))] true)) (.node (some (.cells [(.cpx (.f 0) (.f
  0))] true)) .nil .nil) .nil)))) (.node (some (.cells [(.int .i64 (-1)), (.int .i64 (-1)), (.int .i64 0), (.cpx (.f 4607182418800017408) (.f 0))] true)) (.node (some (.cells [(.int
  .i64 (-1)), (.int .i64 (-1)), (.int .i64 0), (.cpx (.f 4607182418800017408) (.f 0)), (.int .i64 0), (.int .i64 1), (.int .i64 0), (.cpx (.f 0) (.f 4613937818241073152)), (.int .i64
  1), (.int .i64 0), (.int .i64 0), (.cpx (.f 4611686018427387904) (.f 0))] false)) (.node (some (.cells [(.int .i64 (-1)), (.int .i64 (-1)), (.int .i64 0), (.cpx (.f
  4607182418800017408) (.f 0))] true)) (.node (some (.cells [(.int .i64 3), (.int .i64 1), (.int .i64 1), (.sl 279 0 3 (some 3))] true)) (.node (some (.cells [(.int .u64
  4607182418800017408), (.int .u64 4607177596232733550), (.int .u64 4607163133695007814), (.int .u64 4607139046673687846), (.int .u64 4607105360961759387), (.int .u64
  4607062112630726507), (.int .u64 4607009347991985328), (.int .u64 4606947123547232624), (.int .u64 4606875505927962389), (.int .u64 4606794571824115162), (.int .u64
  4606704407901956523), (.int .u64 4606605110711272677), (.int .u64 4606496786581982534), (.int .u64 4606379551510276960), (.int .u64 4606253531034407156), (.int .u64
  4606118860100255153), (.int .u64 4605975682916830378), (.int .u64 4605824152801847042), (.int .u64 4605664432017547683), (.int .u64 4605496691596948699), (.int .u64
  4605321111160693906), (.int .u64 4605137878724712257), (.int .u64 4604947190498885672), (.int .u64 4604749250676942587), (.int .u64 4604544271217802189), (.int .u64
  4604332471618603501), (.int .u64 4604114078679662348), (.int .u64 4603889326261607894), (.int .u64 4603658455034958826), (.int .u64 4603421712222407333), (.int .u64
  4603179351334086856), (.int .u64 4602931631896107088), (.int .u64 4602678819172646912), (.int .u64 4602163548591158843), (.int .u64 4601639184639747836), (.int .u64
  4601106288820466945), (.int .u64 4600565431771507043), (.int .u64 4600017192656143146), (.int .u64 4599462158542551880), (.int .u64 4598900923775164166), (.int .u64
  4598334089338226320), (.int .u64 4597349304879225727), (.int .u64 4596196889902818827), (.int .u64 4595036948236777107), (.int .u64 4593870721975689937), (.int .u64
  4591727299969791020), (.int .u64 4589377212798040715), (.int .u64 4584876137810324206)] true)) .nil .nil) .nil) (.node (some (.cells [(.int .i64 0), (.int .i64 0), (.int .i64 0)]
  true)) (.node (some (.cells [(.int .i64 1), (.int .i64 0), (.int .i64 0), (.int .i64 0), (.int .i64 1), (.int .i64 0), (.int .i64 0), (.int .i64 0), (.int .i64 1)] true)) .nil .nil)
  .nil)) (.node (some (.cells [(.int .i64 1), (.int .i64 0), (.int .i64 0)] true)) (.node (some (.cells [(.int .i64 2), (.int .i64 0), (.int .i64 0), (.cpx (.f 4613937818241073152)
  (.f 0))] true)) (.node (some (.cells [(.int .i64 0), (.int .i64 0), (.int .i64 0), (.cpx (.f 4616189618054758400) (.f 0))] true)) .nil .nil) .nil) (.node (some (.cells [(.int .i64
  0), (.int .i64 0), (.int .i64 0)] true)) (.node (some (.cells [(.int .u64 4607182418800017408), (.int .u64 4607177596232733550), (.int .u64 4607163133695007814), (.int .u64
  4607139046673687846), (.int .u64 4607105360961759387), (.int .u64 4607062112630726507), (.int .u64 4607009347991985328), (.int .u64 4606947123547232624), (.int .u64
  4606875505927962389), (.int .u64 4606794571824115162), (.int .u64 4606704407901956523), (.int .u64 4606605110711272677), (.int .u64 4606496786581982534), (.int .u64
  4606379551510276960), (.int .u64 4606253531034407156), (.int .u64 4606118860100255153), (.int .u64 4605975682916830378), (.int .u64 4605824152801847042), (.int .u64
  4605664432017547683), (.int .u64 4605496691596948699), (.int .u64 4605321111160693906), (.int .u64 4605137878724712257), (.int .u64 4604947190498885672), (.int .u64
  4604749250676942587), (.int .u64 4604544271217802189), (.int .u64 4604332471618603501), (.int .u64 4604114078679662348), (.int .u64 4603889326261607894), (.int .u64
  4603658455034958826), (.int .u64 4603421712222407333), (.int .u64 4603179351334086856), (.int .u64 4602931631896107088), (.int .u64 4602678819172646912), (.int .u64
  4602163548591158843), (.int .u64 4601639184639747836), (.int .u64 4601106288820466945), (.int .u64 4600565431771507043), (.int .u64 4600017192656143146), (.int .u64
  4599462158542551880), (.int .u64 4598900923775164166), (.int .u64 4598334089338226320), (.int .u64 4597349304879225727), (.int .u64 4596196889902818827), (.int .u64
  4595036948236777107), (.int .u64 4593870721975689937), (.int .u64 4591727299969791020), (.int .u64 4589377212798040715), (.int .u64 4584876137810324206)] true)) .nil .nil) .nil)))
  (.node (some (.cells [(.int .i64 0), (.int .i64 1), (.int .i64 0)] true)) (.node (some (.cells [(.int .i64 512), (.int .i64 0), (.int .i64 0)] true)) (.node (some (.cells [(.int
  .i64 3), (.int .i64 1), (.int .i64 1), (.sl 312 0 3 (some 3))] true)) (.node (some (.cells [(.int .i64 0), (.int .i64 0), (.int .i64 0)] true)) .nil .nil) .nil) (.node (some (.cells
  [(.int .i64 1), (.int .i64 0), (.int .i64 0), (.int .i64 0), (.int .i64 1), (.int .i64 0), (.int .i64 0), (.int .i64 0), (.int .i64 1)] true)) (.node (some (.cells [(.int .i64 4),
  (.int .i64 1), (.int .i64 1)] true)) .nil .nil) .nil)) (.node (some (.cells [(.int .i64 1), (.int .i64 0), (.int .i64 0), (.cpx (.f 4617315517961601024) (.f 0))] true)) (.node (some
  (.cells [(.int .i64 4), (.int .i64 1), (.int .i64 1), (.sl 371 0 4 (some 4))] true)) (.node (some (.cells [(.int .i64 1), (.int .i64 0), (.int .i64 0), (.int .i64 0), (.int .i64 1),
  (.int .i64 0), (.int .i64 0), (.int .i64 0), (.int .i64 1)] true)) .nil .nil) .nil) (.node (some (.cells [(.cpx (.f 4607182418800017408) (.f 0))] true)) (.node (some (.cells [(.cpx
  (.f 0) (.f 0))] true)) .nil .nil) .nil))))))) (.node (some (.cells [] true)) (.node (some (.cells [(.int .i64 1), (.int .i64 2), (.int .i64 0), (.cpx (.f 13835058055282163712) (.f
  4607182418800017408))] true)) (.node (some (.cells [(.int .i64 2), (.int .i64 1), (.int .i64 1), (.sl 18 0 2 (some 2))] true)) (.node (some (.map [((.agg [(.int .i64 1), (.int .i64
  0), (.int .i64 0)]), (.c (.int .i64 1)))])) (.node (some (.cells [(.int .i64 (-1)), (.int .i64 (-1)), (.int .i64 0)] true)) (.node (some (.cells [(.int .i64 1), (.int .i64 0), (.int
  .i64 0), (.cpx (.f 4611686018427387904) (.f 0))] true)) (.node (some (.cells [(.cpx (.f 4611686018427387904) (.f 0)), (.cpx (.f 0) (.f 4613937818241073152)), (.cpx (.f
  4607182418800017408) (.f 0))] true)) (.node (some (.cells [(.int .u64 4607182418800017408), (.int .u64 4607177596232733550), (.int .u64 4607163133695007814), (.int .u64
  4607139046673687846), (.int .u64 4607105360961759387), (.int .u64 4607062112630726507), (.int .u64 4607009347991985328), (.int .u64 4606947123547232624), (.int .u64
  4606875505927962389), (.int .u64 4606794571824115162), (.int .u64 4606704407901956523), (.int .u64 4606605110711272677), (.int .u64 4606496786581982534), (.int .u64
  4606379551510276960), (.int .u64 4606253531034407156), (.int .u64 4606118860100255153), (.int .u64 4605975682916830378), (.int .u64 4605824152801847042), (.int .u64
  4605664432017547683), (.int .u64 4605496691596948699), (.int .u64 4605321111160693906), (.int .u64 4605137878724712257), (.int .u64 4604947190498885672), (.int .u64
  4604749250676942587), (.int .u64 4604544271217802189), (.int .u64 4604332471618603501), (.int .u64 4604114078679662348), (.int .u64 4603889326261607894), (.int .u64
  4603658455034958826), (.int .u64 4603421712222407333), (.int .u64 4603179351334086856), (.int .u64 4602931631896107088), (.int .u64 4602678819172646912), (.int .u64
  4602163548591158843), (.int .u64 4601639184639747836), (.int .u64 4601106288820466945), (.int .u64 4600565431771507043), (.int .u64 4600017192656143146), (.int .u64
  4599462158542551880), (.int .u64 4598900923775164166), (.int .u64 4598334089338226320), (.int .u64 4597349304879225727), (.int .u64 4596196889902818827), (.int .u64
  4595036948236777107), (.int .u64 4593870721975689937), (.int .u64 4591727299969791020), (.int .u64 4589377212798040715), (.int .u64 4584876137810324206)] true)) .nil .nil) (.node
  (some (.cells [(.int .u64 4607182418800017408), (.int .u64 4607177596232733550), (.int .u64 4607163133695007814), (.int .u64 4607139046673687846), (.int .u64 4607105360961759387),
  (.int .u64 4607062112630726507), (.int .u64 4607009347991985328), (.int .u64 4606947123547232624), (.int .u64 4606875505927962389), (.int .u64 4606794571824115162), (.int .u64
  4606704407901956523), (.int .u64 4606605110711272677), (.int .u64 4606496786581982534), (.int .u64 4606379551510276960), (.int .u64 4606253531034407156), (.int .u64
  4606118860100255153), (.int .u64 4605975682916830378), (.int .u64 4605824152801847042), (.int .u64 4605664432017547683), (.int .u64 4605496691596948699), (.int .u64
  4605321111160693906), (.int .u64 4605137878724712257), (.int .u64 4604947190498885672), (.int .u64 4604749250676942587), (.int .u64 4604544271217802189), (.int .u64
  4604332471618603501), (.int .u64 4604114078679662348), (.int .u64 4603889326261607894), (.int .u64 4603658455034958826), (.int .u64 4603421712222407333), (.int .u64
  4603179351334086856), (.int .u64 4602931631896107088), (.int .u64 4602678819172646912), (.int .u64 4602163548591158843), (.int .u64 4601639184639747836), (.int .u64
  4601106288820466945), (.int .u64 4600565431771507043), (.int .u64 4600017192656143146), (.int .u64 4599462158542551880), (.int .u64 4598900923775164166), (.int .u64
  4598334089338226320), (.int .u64 4597349304879225727), (.int .u64 4596196889902818827), (.int .u64 4595036948236777107), (.int .u64 4593870721975689937), (.int .u64
  4591727299969791020), (.int .u64 4589377212798040715), (.int .u64 4584876137810324206)] true)) .nil .nil)) (.node (some (.cells [(.int .i64 0)] true)) (.node (some (.cells [(.int
  .i64 1), (.int .i64 0), (.int .i64 0)] true)) .nil .nil) .nil)) (.node (some (.cells [(.int .i64 512), (.int .i64 0), (.int .i64 0)] true)) (.node (some (.cells [(.int .i64 2),
  (.int .i64 0), (.int .i64 0), (.cpx (.f 0) (.f 0))] true)) (.node (some (.map [((.agg [(.int .i64 0), (.int .i64 0), (.int .i64 0)]), (.c (.int .i64 1)))])) .nil .nil) .nil) (.node
  (some (.cells [(.int .i64 1), (.int .i64 0), (.int .i64 0), (.int .i64 0), (.int .i64 1), (.int .i64 0), (.int .i64 0), (.int .i64 0), (.int .i64 1)] true)) (.node (some (.cells
  [(.int .i64 4), (.int .i64 1), (.int .i64 1), (.sl 694 0 4 (some 4))] true)) .nil .nil) .nil))) (.node (some (.cells [(.int .i64 1), (.int .i64 0), (.int .i64 0), (.cpx (.f
  4611686018427387904) (.f 0))] true)) (.node (some (.cells [(.int .i64 1), (.int .i64 0), (.int .i64 0)] true)) (.node (some (.cells [(.cpx (.f 4607182418800017408) (.f 0))] true))
  (.node (some (.cells [(.cpx (.f 4611686018427387904) (.f 0)), (.cpx (.f 0) (.f 0))] true)) .nil .nil) .nil) (.node (some (.cells [(.int .i64 0), (.int .i64 0), (.int .i64 0)] true))
  (.node (some (.cells [(.int .i64 0), (.int .i64 0), (.int .i64 1)] true)) .nil .nil) .nil)) (.node (some (.cells [(.cpx (.f 0) (.f 0)), (.cpx (.f 4611686018427387904) (.f 0)), (.cpx
  (.f 0) (.f 0))] true)) (.node (some (.cells [(.int .i64 3), (.int .i64 0), (.int .i64 0)] true)) (.node (some (.cells [(.int .i64 4), (.int .i64 1), (.int .i64 1)] true)) .nil .nil)
  .nil) (.node (some (.cells [(.int .i64 0), (.int .i64 0), (.int .i64 1)] true)) (.node (some (.cells [(.cpx (.f 4616189618054758400) (.f 0))] true)) .nil .nil) .nil)))) (.node (some
  (.cells [(.int .i64 0), (.int .i64 1), (.int .i64 0), (.cpx (.f 0) (.f 4613937818241073152))] true)) (.node (some (.cells [(.int .i64 1), (.int .i64 0), (.int .i64 0)] true)) (.node
  (some (.cells [(.int .i64 1), (.int .i64 0), (.int .i64 0), (.cpx (.f 4611686018427387904) (.f 0))] true)) (.node (some (.cells [(.int .i64 4), (.int .i64 1), (.int .i64 1), (.sl
  269 0 4 (some 4))] true)) (.node (some (.cells [(.cpx (.f 4611686018427387904) (.f 0)), (.cpx (.f 0) (.f 0))] true)) .nil .nil) .nil) (.node (some (.cells [(.int .i64 4), (.int .i64
  1), (.int .i64 1), (.sl 400 0 4 (some 4))] true)) (.node (some (.cells [(.int .i64 0), (.int .i64 0), (.int .i64 1)] true)) .nil .nil) .nil)) (.node (some (.cells [(.int .i64 7),
  (.int .i64 0), (.int .i64 0)] true)) (.node (some (.cells [(.int .i64 1), (.int .i64 0), (.int .i64 0)] true)) (.node (some (.cells [(.int .i64 0), (.int .i64 0), (.int .i64 0),
  (.cpx (.f 4616189618054758400) (.f 0))] true)) .nil .nil) .nil) (.node (some (.cells [(.int .i64 1), (.int .i64 0), (.int .i64 0), (.int .i64 0), (.int .i64 1), (.int .i64 0), (.int
  .i64 0), (.int .i64 0), (.int .i64 1)] true)) (.node (some (.cells [(.int .u64 4607182418800017408), (.int .u64 4607177596232733550), (.int .u64 4607163133695007814), (.int .u64
  4607139046673687846), (.int .u64 4607105360961759387), (.int .u64 4607062112630726507), (.int .u64 4607009347991985328), (.int .u64 4606947123547232624), (.int .u64
  4606875505927962389), (.int .u64 4606794571824115162), (.int .u64 4606704407901956523), (.int .u64 4606605110711272677), (.int .u64 4606496786581982534), (.int .u64
  4606379551510276960), (.int .u64 4606253531034407156), (.int .u64 4606118860100255153), (.int .u64 4605975682916830378), (.int .u64 4605824152801847042), (.int .u64
  4605664432017547683), (.int .u64 4605496691596948699), (.int .u64 4605321111160693906), (.int .u64 4605137878724712257), (.int .u64 4604947190498885672), (.int .u64
  4604749250676942587), (.int .u64 4604544271217802189), (.int .u64 4604332471618603501), (.int .u64 4604114078679662348), (.int .u64 4603889326261607894), (.int .u64
  4603658455034958826), (.int .u64 4603421712222407333), (.int .u64 4603179351334086856), (.int .u64 4602931631896107088), (.int .u64 4602678819172646912), (.int .u64
  4602163548591158843), (.int .u64 4601639184639747836), (.int .u64 4601106288820466945), (.int .u64 4600565431771507043), (.int .u64 4600017192656143146), (.int .u64
  4599462158542551880), (.int .u64 4598900923775164166), (.int .u64 4598334089338226320), (.int .u64 4597349304879225727), (.int .u64 4596196889902818827), (.int .u64
  4595036948236777107), (.int .u64 4593870721975689937), (.int .u64 4591727299969791020), (.int .u64 4589377212798040715), (.int .u64 4584876137810324206)] true)) .nil .nil) .nil)))
  (.node (some (.cells [(.int .i64 1), (.int .i64 0), (.int .i64 0), (.cpx (.f 4611686018427387904) (.f 0))] true)) (.node (some (.cells [(.int .i64 (-1)), (.int .i64 (-1)), (.int
  .i64 0), (.cpx (.f 4607182418800017408) (.f 0))] true)) (.node (some (.cells [(.cpx (.f 13840687554816376832) (.f 0)), (.cpx (.f 13841813454723219456) (.f 0)), (.cpx (.f
  13842939354630062080) (.f 0)), (.cpx (.f 13844065254536904704) (.f 0)), (.cpx (.f 13844628204490326016) (.f 0))] true)) (.node (some (.cells [(.int .i64 0), (.int .i64 0), (.int
  .i64 0)] true)) .nil .nil) .nil) (.node (some (.cells [(.int .i64 1), (.int .i64 0), (.int .i64 0), (.int .i64 0), (.int .i64 1), (.int .i64 0), (.int .i64 0), (.int .i64 0), (.int
  .i64 1)] true)) (.node (some (.cells [(.int .i64 1), (.int .i64 0), (.int .i64 0)] true)) .nil .nil) .nil)) (.node (some (.cells [(.int .i64 1), (.int .i64 0), (.int .i64 0), (.cpx
  (.f 4611686018427387904) (.f 0)), (.int .i64 0), (.int .i64 1), (.int .i64 0), (.cpx (.f 0) (.f 4613937818241073152)), (.int .i64 (-1)), (.int .i64 (-1)), (.int .i64 0), (.cpx (.f
  4607182418800017408) (.f 0)), (.int .i64 1), (.int .i64 0), (.int .i64 0), (.cpx (.f 4617315517961601024) (.f 0))] false)) (.node (some (.cells [(.int .i64 3), (.int .i64 0), (.int
  .i64 0), (.cpx (.f 4617315517961601024) (.f 0))] true)) (.node (some (.cells [(.int .i64 1), (.int .i64 0), (.int .i64 0), (.int .i64 0), (.int .i64 1), (.int .i64 0), (.int .i64
  0), (.int .i64 0), (.int .i64 1), (.int .i64 0), (.int .i64 0), (.int .i64 0), (.int .i64 1), (.int .i64 0), (.int .i64 0), (.int .i64 0), (.int .i64 1), (.int .i64 0), (.int .i64
  0), (.int .i64 0), (.int .i64 1), (.int .i64 0), (.int .i64 0), (.int .i64 0)] true)) .nil .nil) .nil) (.node (some (.cells [(.cpx (.f 4607182418800017408) (.f 0))] true)) (.node
  (some (.cells [(.cpx (.f 0) (.f 0))] true)) .nil .nil) .nil))))) (.node (some (.cells [(.int .i64 1), (.int .i64 0), (.int .i64 0)] true)) (.node (some (.cells [(.int .i64 2), (.int
  .i64 1), (.int .i64 1), (.sl 38 0 2 (some 2))] true)) (.node (some (.cells [(.int .i64 0), (.int .i64 1), (.int .i64 0)] true)) (.node (some (.cells [(.int .i64 0), (.int .i64 1),
  (.int .i64 0), (.cpx (.f 0) (.f 4613937818241073152))] true)) (.node (some (.cells [(.int .i64 1), (.int .i64 0), (.int .i64 0), (.cpx (.f 4611686018427387904) (.f 0))] true))
  (.node (some (.cells [(.cpx (.f 4607182418800017408) (.f 0))] true)) .nil .nil) .nil) (.node (some (.cells [] true)) (.node (some (.cells [(.int .i64 1), (.int .i64 0), (.int .i64
  0), (.int .i64 0), (.int .i64 1), (.int .i64 0), (.int .i64 0), (.int .i64 0), (.int .i64 1), (.int .i64 0), (.int .i64 0), (.int .i64 0)] true)) .nil .nil) .nil)) (.node (some
  (.cells [(.int .i64 1), (.int .i64 0), (.int .i64 0), (.cpx (.f 4611686018427387904) (.f 0))] true)) (.node (some (.cells [(.int .i64 1), (.int .i64 0), (.int .i64 0)] true)) (.node
  (some (.cells [(.int .i64 0), (.int .i64 0)] true)) .nil .nil) .nil) (.node (some (.cells [(.int .i64 1), (.int .i64 0), (.int .i64 0)] true)) (.node (some (.cells [(.cpx (.f 0) (.f
  0))] true)) .nil .nil) .nil))) (.node (some (.cells [(.int .i64 1), (.int .i64 0), (.int .i64 0)] true)) (.node (some (.cells [(.int .i64 512), (.int .i64 0), (.int .i64 0), (.cpx
  (.f 4607182418800017408) (.f 0))] true)) (.node (some (.cells [(.int .i64 2), (.int .i64 1), (.int .i64 1), (.sl 294 0 1 (some 1))] true)) (.node (some (.cells [(.cpx (.f
  4607182418800017408) (.f 0))] true)) .nil .nil) .nil) (.node (some (.cells [(.int .i64 1), (.int .i64 0), (.int .i64 0), (.int .i64 0), (.int .i64 1), (.int .i64 0), (.int .i64 0),
  (.int .i64 0), (.int .i64 1)] true)) (.node (some (.cells [(.int .i64 1), (.int .i64 0), (.int .i64 0)] true)) .nil .nil) .nil)) (.node (some (.cells [(.int .i64 (-8)), (.int .i64
  0), (.int .i64 0)] true)) (.node (some (.cells [(.int .i64 2), (.int .i64 0), (.int .i64 0), (.cpx (.f 4613937818241073152) (.f 0))] true)) (.node (some (.cells [(.int .i64 0),
  (.int .i64 0), (.int .i64 0)] true)) .nil .nil) .nil) (.node (some (.cells [(.int .i64 0), (.int .i64 0), (.int .i64 1)] true)) (.node (some (.cells [(.cpx (.f 4616189618054758400)
  (.f 0))] true)) .nil .nil) .nil)))) (.node (some (.cells [(.int .i64 0), (.int .i64 1), (.int .i64 0)] true)) (.node (some (.cells [(.int .i64 (-1)), (.int .i64 (-1)), (.int .i64
  0)] true)) (.node (some (.cells [(.int .i64 1), (.int .i64 0), (.int .i64 0), (.cpx (.f 4611686018427387904) (.f 0))] true)) (.node (some (.cells [(.int .i64 3), (.int .i64 1),
  (.int .i64 1), (.sl 279 0 3 (some 3))] true)) (.node (some (.cells [(.cpx (.f 4607182418800017408) (.f 0))] true)) .nil .nil) .nil) (.node (some (.cells [(.int .i64 4), (.int .i64
  1), (.int .i64 1)] true)) (.node (some (.cells [(.int .i64 1), (.int .i64 0), (.int .i64 0), (.int .i64 0), (.int .i64 1), (.int .i64 0), (.int .i64 0), (.int .i64 0), (.int .i64
  1)] true)) .nil .nil) .nil)) (.node (some (.cells [(.int .i64 (-1)), (.int .i64 (-1)), (.int .i64 0)] true)) (.node (some (.cells [] true)) (.node (some (.cells [(.int .i64 0),
  (.int .i64 0), (.int .i64 0), (.cpx (.f 4616189618054758400) (.f 0))] false)) .nil .nil) .nil) (.node (some (.cells [(.int .i64 0), (.int .i64 0), (.int .i64 0)] true)) (.node (some
  (.cells [(.cpx (.f 0) (.f 0))] true)) .nil .nil) .nil))) (.node (some (.cells [(.int .i64 1), (.int .i64 0), (.int .i64 0)] true)) (.node (some (.cells [(.int .i64 512), (.int .i64
  0), (.int .i64 0), (.cpx (.f 4607182418800017408) (.f 0))] true)) (.node (some (.cells [(.int .i64 3), (.int .i64 1), (.int .i64 1), (.sl 312 0 3 (some 3))] true)) (.node (some
  (.map [((.agg [(.int .i64 0), (.int .i64 0), (.int .i64 0)]), (.c (.int .i64 1)))])) .nil .nil) .nil) (.node (some (.cells [(.int .i64 0), (.int .i64 0), (.int .i64 1)] true))
  (.node (some (.cells [(.int .i64 0), (.int .i64 0), (.int .i64 0), (.cpx (.f 4616189618054758400) (.f 0))] true)) .nil .nil) .nil)) (.node (some (.cells [(.int .i64 (-1)), (.int
  .i64 (-1)), (.int .i64 0), (.cpx (.f 4607182418800017408) (.f 0))] true)) (.node (some (.cells [(.int .i64 4), (.int .i64 1), (.int .i64 1), (.sl 708 0 4 (some 4))] true)) (.node
  (some (.cells [(.int .i64 1), (.int .i64 0), (.int .i64 0), (.int .i64 0), (.int .i64 1), (.int .i64 0), (.int .i64 0), (.int .i64 0), (.int .i64 1)] true)) .nil .nil) .nil) (.node
  (some (.cells [(.cpx (.f 4607182418800017408) (.f 0))] true)) (.node (some (.cells [(.cpx (.f 0) (.f 0))] true)) .nil .nil) .nil)))))) (.node (some (.cells [(.int .i64 2), (.int
  .i64 1), (.int .i64 1), (.sl 11 0 2 (some 2))] true)) (.node (some (.cells [(.int .i64 1), (.int .i64 0), (.int .i64 0), (.cpx (.f 0) (.f 4611686018427387904))] true)) (.node (some
  (.cells [(.int .i64 1), (.int .i64 0), (.int .i64 0), (.cpx (.f 0) (.f 4617315517961601024))] false)) (.node (some (.cells [(.cpx (.f 4611686018427387904) (.f 0)), (.cpx (.f 0) (.f
  4613937818241073152)), (.cpx (.f 4607182418800017408) (.f 0))] true)) (.node (some (.cells [(.int .i64 1), (.int .i64 0), (.int .i64 0), (.cpx (.f 4611686018427387904) (.f 0))]
  true)) (.node (some (.cells [(.int .i64 0), (.int .i64 1), (.int .i64 0)] true)) (.node (some (.cells [(.cpx (.f 4607182418800017408) (.f 0))] true)) .nil .nil) (.node (some (.cells
  [(.flt (.f 0))] true)) .nil .nil)) (.node (some (.cells [(.sl 375 0 1 (some 1)), (.osl 392 1 3), (.flt (.f 0)), (.fn 31 [])] true)) (.node (some (.cells [(.int .i64 1), (.int .i64
  0), (.int .i64 0), (.int .i64 0), (.int .i64 1), (.int .i64 0), (.int .i64 0), (.int .i64 0), (.int .i64 1)] true)) .nil .nil) .nil)) (.node (some (.cells [(.int .i64 512), (.int
  .i64 0), (.int .i64 0), (.cpx (.f 4607182418800017408) (.f 0))] true)) (.node (some (.cells [(.int .i64 3), (.int .i64 0), (.int .i64 0), (.cpx (.f 4613937818241073152) (.f
  4616189618054758400))] true)) (.node (some (.cells [(.int .i64 0), (.int .i64 0), (.int .i64 0), (.cpx (.f 4616189618054758400) (.f 0))] true)) .nil .nil) .nil) (.node (some (.cells
  [(.int .i64 1), (.int .i64 0), (.int .i64 0)] true)) (.node (some (.cells [(.cpx (.f 0) (.f 0))] true)) .nil .nil) .nil))) (.node (some (.cells [(.int .i64 0), (.int .i64 1), (.int
  .i64 0), (.cpx (.f 0) (.f 4613937818241073152))] true)) (.node (some (.cells [(.int .i64 0), (.int .i64 1), (.int .i64 0), (.cpx (.f 0) (.f 4613937818241073152))] true)) (.node
  (some (.cells [(.int .i64 1), (.int .i64 1), (.int .i64 1), (.sl 289 0 1 (some 1))] true)) (.node (some (.cells [(.cpx (.f 4607182418800017408) (.f 0))] true)) .nil .nil) .nil)
  (.node (some (.cells [(.int .i64 1), (.int .i64 0), (.int .i64 0), (.int .i64 0), (.int .i64 1), (.int .i64 0), (.int .i64 0), (.int .i64 0), (.int .i64 1), (.int .i64 0), (.int
  .i64 0), (.int .i64 0)] true)) (.node (some (.cells [(.int .i64 0), (.int .i64 0), (.int .i64 0)] true)) .nil .nil) .nil)) (.node (some (.cells [(.int .i64 (-1)), (.int .i64 (-1)),
  (.int .i64 0), (.cpx (.f 4607182418800017408) (.f 0))] true)) (.node (some (.cells [(.int .i64 2), (.int .i64 0), (.int .i64 0), (.cpx (.f 0) (.f 0))] true)) (.node (some (.cells
  [(.int .i64 0), (.int .i64 0), (.int .i64 0)] true)) .nil .nil) .nil) (.node (some (.cells [(.int .i64 0), (.int .i64 0), (.int .i64 0)] true)) (.node (some (.cells [(.cpx (.f
  4616189618054758400) (.f 0)), (.cpx (.f 4616189618054758400) (.f 0))] true)) .nil .nil) .nil)))) (.node (some (.cells [] true)) (.node (some (.cells [(.int .i64 1), (.int .i64 0),
  (.int .i64 0)] true)) (.node (some (.cells [(.int .i64 1), (.int .i64 0), (.int .i64 0), (.cpx (.f 4611686018427387904) (.f 0))] true)) (.node (some (.cells [(.int .i64 4), (.int
  .i64 1), (.int .i64 1), (.sl 276 0 4 (some 4))] true)) (.node (some (.cells [(.cpx (.f 4607182418800017408) (.f 0))] true)) .nil .nil) .nil) (.node (some (.cells [(.int .i64 4),
  (.int .i64 1), (.int .i64 1)] true)) (.node (some (.cells [(.int .i64 0), (.int .i64 0), (.int .i64 1)] true)) .nil .nil) .nil)) (.node (some (.cells [(.int .i64 1), (.int .i64 0),
  (.int .i64 0)] true)) (.node (some (.cells [(.int .i64 2), (.int .i64 0), (.int .i64 0), (.cpx (.f 4613937818241073152) (.f 0))] true)) (.node (some (.map [((.agg [(.int .i64 0),
  (.int .i64 0), (.int .i64 0)]), (.c (.int .i64 1)))])) .nil .nil) .nil) (.node (some (.cells [(.int .i64 1), (.int .i64 0), (.int .i64 0)] true)) (.node (some (.cells [(.int .u64
  4607182418800017408), (.int .u64 4607177596232733550), (.int .u64 4607163133695007814), (.int .u64 4607139046673687846), (.int .u64 4607105360961759387), (.int .u64
  4607062112630726507), (.int .u64 4607009347991985328), (.int .u64 4606947123547232624), (.int .u64 4606875505927962389), (.int .u64 4606794571824115162), (.int .u64
  4606704407901956523), (.int .u64 4606605110711272677), (.int .u64 4606496786581982534), (.int .u64 4606379551510276960), (.int .u64 4606253531034407156), (.int .u64
  4606118860100255153), (.int .u64 4605975682916830378), (.int .u64 4605824152801847042), (.int .u64 4605664432017547683), (.int .u64 4605496691596948699), (.int .u64
  4605321111160693906), (.int .u64 4605137878724712257), (.int .u64 4604947190498885672), (.int .u64 4604749250676942587), (.int .u64 4604544271217802189), (.int .u64
  4604332471618603501), (.int .u64 4604114078679662348), (.int .u64 4603889326261607894), (.int .u64 4603658455034958826), (.int .u64 4603421712222407333), (.int .u64
  4603179351334086856), (.int .u64 4602931631896107088), (.int .u64 4602678819172646912), (.int .u64 4602163548591158843), (.int .u64 4601639184639747836), (.int .u64
  4601106288820466945), (.int .u64 4600565431771507043), (.int .u64 4600017192656143146), (.int .u64 4599462158542551880), (.int .u64 4598900923775164166), (.int .u64
  4598334089338226320), (.int .u64 4597349304879225727), (.int .u64 4596196889902818827), (.int .u64 4595036948236777107), (.int .u64 4593870721975689937), (.int .u64
  4591727299969791020), (.int .u64 4589377212798040715), (.int .u64 4584876137810324206)] true)) .nil .nil) .nil))) (.node (some (.cells [(.int .i64 513), (.int .i64 0), (.int .i64
  0)] true)) (.node (some (.cells [(.int .i64 (-1)), (.int .i64 (-1)), (.int .i64 0), (.cpx (.f 4607182418800017408) (.f 0))] true)) (.node (some (.cells [(.int .i64 4), (.int .i64
  1), (.int .i64 1), (.sl 308 0 4 (some 4))] true)) (.node (some (.cells [(.int .i64 0), (.int .i64 0), (.int .i64 0)] true)) .nil .nil) .nil) (.node (some (.cells [(.int .i64 1),
  (.int .i64 0), (.int .i64 0), (.int .i64 0), (.int .i64 1), (.int .i64 0), (.int .i64 0), (.int .i64 0), (.int .i64 1)] true)) (.node (some (.cells [(.int .i64 4), (.int .i64 1),
  (.int .i64 1)] true)) .nil .nil) .nil)) (.node (some (.cells [(.int .i64 1), (.int .i64 0), (.int .i64 0), (.cpx (.f 4611686018427387904) (.f 0))] true)) (.node (some (.cells [(.int
  .i64 4), (.int .i64 1), (.int .i64 1), (.sl 371 0 4 (some 4))] true)) (.node (some (.cells [(.int .i64 1), (.int .i64 0), (.int .i64 0), (.int .i64 0), (.int .i64 1), (.int .i64 0),
  (.int .i64 0), (.int .i64 0), (.int .i64 1)] true)) .nil .nil) .nil) (.node (some (.cells [(.cpx (.f 4607182418800017408) (.f 0))] true)) (.node (some (.cells [(.cpx (.f 0) (.f 0)),
  (.cpx (.f 0) (.f 0))] true)) .nil .nil) .nil))))) (.node (some (.cells [(.int .i64 1), (.int .i64 0), (.int .i64 0), (.cpx (.f 13840687554816376832) (.f 0))] true)) (.node (some
  (.cells [(.int .i64 0), (.int .i64 1), (.int .i64 0)] true)) (.node (some (.cells [(.int .i64 1), (.int .i64 0), (.int .i64 0), (.cpx (.f 4611686018427387904) (.f 0))] true)) (.node
  (some (.cells [(.int .i64 0), (.int .i64 0), (.int .i64 0)] true)) (.node (some (.cells [(.cpx (.f 4607182418800017408) (.f 0)), (.cpx (.f 4611686018427387904) (.f 0)), (.cpx (.f
  13837309855095848960) (.f 0)), (.cpx (.f 4602678819172646912) (.f 4619567317775286272))] true)) (.node (some (.cells [(.cpx (.f 4607182418800017408) (.f 0))] true)) .nil .nil) .nil)
  (.node (some (.cells [(.int .i64 4), (.int .i64 1), (.int .i64 1), (.sl 708 0 4 (some 4))] true)) (.node (some (.cells [(.int .i64 1), (.int .i64 0), (.int .i64 0), (.int .i64 0),
  (.int .i64 1), (.int .i64 0), (.int .i64 0), (.int .i64 0), (.int .i64 1)] true)) .nil .nil) .nil)) (.node (some (.cells [(.cpx (.f 4607182418800017408) (.f 0)), (.cpx (.f
  4611686018427387904) (.f 0)), (.cpx (.f 0) (.f 0))] true)) (.node (some (.cells [(.int .i64 1), (.int .i64 0), (.int .i64 0), (.cpx (.f 0) (.f 4611686018427387904)), (.int .i64 2),
  (.int .i64 0), (.int .i64 0), (.cpx (.f 0) (.f 0))] false)) (.node (some (.cells [(.int .i64 0), (.int .i64 0), (.int .i64 0), (.cpx (.f 4616189618054758400) (.f 0))] true)) .nil
  .nil) .nil) (.node (some (.cells [(.int .i64 1), (.int .i64 0), (.int .i64 0), (.int .i64 0), (.int .i64 1), (.int .i64 0), (.int .i64 0), (.int .i64 0), (.int .i64 1)] true))
  (.node (some (.cells [(.cpx (.f 0) (.f 0))] true)) .nil .nil) .nil))) (.node (some (.cells [(.int .i64 1), (.int .i64 0), (.int .i64 0), (.cpx (.f 4611686018427387904) (.f 0))]
  true)) (.node (some (.cells [(.int .i64 0), (.int .i64 1), (.int .i64 0), (.cpx (.f 0) (.f 4613937818241073152))] true)) (.node (some (.cells [(.int .i64 5), (.int .i64 1), (.int
  .i64 1), (.sl 305 0 5 (some 5))] true)) (.node (some (.cells [(.int .u64 4607182418800017408), (.int .u64 4607177596232733550), (.int .u64 4607163133695007814), (.int .u64
  4607139046673687846), (.int .u64 4607105360961759387), (.int .u64 4607062112630726507), (.int .u64 4607009347991985328), (.int .u64 4606947123547232624), (.int .u64
  4606875505927962389), (.int .u64 4606794571824115162), (.int .u64 4606704407901956523), (.int .u64 4606605110711272677), (.int .u64 4606496786581982534), (.int .u64
  4606379551510276960), (.int .u64 4606253531034407156), (.int .u64 4606118860100255153), (.int .u64 4605975682916830378), (.int .u64 4605824152801847042), (.int .u64
  4605664432017547683), (.int .u64 4605496691596948699), (.int .u64 4605321111160693906), (.int .u64 4605137878724712257), (.int .u64 4604947190498885672), (.int .u64
  4604749250676942587), (.int .u64 4604544271217802189), (.int .u64 4604332471618603501), (.int .u64 4604114078679662348), (.int .u64 4603889326261607894), (.int .u64
  4603658455034958826), (.int .u64 4603421712222407333), (.int .u64 4603179351334086856), (.int .u64 4602931631896107088), (.int .u64 4602678819172646912), (.int .u64
  4602163548591158843), (.int .u64 4601639184639747836), (.int .u64 4601106288820466945), (.int .u64 4600565431771507043), (.int .u64 4600017192656143146), (.int .u64
  4599462158542551880), (.int .u64 4598900923775164166), (.int .u64 4598334089338226320), (.int .u64 4597349304879225727), (.int .u64 4596196889902818827), (.int .u64
  4595036948236777107), (.int .u64 4593870721975689937), (.int .u64 4591727299969791020), (.int .u64 4589377212798040715), (.int .u64 4584876137810324206)] true)) .nil .nil) .nil)
  (.node (some (.cells [(.int .i64 0), (.int .i64 1), (.int .i64 0)] true)) (.node (some (.cells [(.int .i64 1), (.int .i64 0), (.int .i64 0), (.int .i64 0), (.int .i64 1), (.int .i64
  0), (.int .i64 0), (.int .i64 0), (.int .i64 1)] true)) .nil .nil) .nil)) (.node (some (.cells [(.int .i64 1), (.int .i64 0), (.int .i64 0), (.cpx (.f 4617315517961601024) (.f 0))]
  true)) (.node (some (.cells [(.int .i64 3), (.int .i64 0), (.int .i64 0), (.cpx (.f 4617315517961601024) (.f 0))] true)) (.node (some (.cells [(.int .i64 1), (.int .i64 0), (.int
  .i64 0), (.int .i64 0), (.int .i64 1), (.int .i64 0), (.int .i64 0), (.int .i64 0), (.int .i64 1)] true)) .nil .nil) .nil) (.node (some (.cells [(.int .i64 4), (.int .i64 1), (.int
  .i64 1), (.sl 400 0 4 (some 4))] true)) (.node (some (.cells [(.cpx (.f 0) (.f 0))] true)) .nil .nil) .nil)))) (.node (some (.cells [(.int .i64 (-1)), (.int .i64 (-1)), (.int .i64
  0)] true)) (.node (some (.cells [(.int .i64 1), (.int .i64 0), (.int .i64 0), (.cpx (.f 4611686018427387904) (.f 0))] true)) (.node (some (.cells [(.int .i64 512), (.int .i64 0),
  (.int .i64 0), (.cpx (.f 4607182418800017408) (.f 0))] true)) (.node (some (.cells [(.int .i64 3), (.int .i64 1), (.int .i64 1), (.sl 286 0 3 (some 3))] true)) (.node (some (.cells
  [(.cpx (.f 4607182418800017408) (.f 0))] true)) .nil .nil) .nil) (.node (some (.cells [(.int .i64 0), (.int .i64 0), (.int .i64 0)] true)) (.node (some (.cells [(.int .i64 0), (.int
  .i64 0), (.int .i64 0)] true)) .nil .nil) .nil)) (.node (some (.cells [(.int .i64 1), (.int .i64 0), (.int .i64 0)] true)) (.node (some (.cells [(.int .i64 2), (.int .i64 0), (.int
  .i64 0)] true)) (.node (some (.cells [(.int .i64 0), (.int .i64 0), (.int .i64 0), (.cpx (.f 4616189618054758400) (.f 0))] true)) .nil .nil) .nil) (.node (some (.cells [(.int .i64
  1), (.int .i64 0), (.int .i64 0), (.int .i64 0), (.int .i64 1), (.int .i64 0), (.int .i64 0), (.int .i64 0), (.int .i64 1), (.int .i64 0), (.int .i64 0), (.int .i64 0)] true))
  (.node (some (.cells [(.cpx (.f 0) (.f 0))] true)) .nil .nil) .nil))) (.node (some (.cells [(.int .i64 (-1)), (.int .i64 (-1)), (.int .i64 0)] true)) (.node (some (.cells [(.int
  .i64 512), (.int .i64 0), (.int .i64 0)] true)) (.node (some (.cells [(.int .i64 5), (.int .i64 1), (.int .i64 1), (.sl 316 0 5 (some 5))] true)) (.node (some (.cells [(.int .i64
  0), (.int .i64 0), (.int .i64 0), (.cpx (.f 4616189618054758400) (.f 0))] true)) .nil .nil) .nil) (.node (some (.cells [(.int .i64 1), (.int .i64 0), (.int .i64 0), (.int .i64 0),
  (.int .i64 1), (.int .i64 0), (.int .i64 0), (.int .i64 0), (.int .i64 1)] true)) (.node (some (.cells [(.int .i64 4), (.int .i64 1), (.int .i64 1)] true)) .nil .nil) .nil)) (.node
  (some (.cells [(.int .i64 1), (.int .i64 0), (.int .i64 0)] true)) (.node (some (.cells [(.int .i64 0), (.int .i64 0), (.int .i64 0), (.cpx (.f 4616189618054758400) (.f 0))] true))
  (.node (some (.cells [(.int .i64 1), (.int .i64 0), (.int .i64 0), (.int .i64 0), (.int .i64 1), (.int .i64 0), (.int .i64 0), (.int .i64 0), (.int .i64 1), (.int .i64 0), (.int
  .i64 0), (.int .i64 0)] true)) .nil .nil) .nil) (.node (some (.cells [(.int .u64 4607182418800017408), (.int .u64 4607177596232733550), (.int .u64 4607163133695007814), (.int .u64
  4607139046673687846), (.int .u64 4607105360961759387), (.int .u64 4607062112630726507), (.int .u64 4607009347991985328), (.int .u64 4606947123547232624), (.int .u64
  4606875505927962389), (.int .u64 4606794571824115162), (.int .u64 4606704407901956523), (.int .u64 4606605110711272677), (.int .u64 4606496786581982534), (.int .u64
  4606379551510276960), (.int .u64 4606253531034407156), (.int .u64 4606118860100255153), (.int .u64 4605975682916830378), (.int .u64 4605824152801847042), (.int .u64
  4605664432017547683), (.int .u64 4605496691596948699), (.int .u64 4605321111160693906), (.int .u64 4605137878724712257), (.int .u64 4604947190498885672), (.int .u64
  4604749250676942587), (.int .u64 4604544271217802189), (.int .u64 4604332471618603501), (.int .u64 4604114078679662348), (.int .u64 4603889326261607894), (.int .u64
  4603658455034958826), (.int .u64 4603421712222407333), (.int .u64 4603179351334086856), (.int .u64 4602931631896107088), (.int .u64 4602678819172646912), (.int .u64
  4602163548591158843), (.int .u64 4601639184639747836), (.int .u64 4601106288820466945), (.int .u64 4600565431771507043), (.int .u64 4600017192656143146), (.int .u64
  4599462158542551880), (.int .u64 4598900923775164166), (.int .u64 4598334089338226320), (.int .u64 4597349304879225727), (.int .u64 4596196889902818827), (.int .u64
  4595036948236777107), (.int .u64 4593870721975689937), (.int .u64 4591727299969791020), (.int .u64 4589377212798040715), (.int .u64 4584876137810324206)] true)) (.node (some (.cells
  [(.cpx (.f 0) (.f 0))] true)) .nil .nil) .nil)))))))) (.node (some (.map [((.agg [(.int .i64 1), (.int .i64 2), (.int .i64 0)]), (.c (.int .i64 1)))])) (.node (some (.cells [(.int
  .i64 1), (.int .i64 2), (.int .i64 0)] true)) (.node (some (.cells [(.int .u64 4607182418800017408), (.int .u64 4607177596232733550), (.int .u64 4607163133695007814), (.int .u64
  4607139046673687846), (.int .u64 4607105360961759387), (.int .u64 4607062112630726507), (.int .u64 4607009347991985328), (.int .u64 4606947123547232624), (.int .u64
  4606875505927962389), (.int .u64 4606794571824115162), (.int .u64 4606704407901956523), (.int .u64 4606605110711272677), (.int .u64 4606496786581982534), (.int .u64
  4606379551510276960), (.int .u64 4606253531034407156), (.int .u64 4606118860100255153), (.int .u64 4605975682916830378), (.int .u64 4605824152801847042), (.int .u64
  4605664432017547683), (.int .u64 4605496691596948699), (.int .u64 4605321111160693906), (.int .u64 4605137878724712257), (.int .u64 4604947190498885672), (.int .u64
  4604749250676942587), (.int .u64 4604544271217802189), (.int .u64 4604332471618603501), (.int .u64 4604114078679662348), (.int .u64 4603889326261607894), (.int .u64
  4603658455034958826), (.int .u64 4603421712222407333), (.int .u64 4603179351334086856), (.int .u64 4602931631896107088), (.int .u64 4602678819172646912), (.int .u64
  4602163548591158843), (.int .u64 4601639184639747836), (.int .u64 4601106288820466945), (.int .u64 4600565431771507043), (.int .u64 4600017192656143146), (.int .u64
  4599462158542551880), (.int .u64 4598900923775164166), (.int .u64 4598334089338226320), (.int .u64 4597349304879225727), (.int .u64 4596196889902818827), (.int .u64
  4595036948236777107), (.int .u64 4593870721975689937), (.int .u64 4591727299969791020), (.int .u64 4589377212798040715), (.int .u64 4584876137810324206)] true)) (.node (some (.cells
  [(.int .i64 2), (.int .i64 1), (.int .i64 1), (.sl 11 0 2 (some 2))] true)) (.node (some (.cells [(.int .i64 1), (.int .i64 0), (.int .i64 0), (.cpx (.f 13840687554816376832) (.f
  0))] false)) (.node (some (.cells [(.int .i64 0), (.int .i64 1), (.int .i64 0), (.cpx (.f 0) (.f 4613937818241073152))] true)) (.node (some (.cells [(.int .i64 0), (.int .i64 1),
  (.int .i64 0), (.cpx (.f 0) (.f 4613937818241073152))] true)) (.node (some (.cells [(.int .i64 0), (.int .i64 1), (.int .i64 0)] true)) (.node (some (.cells [(.cpx (.f
  4607182418800017408) (.f 0))] true)) .nil .nil) (.node (some (.cells [(.int .u64 4607182418800017408), (.int .u64 4607177596232733550), (.int .u64 4607163133695007814), (.int .u64
  4607139046673687846), (.int .u64 4607105360961759387), (.int .u64 4607062112630726507), (.int .u64 4607009347991985328), (.int .u64 4606947123547232624), (.int .u64
  4606875505927962389), (.int .u64 4606794571824115162), (.int .u64 4606704407901956523), (.int .u64 4606605110711272677), (.int .u64 4606496786581982534), (.int .u64
  4606379551510276960), (.int .u64 4606253531034407156), (.int .u64 4606118860100255153), (.int .u64 4605975682916830378), (.int .u64 4605824152801847042), (.int .u64
  4605664432017547683), (.int .u64 4605496691596948699), (.int .u64 4605321111160693906), (.int .u64 4605137878724712257), (.int .u64 4604947190498885672), (.int .u64
  4604749250676942587), (.int .u64 4604544271217802189), (.int .u64 4604332471618603501), (.int .u64 4604114078679662348), (.int .u64 4603889326261607894), (.int .u64
  4603658455034958826), (.int .u64 4603421712222407333), (.int .u64 4603179351334086856), (.int .u64 4602931631896107088), (.int .u64 4602678819172646912), (.int .u64
  4602163548591158843), (.int .u64 4601639184639747836), (.int .u64 4601106288820466945), (.int .u64 4600565431771507043), (.int .u64 4600017192656143146), (.int .u64
  4599462158542551880), (.int .u64 4598900923775164166), (.int .u64 4598334089338226320), (.int .u64 4597349304879225727), (.int .u64 4596196889902818827), (.int .u64
  4595036948236777107), (.int .u64 4593870721975689937), (.int .u64 4591727299969791020), (.int .u64 4589377212798040715), (.int .u64 4584876137810324206)] true)) .nil .nil)) (.node
  (some (.cells [(.int .i64 0), (.int .i64 0), (.int .i64 0), (.cpx (.f 4616189618054758400) (.f 0))] false)) (.node (some (.cells [(.int .i64 1), (.int .i64 0), (.int .i64 0), (.int
  .i64 0), (.int .i64 1), (.int .i64 0), (.int .i64 0), (.int .i64 0), (.int .i64 1)] true)) .nil .nil) .nil)) (.node (some (.cells [(.cpx (.f 4607182418800017408) (.f 0)), (.cpx (.f
  4611686018427387904) (.f 0)), (.cpx (.f 0) (.f 0))] true)) (.node (some (.cells [(.int .i64 1), (.int .i64 0), (.int .i64 0), (.cpx (.f 0) (.f 4611686018427387904))] true)) (.node
  (some (.cells [(.int .i64 0), (.int .i64 0), (.int .i64 0)] true)) .nil .nil) .nil) (.node (some (.cells [(.int .i64 1), (.int .i64 0), (.int .i64 0), (.int .i64 0), (.int .i64 1),
  (.int .i64 0), (.int .i64 0), (.int .i64 0), (.int .i64 1), (.int .i64 0), (.int .i64 0), (.int .i64 0)] true)) (.node (some (.cells [(.int .i64 4), (.int .i64 1), (.int .i64 1),
  (.sl 708 0 4 (some 4))] true)) .nil .nil) .nil))) (.node (some (.cells [(.int .i64 (-1)), (.int .i64 (-1)), (.int .i64 0), (.cpx (.f 4607182418800017408) (.f 0))] true)) (.node
  (some (.cells [(.int .i64 512), (.int .i64 0), (.int .i64 0)] true)) (.node (some (.cells [(.int .i64 3), (.int .i64 1), (.int .i64 1), (.sl 286 0 3 (some 3))] true)) (.node (some
  (.cells [(.cpx (.f 4607182418800017408) (.f 0)), (.cpx (.f 4607182418800017408) (.f 0))] false)) .nil .nil) .nil) (.node (some (.cells [(.int .i64 0), (.int .i64 0), (.int .i64 0)]
  true)) (.node (some (.cells [(.int .i64 0), (.int .i64 1), (.int .i64 0)] true)) .nil .nil) .nil)) (.node (some (.cells [(.cpx (.f 0) (.f 0)), (.cpx (.f 4611686018427387904) (.f
  0)), (.cpx (.f 0) (.f 0))] true)) (.node (some (.cells [(.int .i64 2), (.int .i64 0), (.int .i64 0), (.cpx (.f 4613937818241073152) (.f 0))] true)) (.node (some (.cells [(.int .i64
  4), (.int .i64 1), (.int .i64 1), (.sl 708 0 4 (some 4))] true)) .nil .nil) .nil) (.node (some (.cells [(.int .i64 0), (.int .i64 1), (.int .i64 0)] true)) (.node (some (.cells
  [(.cpx (.f 4607182418800017408) (.f 0)), (.cpx (.f 4607182418800017408) (.f 0)), (.cpx (.f 4607182418800017408) (.f 0)), (.cpx (.f 4607182418800017408) (.f 0))] true)) .nil .nil)
  .nil)))) (.node (some (.cells [(.int .i64 1), (.int .i64 0), (.int .i64 0)] true)) (.node (some (.cells [(.cpx (.f 4611686018427387904) (.f 0)), (.cpx (.f 0) (.f
  4613937818241073152)), (.cpx (.f 4607182418800017408) (.f 0))] true)) (.node (some (.cells [(.int .i64 513), (.int .i64 0), (.int .i64 0)] true)) (.node (some (.cells [(.int .i64
  4), (.int .i64 1), (.int .i64 1), (.sl 276 0 4 (some 4))] true)) (.node (some (.cells [(.cpx (.f 4607182418800017408) (.f 0)), (.cpx (.f 4607182418800017408) (.f 0))] false)) .nil
  .nil) .nil) (.node (some (.cells [(.cpx (.f 4607182418800017408) (.f 0)), (.cpx (.f 4607182418800017408) (.f 0)), (.cpx (.f 4607182418800017408) (.f 0)), (.cpx (.f
  4607182418800017408) (.f 0))] true)) (.node (some (.cells [(.int .i64 0), (.int .i64 1), (.int .i64 0)] true)) .nil .nil) .nil)) (.node (some (.cells [(.int .i64 1), (.int .i64 0),
  (.int .i64 0), (.cpx (.f 4611686018427387904) (.f 0)), (.int .i64 0), (.int .i64 1), (.int .i64 0), (.cpx (.f 0) (.f 4613937818241073152)), (.int .i64 (-1)), (.int .i64 (-1)), (.int
  .i64 0), (.cpx (.f 4607182418800017408) (.f 0)), (.int .i64 1), (.int .i64 0), (.int .i64 0), (.cpx (.f 4617315517961601024) (.f 0))] false)) (.node (some (.cells [(.int .i64 2),
  (.int .i64 0), (.int .i64 0)] true)) (.node (some (.map [((.agg [(.int .i64 0), (.int .i64 0), (.int .i64 0)]), (.c (.int .i64 1)))])) .nil .nil) .nil) (.node (some (.cells [(.int
  .i64 1), (.int .i64 0), (.int .i64 0), (.int .i64 0), (.int .i64 1), (.int .i64 0), (.int .i64 0), (.int .i64 0), (.int .i64 1)] true)) (.node (some (.cells [(.cpx (.f 0) (.f 0))]
  true)) .nil .nil) .nil))) (.node (some (.cells [(.int .i64 (-2)), (.int .i64 0), (.int .i64 0)] true)) (.node (some (.cells [(.int .i64 1), (.int .i64 0), (.int .i64 0)] true))
  (.node (some (.cells [(.int .i64 5), (.int .i64 1), (.int .i64 1), (.sl 305 0 5 (some 5))] true)) (.node (some (.cells [(.int .i64 0), (.int .i64 0), (.int .i64 0)] true)) .nil
  .nil) .nil) (.node (some (.cells [(.int .i64 1), (.int .i64 0), (.int .i64 0), (.int .i64 0), (.int .i64 1), (.int .i64 0), (.int .i64 0), (.int .i64 0), (.int .i64 1)] true))
  (.node (some (.cells [(.int .i64 0), (.int .i64 0), (.int .i64 0)] true)) .nil .nil) .nil)) (.node (some (.cells [(.int .i64 1), (.int .i64 0), (.int .i64 0), (.cpx (.f
  4617315517961601024) (.f 0))] true)) (.node (some (.cells [(.int .i64 2), (.int .i64 0), (.int .i64 0), (.cpx (.f 4613937818241073152) (.f 0))] true)) (.node (some (.cells [(.int
  .i64 1), (.int .i64 0), (.int .i64 0), (.int .i64 0), (.int .i64 1), (.int .i64 0), (.int .i64 0), (.int .i64 0), (.int .i64 1), (.int .i64 0), (.int .i64 0), (.int .i64 0)] true))
  .nil .nil) .nil) (.node (some (.cells [(.cpx (.f 4616189618054758400) (.f 0)), (.cpx (.f 0) (.f 0)), (.cpx (.f 0) (.f 0)), (.cpx (.f 0) (.f 0))] true)) (.node (some (.cells [(.int
  .u64 4607182418800017408), (.int .u64 4607177596232733550), (.int .u64 4607163133695007814), (.int .u64 4607139046673687846), (.int .u64 4607105360961759387), (.int .u64
  4607062112630726507), (.int .u64 4607009347991985328), (.int .u64 4606947123547232624), (.int .u64 4606875505927962389), (.int .u64 4606794571824115162), (.int .u64
  4606704407901956523), (.int .u64 4606605110711272677), (.int .u64 4606496786581982534), (.int .u64 4606379551510276960), (.int .u64 4606253531034407156), (.int .u64
  4606118860100255153), (.int .u64 4605975682916830378), (.int .u64 4605824152801847042), (.int .u64 4605664432017547683), (.int .u64 4605496691596948699), (.int .u64
  4605321111160693906), (.int .u64 4605137878724712257), (.int .u64 4604947190498885672), (.int .u64 4604749250676942587), (.int .u64 4604544271217802189), (.int .u64
  4604332471618603501), (.int .u64 4604114078679662348), (.int .u64 4603889326261607894), (.int .u64 4603658455034958826), (.int .u64 4603421712222407333), (.int .u64
  4603179351334086856), (.int .u64 4602931631896107088), (.int .u64 4602678819172646912), (.int .u64 4602163548591158843), (.int .u64 4601639184639747836), (.int .u64
  4601106288820466945), (.int .u64 4600565431771507043), (.int .u64 4600017192656143146), (.int .u64 4599462158542551880), (.int .u64 4598900923775164166), (.int .u64
  4598334089338226320), (.int .u64 4597349304879225727), (.int .u64 4596196889902818827), (.int .u64 4595036948236777107), (.int .u64 4593870721975689937), (.int .u64
  4591727299969791020), (.int .u64 4589377212798040715), (.int .u64 4584876137810324206)] true)) .nil .nil) .nil))))) (.node (some (.cells [(.int .i64 1), (.int .i64 0), (.int .i64
  0), (.cpx (.f 0) (.f 4611686018427387904))] true)) (.node (some (.cells [(.int .i64 2), (.int .i64 1), (.int .i64 1), (.sl 18 0 2 (some 2))] true)) (.node (some (.cells [(.int .i64
  1), (.int .i64 0), (.int .i64 0), (.cpx (.f 4611686018427387904) (.f 0))] true)) (.node (some (.cells [(.int .i64 (-1)), (.int .i64 (-1)), (.int .i64 0), (.cpx (.f
  4607182418800017408) (.f 0))] true)) (.node (some (.cells [(.int .i64 (-1)), (.int .i64 (-1)), (.int .i64 0)] true)) (.node (some (.cells [(.cpx (.f 4607182418800017408) (.f 0))]
  true)) .nil .nil) .nil) (.node (some (.cells [(.int .i64 0), (.int .i64 0), (.int .i64 0)] false)) (.node (some (.cells [(.int .i64 1), (.int .i64 0), (.int .i64 0), (.int .i64 0),
  (.int .i64 1), (.int .i64 0), (.int .i64 0), (.int .i64 0), (.int .i64 1), (.int .i64 0), (.int .i64 0), (.int .i64 0)] true)) .nil .nil) .nil)) (.node (some (.cells [(.int .i64
  (-513)), (.int .i64 0), (.int .i64 0)] true)) (.node (some (.cells [(.int .i64 1), (.int .i64 0), (.int .i64 0), (.cpx (.f 0) (.f 4611686018427387904))] true)) (.node (some (.cells
  [(.int .i64 0), (.int .i64 0), (.int .i64 0)] true)) .nil .nil) .nil) (.node (some (.cells [(.int .i64 1), (.int .i64 0), (.int .i64 0), (.int .i64 0), (.int .i64 1), (.int .i64 0),
  (.int .i64 0), (.int .i64 0), (.int .i64 1)] true)) (.node (some (.cells [(.int .u64 4607182418800017408), (.int .u64 4607177596232733550), (.int .u64 4607163133695007814), (.int
  .u64 4607139046673687846), (.int .u64 4607105360961759387), (.int .u64 4607062112630726507), (.int .u64 4607009347991985328), (.int .u64 4606947123547232624), (.int .u64
  4606875505927962389), (.int .u64 4606794571824115162), (.int .u64 4606704407901956523), (.int .u64 4606605110711272677), (.int .u64 4606496786581982534), (.int .u64
  4606379551510276960), (.int .u64 4606253531034407156), (.int .u64 4606118860100255153), (.int .u64 4605975682916830378), (.int .u64 4605824152801847042), (.int .u64
  4605664432017547683), (.int .u64 4605496691596948699), (.int .u64 4605321111160693906), (.int .u64 4605137878724712257), (.int .u64 4604947190498885672), (.int .u64
  4604749250676942587), (.int .u64 4604544271217802189), (.int .u64 4604332471618603501), (.int .u64 4604114078679662348), (.int .u64 4603889326261607894), (.int .u64
  4603658455034958826), (.int .u64 4603421712222407333), (.int .u64 4603179351334086856), (.int .u64 4602931631896107088), (.int .u64 4602678819172646912), (.int .u64
  4602163548591158843), (.int .u64 4601639184639747836), (.int .u64 4601106288820466945), (.int .u64 4600565431771507043), (.int .u64 4600017192656143146), (.int .u64
  4599462158542551880), (.int .u64 4598900923775164166), (.int .u64 4598334089338226320), (.int .u64 4597349304879225727), (.int .u64 4596196889902818827), (.int .u64
  4595036948236777107), (.int .u64 4593870721975689937), (.int .u64 4591727299969791020), (.int .u64 4589377212798040715), (.int .u64 4584876137810324206)] true)) .nil .nil) .nil)))
  (.node (some (.cells [(.int .i64 1), (.int .i64 0), (.int .i64 0)] true)) (.node (some (.cells [(.int .i64 (-1)), (.int .i64 (-1)), (.int .i64 0)] true)) (.node (some (.cells [(.int
  .i64 0), (.int .i64 0), (.int .i64 0), .nils] true)) (.node (some (.cells [(.cpx (.f 4607182418800017408) (.f 0))] false)) .nil .nil) .nil) (.node (some (.cells [(.int .i64 1),
  (.int .i64 0), (.int .i64 0), (.int .i64 0), (.int .i64 1), (.int .i64 0), (.int .i64 0), (.int .i64 0), (.int .i64 1), (.int .i64 0), (.int .i64 0), (.int .i64 0)] true)) (.node
  (some (.cells [(.int .i64 1), (.int .i64 0), (.int .i64 0), (.int .i64 0), (.int .i64 1), (.int .i64 0), (.int .i64 0), (.int .i64 0), (.int .i64 1)] true)) .nil .nil) .nil)) (.node
  (some (.cells [(.int .i64 1), (.int .i64 0), (.int .i64 0), (.cpx (.f 4611686018427387904) (.f 0))] true)) (.node none (.node (some (.cells [(.int .i64 1), (.int .i64 0), (.int .i64
  0), (.int .i64 0), (.int .i64 1), (.int .i64 0), (.int .i64 0), (.int .i64 0), (.int .i64 1), (.int .i64 0), (.int .i64 0), (.int .i64 0)] true)) .nil .nil) .nil) (.node (some
  (.cells [(.int .i64 0), (.int .i64 1), (.int .i64 0)] true)) (.node (some (.cells [(.cpx (.f 4616189618054758400) (.f 0))] true)) .nil .nil) .nil)))) (.node (some (.cells [(.int
  .i64 1), (.int .i64 0), (.int .i64 0), (.cpx (.f 4611686018427387904) (.f 0))] true)) (.node (some (.cells [(.int .i64 (-1)), (.int .i64 (-1)), (.int .i64 0), (.cpx (.f
  4607182418800017408) (.f 0))] true)) (.node (some (.cells [(.int .i64 (-513)), (.int .i64 0), (.int .i64 0)] true)) (.node (some (.cells [(.int .i64 3), (.int .i64 1), (.int .i64
  1), (.sl 279 0 3 (some 3))] true)) (.node (some (.cells [(.cpx (.f 4607182418800017408) (.f 0))] false)) .nil .nil) .nil) (.node (some (.cells [(.int .i64 4), (.int .i64 1), (.int
  .i64 1)] true)) (.node (some (.cells [(.int .i64 1), (.int .i64 0), (.int .i64 0), (.int .i64 0), (.int .i64 1), (.int .i64 0), (.int .i64 0), (.int .i64 0), (.int .i64 1)] true))
  .nil .nil) .nil)) (.node (some (.cells [(.int .i64 (-1)), (.int .i64 (-1)), (.int .i64 0), (.cpx (.f 4607182418800017408) (.f 0))] true)) (.node (some (.cells [(.int .i64 3), (.int
  .i64 0), (.int .i64 0)] true)) (.node (some (.cells [] true)) .nil .nil) .nil) (.node (some (.cells [(.int .i64 0), (.int .i64 0), (.int .i64 0)] true)) (.node (some (.cells [(.int
  .u64 4607182418800017408), (.int .u64 4607177596232733550), (.int .u64 4607163133695007814), (.int .u64 4607139046673687846), (.int .u64 4607105360961759387), (.int .u64
  4607062112630726507), (.int .u64 4607009347991985328), (.int .u64 4606947123547232624), (.int .u64 4606875505927962389), (.int .u64 4606794571824115162), (.int .u64
  4606704407901956523), (.int .u64 4606605110711272677), (.int .u64 4606496786581982534), (.int .u64 4606379551510276960), (.int .u64 4606253531034407156), (.int .u64
  4606118860100255153), (.int .u64 4605975682916830378), (.int .u64 4605824152801847042), (.int .u64 4605664432017547683), (.int .u64 4605496691596948699), (.int .u64
  4605321111160693906), (.int .u64 4605137878724712257), (.int .u64 4604947190498885672), (.int .u64 4604749250676942587), (.int .u64 4604544271217802189), (.int .u64
  4604332471618603501), (.int .u64 4604114078679662348), (.int .u64 4603889326261607894), (.int .u64 4603658455034958826), (.int .u64 4603421712222407333), (.int .u64
  4603179351334086856), (.int .u64 4602931631896107088), (.int .u64 4602678819172646912), (.int .u64 4602163548591158843), (.int .u64 4601639184639747836), (.int .u64
  4601106288820466945), (.int .u64 4600565431771507043), (.int .u64 4600017192656143146), (.int .u64 4599462158542551880), (.int .u64 4598900923775164166), (.int .u64
  4598334089338226320), (.int .u64 4597349304879225727), (.int .u64 4596196889902818827), (.int .u64 4595036948236777107), (.int .u64 4593870721975689937), (.int .u64
  4591727299969791020), (.int .u64 4589377212798040715), (.int .u64 4584876137810324206)] true)) .nil .nil) .nil))) (.node (some (.cells [(.int .i64 1), (.int .i64 0), (.int .i64 0),
  (.cpx (.f 4611686018427387904) (.f 0))] true)) (.node (some (.cells [(.int .i64 0), (.int .i64 1), (.int .i64 0)] true)) (.node (some (.cells [(.cpx (.f 9223372036854775808) (.f
  0)), (.cpx (.f 0) (.f 0)), (.cpx (.f 9221120237041090561) (.f 0))] true)) (.node (some (.cells [(.int .i64 0), (.int .i64 0), (.int .i64 0), (.cpx (.f 4616189618054758400) (.f 0))]
  true)) .nil .nil) .nil) (.node (some (.cells [(.int .i64 0), (.int .i64 1), (.int .i64 0)] true)) (.node (some (.map [((.c (.int .i64 0)), (.c (.int .i64 1)))])) .nil .nil) .nil))
  (.node (some (.cells [(.int .i64 0), (.int .i64 1), (.int .i64 0)] true)) (.node (some (.cells [(.int .i64 4), (.int .i64 1), (.int .i64 1), (.sl 371 0 4 (some 4))] true)) (.node
  (some (.cells [(.int .i64 0), (.int .i64 0), (.int .i64 1)] true)) .nil .nil) .nil) (.node (some (.cells [(.cpx (.f 4607182418800017408) (.f 0))] true)) (.node (some (.cells [(.cpx
  (.f 0) (.f 0))] true)) .nil .nil) .nil)))))) (.node (some (.cells [(.int .i64 2), (.int .i64 1), (.int .i64 1), (.sl 11 0 2 (some 2))] true)) (.node (some (.cells [(.int .i64 2),
  (.int .i64 1), (.int .i64 1), (.sl 18 0 2 (some 2))] true)) (.node (some (.cells [(.int .i64 1), (.int .i64 0), (.int .i64 0), (.cpx (.f 0) (.f 4617315517961601024))] true)) (.node
  (some (.cells [(.int .i64 0), (.int .i64 1), (.int .i64 0)] true)) (.node (some (.cells [(.int .i64 (-1)), (.int .i64 (-1)), (.int .i64 0), (.cpx (.f 4607182418800017408) (.f 0))]
  true)) (.node (some (.cells [(.int .i64 1), (.int .i64 0), (.int .i64 0), (.cpx (.f 4611686018427387904) (.f 0))] true)) (.node (some (.cells [(.int .u64 4607182418800017408), (.int
  .u64 4607177596232733550), (.int .u64 4607163133695007814), (.int .u64 4607139046673687846), (.int .u64 4607105360961759387), (.int .u64 4607062112630726507), (.int .u64
  4607009347991985328), (.int .u64 4606947123547232624), (.int .u64 4606875505927962389), (.int .u64 4606794571824115162), (.int .u64 4606704407901956523), (.int .u64
  4606605110711272677), (.int .u64 4606496786581982534), (.int .u64 4606379551510276960), (.int .u64 4606253531034407156), (.int .u64 4606118860100255153), (.int .u64
  4605975682916830378), (.int .u64 4605824152801847042), (.int .u64 4605664432017547683), (.int .u64 4605496691596948699), (.int .u64 4605321111160693906), (.int .u64
  4605137878724712257), (.int .u64 4604947190498885672), (.int .u64 4604749250676942587), (.int .u64 4604544271217802189), (.int .u64 4604332471618603501), (.int .u64
  4604114078679662348), (.int .u64 4603889326261607894), (.int .u64 4603658455034958826), (.int .u64 4603421712222407333), (.int .u64 4603179351334086856), (.int .u64
  4602931631896107088), (.int .u64 4602678819172646912), (.int .u64 4602163548591158843), (.int .u64 4601639184639747836), (.int .u64 4601106288820466945), (.int .u64
  4600565431771507043), (.int .u64 4600017192656143146), (.int .u64 4599462158542551880), (.int .u64 4598900923775164166), (.int .u64 4598334089338226320), (.int .u64
  4597349304879225727), (.int .u64 4596196889902818827), (.int .u64 4595036948236777107), (.int .u64 4593870721975689937), (.int .u64 4591727299969791020), (.int .u64
  4589377212798040715), (.int .u64 4584876137810324206)] true)) .nil .nil) (.node (some (.cells [(.int .i64 4), (.int .i64 1), (.int .i64 1), (.sl 708 0 4 (some 4))] true)) .nil
  .nil)) (.node (some (.cells [(.int .i64 0), (.int .i64 0), (.int .i64 0)] true)) (.node (some (.cells [(.int .i64 1), (.int .i64 0), (.int .i64 0), (.int .i64 0), (.int .i64 1),
  (.int .i64 0), (.int .i64 0), (.int .i64 0), (.int .i64 1)] true)) .nil .nil) .nil)) (.node (some (.cells [(.int .i64 (-1)), (.int .i64 (-1)), (.int .i64 0), (.cpx (.f
  4607182418800017408) (.f 0))] true)) (.node (some (.cells [(.int .i64 2), (.int .i64 0), (.int .i64 0), (.cpx (.f 4613937818241073152) (.f 0))] true)) (.node (some (.map [((.agg
  [(.int .i64 0), (.int .i64 0), (.int .i64 0)]), (.c (.int .i64 0)))])) .nil .nil) .nil) (.node (some (.cells [(.int .i64 1), (.int .i64 0), (.int .i64 0), (.int .i64 0), (.int .i64
  1), (.int .i64 0), (.int .i64 0), (.int .i64 0), (.int .i64 1)] true)) (.node (some (.cells [(.cpx (.f 4607182418800017408) (.f 0)), (.cpx (.f 4607182418800017408) (.f 0)), (.cpx
  (.f 4607182418800017408) (.f 0)), (.cpx (.f 4607182418800017408) (.f 0))] true)) .nil .nil) .nil))) (.node (some (.cells [(.int .i64 (-1)), (.int .i64 (-1)), (.int .i64 0), (.cpx
  (.f 4607182418800017408) (.f 0))] true)) (.node (some (.cells [(.int .i64 1), (.int .i64 0), (.int .i64 0)] true)) (.node (some (.cells [(.int .i64 0), (.int .i64 0), (.int .i64 0),
  .nils] true)) (.node (some (.cells [(.cpx (.f 4607182418800017408) (.f 0))] true)) .nil .nil) .nil) (.node (some (.cells [(.int .i64 1), (.int .i64 0), (.int .i64 0), (.int .i64 0),
  (.int .i64 1), (.int .i64 0), (.int .i64 0), (.int .i64 0), (.int .i64 1), (.int .i64 0), (.int .i64 0), (.int .i64 0)] true)) (.node (some (.cells [(.int .i64 0), (.int .i64 0),
  (.int .i64 0)] true)) .nil .nil) .nil)) (.node (some (.cells [(.int .i64 0), (.int .i64 1), (.int .i64 0), (.cpx (.f 0) (.f 4613937818241073152))] true)) (.node (some (.cells [(.int
  .i64 1), (.int .i64 0), (.int .i64 0), (.cpx (.f 0) (.f 4611686018427387904))] true)) (.node (some (.cells [(.int .i64 0), (.int .i64 0), (.int .i64 0), (.cpx (.f
  4616189618054758400) (.f 0))] true)) .nil .nil) .nil) (.node (some (.cells [(.int .i64 0), (.int .i64 0), (.int .i64 0)] true)) (.node (some (.cells [(.cpx (.f 4616189618054758400)
  (.f 0)), (.cpx (.f 0) (.f 0))] false)) .nil .nil) .nil)))) (.node (some (.cells [(.int .i64 (-1)), (.int .i64 (-1)), (.int .i64 0)] true)) (.node (some (.cells [(.int .i64 1), (.int
  .i64 0), (.int .i64 0), (.cpx (.f 4611686018427387904) (.f 0))] true)) (.node (some (.cells [(.int .i64 0), (.int .i64 0), (.int .i64 0)] true)) (.node (some (.cells [(.cpx (.f
  4607182418800017408) (.f 0)), (.cpx (.f 4611686018427387904) (.f 0)), (.cpx (.f 4613937818241073152) (.f 0)), (.cpx (.f 13826050856027422720) (.f 0))] true)) (.node (some (.cells
  [(.cpx (.f 4607182418800017408) (.f 0))] true)) .nil .nil) .nil) (.node (some (.cells [(.int .i64 4), (.int .i64 1), (.int .i64 1)] true)) (.node (some (.cells [(.int .i64 0), (.int
  .i64 1), (.int .i64 0)] true)) .nil .nil) .nil)) (.node (some (.cells [(.int .i64 1), (.int .i64 0), (.int .i64 0), (.cpx (.f 4611686018427387904) (.f 0))] true)) (.node (some
  (.cells [(.int .i64 1), (.int .i64 0), (.int .i64 0)] true)) (.node (some (.cells [(.int .i64 0), (.int .i64 0), (.int .i64 0), (.cpx (.f 4616189618054758400) (.f 0))] false)) .nil
  .nil) .nil) (.node (some (.cells [(.int .i64 0), (.int .i64 0), (.int .i64 0)] true)) (.node (some (.cells [(.cpx (.f 4616189618054758400) (.f 0))] true)) .nil .nil) .nil))) (.node
  (some (.cells [(.cpx (.f 4611686018427387904) (.f 0)), (.cpx (.f 4611686018427387904) (.f 0)), (.cpx (.f 0) (.f 0))] true)) (.node (some (.cells [(.int .i64 1), (.int .i64 0), (.int
  .i64 0)] true)) (.node (some (.cells [(.cpx (.f 4607182418800017408) (.f 0)), (.cpx (.f 4611686018427387904) (.f 0)), (.cpx (.f 4613937818241073152) (.f 0)), (.cpx (.f
  13826050856027422720) (.f 0))] true)) (.node (some (.cells [(.int .i64 4), (.int .i64 1), (.int .i64 1)] true)) .nil .nil) .nil) (.node (some (.cells [(.int .i64 1), (.int .i64 0),
  (.int .i64 0), (.int .i64 0), (.int .i64 1), (.int .i64 0), (.int .i64 0), (.int .i64 0), (.int .i64 1)] true)) (.node (some (.cells [(.int .i64 0), (.int .i64 0), (.int .i64 0)]
  true)) .nil .nil) .nil)) (.node (some (.map [((.agg [(.int .i64 1), (.int .i64 0), (.int .i64 0)]), (.c (.int .i64 2))), ((.agg [(.int .i64 0), (.int .i64 1), (.int .i64 0)]), (.c
  (.int .i64 1))), ((.agg [(.int .i64 (-1)), (.int .i64 (-1)), (.int .i64 0)]), (.c (.int .i64 1)))])) (.node (some (.cells [(.int .i64 4), (.int .i64 1), (.int .i64 1), (.sl 371 0 4
  (some 4))] true)) (.node (some (.cells [(.int .i64 1), (.int .i64 0), (.int .i64 0), (.int .i64 0), (.int .i64 1), (.int .i64 0), (.int .i64 0), (.int .i64 0), (.int .i64 1)] true))
  .nil .nil) .nil) (.node (some (.cells [(.int .u64 4607182418800017408), (.int .u64 4607177596232733550), (.int .u64 4607163133695007814), (.int .u64 4607139046673687846), (.int .u64
  4607105360961759387), (.int .u64 4607062112630726507), (.int .u64 4607009347991985328), (.int .u64 4606947123547232624), (.int .u64 4606875505927962389), (.int .u64
  4606794571824115162), (.int .u64 4606704407901956523), (.int .u64 4606605110711272677), (.int .u64 4606496786581982534), (.int .u64 4606379551510276960), (.int .u64
  4606253531034407156), (.int .u64 4606118860100255153), (.int .u64 4605975682916830378), (.int .u64 4605824152801847042), (.int .u64 4605664432017547683), (.int .u64
  4605496691596948699), (.int .u64 4605321111160693906), (.int .u64 4605137878724712257), (.int .u64 4604947190498885672), (.int .u64 4604749250676942587), (.int .u64
  4604544271217802189), (.int .u64 4604332471618603501), (.int .u64 4604114078679662348), (.int .u64 4603889326261607894), (.int .u64 4603658455034958826), (.int .u64
  4603421712222407333), (.int .u64 4603179351334086856), (.int .u64 4602931631896107088), (.int .u64 4602678819172646912), (.int .u64 4602163548591158843), (.int .u64
  4601639184639747836), (.int .u64 4601106288820466945), (.int .u64 4600565431771507043), (.int .u64 4600017192656143146), (.int .u64 4599462158542551880), (.int .u64
  4598900923775164166), (.int .u64 4598334089338226320), (.int .u64 4597349304879225727), (.int .u64 4596196889902818827), (.int .u64 4595036948236777107), (.int .u64
  4593870721975689937), (.int .u64 4591727299969791020), (.int .u64 4589377212798040715), (.int .u64 4584876137810324206)] true)) (.node (some (.cells [(.cpx (.f 0) (.f 0)), (.cpx (.f
  0) (.f 0))] false)) .nil .nil) .nil))))) (.node (some (.map [((.agg [(.int .i64 1), (.int .i64 0), (.int .i64 0)]), (.c (.int .i64 1)))])) (.node (some (.cells [(.int .i64 1), (.int
  .i64 0), (.int .i64 0)] true)) (.node (some (.cells [(.int .i64 (-1)), (.int .i64 (-1)), (.int .i64 0)] true)) (.node (some (.cells [(.int .i64 513), (.int .i64 0), (.int .i64 0)]
  true)) (.node (some (.cells [(.cpx (.f 4611686018427387904) (.f 0)), (.cpx (.f 0) (.f 4613937818241073152)), (.cpx (.f 4607182418800017408) (.f 0))] true)) (.node (some (.cells
  [(.cpx (.f 4616189618054758400) (.f 0)), (.cpx (.f 0) (.f 0)), (.cpx (.f 0) (.f 0)), (.cpx (.f 0) (.f 0))] true)) .nil .nil) .nil) (.node (some (.cells [(.int .i64 4), (.int .i64
  1), (.int .i64 1), (.osl 394 4 1)] true)) (.node (some (.cells [(.int .i64 1), (.int .i64 0), (.int .i64 0), (.int .i64 0), (.int .i64 1), (.int .i64 0), (.int .i64 0), (.int .i64
  0), (.int .i64 1)] true)) .nil .nil) .nil)) (.node (some (.cells [(.int .i64 512), (.int .i64 0), (.int .i64 0), (.cpx (.f 4607182418800017408) (.f 0))] true)) (.node (some (.cells
  [] true)) (.node (some (.cells [(.int .i64 0), (.int .i64 0), (.int .i64 0), (.cpx (.f 4616189618054758400) (.f 0))] true)) .nil .nil) .nil) (.node (some (.cells [(.int .i64 1),
  (.int .i64 0), (.int .i64 0), (.int .i64 0), (.int .i64 1), (.int .i64 0), (.int .i64 0), (.int .i64 0), (.int .i64 1)] true)) (.node (some (.cells [(.cpx (.f 0) (.f 0))] true))
  .nil .nil) .nil))) (.node (some (.cells [(.int .i64 1), (.int .i64 0), (.int .i64 0)] true)) (.node (some (.cells [(.int .i64 (-1)), (.int .i64 (-1)), (.int .i64 0), (.cpx (.f
  4607182418800017408) (.f 0)), (.int .i64 0), (.int .i64 1), (.int .i64 0), (.cpx (.f 0) (.f 4613937818241073152)), (.int .i64 1), (.int .i64 0), (.int .i64 0), (.cpx (.f
  4611686018427387904) (.f 0)), (.int .i64 512), (.int .i64 0), (.int .i64 0), (.cpx (.f 4607182418800017408) (.f 0))] false)) (.node (some (.cells [(.int .i64 5), (.int .i64 1),
  (.int .i64 1), (.sl 298 0 5 (some 5))] true)) (.node (some (.cells [(.int .u64 4607182418800017408), (.int .u64 4607177596232733550), (.int .u64 4607163133695007814), (.int .u64
  4607139046673687846), (.int .u64 4607105360961759387), (.int .u64 4607062112630726507), (.int .u64 4607009347991985328), (.int .u64 4606947123547232624), (.int .u64
  4606875505927962389), (.int .u64 4606794571824115162), (.int .u64 4606704407901956523), (.int .u64 4606605110711272677), (.int .u64 4606496786581982534), (.int .u64
  4606379551510276960), (.int .u64 4606253531034407156), (.int .u64 4606118860100255153), (.int .u64 4605975682916830378), (.int .u64 4605824152801847042), (.int .u64
  4605664432017547683), (.int .u64 4605496691596948699), (.int .u64 4605321111160693906), (.int .u64 4605137878724712257), (.int .u64 4604947190498885672), (.int .u64
  4604749250676942587), (.int .u64 4604544271217802189), (.int .u64 4604332471618603501), (.int .u64 4604114078679662348), (.int .u64 4603889326261607894), (.int .u64
  4603658455034958826), (.int .u64 4603421712222407333), (.int .u64 4603179351334086856), (.int .u64 4602931631896107088), (.int .u64 4602678819172646912), (.int .u64
  4602163548591158843), (.int .u64 4601639184639747836), (.int .u64 4601106288820466945), (.int .u64 4600565431771507043), (.int .u64 4600017192656143146), (.int .u64
  4599462158542551880), (.int .u64 4598900923775164166), (.int .u64 4598334089338226320), (.int .u64 4597349304879225727), (.int .u64 4596196889902818827), (.int .u64
  4595036948236777107), (.int .u64 4593870721975689937), (.int .u64 4591727299969791020), (.int .u64 4589377212798040715), (.int .u64 4584876137810324206)] true)) .nil .nil) .nil)
  (.node (some (.cells [(.int .i64 1), (.int .i64 0), (.int .i64 0)] true)) (.node (some (.cells [(.int .i64 1), (.int .i64 0), (.int .i64 0), (.int .i64 0), (.int .i64 1), (.int .i64
  0), (.int .i64 0), (.int .i64 0), (.int .i64 1), (.int .i64 0), (.int .i64 0), (.int .i64 0)] true)) .nil .nil) .nil)) (.node (some (.cells [(.int .i64 (-1)), (.int .i64 (-1)),
  (.int .i64 0), (.cpx (.f 4607182418800017408) (.f 0))] true)) (.node (some (.cells [(.int .i64 3), (.int .i64 0), (.int .i64 0), (.cpx (.f 4613937818241073152) (.f
  4616189618054758400))] true)) (.node (some (.cells [(.int .i64 1), (.int .i64 0), (.int .i64 0), (.int .i64 0), (.int .i64 1), (.int .i64 0), (.int .i64 0), (.int .i64 0), (.int
  .i64 1), (.int .i64 0), (.int .i64 0), (.int .i64 0)] true)) .nil .nil) .nil) (.node (some (.cells [(.int .i64 4), (.int .i64 1), (.int .i64 1), (.sl 496 0 4 (some 4))] true))
  (.node (some (.cells [(.cpx (.f 0) (.f 0))] false)) .nil .nil) .nil)))) (.node (some (.cells [(.int .i64 1), (.int .i64 0), (.int .i64 0), (.cpx (.f 4611686018427387904) (.f 0))]
  true)) (.node (some (.cells [(.int .i64 0), (.int .i64 1), (.int .i64 0), (.cpx (.f 0) (.f 4613937818241073152))] true)) (.node (some (.cells [(.cpx (.f 0) (.f 0)), (.cpx (.f 0) (.f
  0)), (.cpx (.f 0) (.f 0))] true)) (.node (some (.cells [(.int .i64 3), (.int .i64 1), (.int .i64 1), (.sl 279 0 3 (some 3))] true)) (.node (some (.cells [(.int .u64
  4607182418800017408), (.int .u64 4607177596232733550), (.int .u64 4607163133695007814), (.int .u64 4607139046673687846), (.int .u64 4607105360961759387), (.int .u64
  4607062112630726507), (.int .u64 4607009347991985328), (.int .u64 4606947123547232624), (.int .u64 4606875505927962389), (.int .u64 4606794571824115162), (.int .u64
  4606704407901956523), (.int .u64 4606605110711272677), (.int .u64 4606496786581982534), (.int .u64 4606379551510276960), (.int .u64 4606253531034407156), (.int .u64
  4606118860100255153), (.int .u64 4605975682916830378), (.int .u64 4605824152801847042), (.int .u64 4605664432017547683), (.int .u64 4605496691596948699), (.int .u64
  4605321111160693906), (.int .u64 4605137878724712257), (.int .u64 4604947190498885672), (.int .u64 4604749250676942587), (.int .u64 4604544271217802189), (.int .u64
  4604332471618603501), (.int .u64 4604114078679662348), (.int .u64 4603889326261607894), (.int .u64 4603658455034958826), (.int .u64 4603421712222407333), (.int .u64
  4603179351334086856), (.int .u64 4602931631896107088), (.int .u64 4602678819172646912), (.int .u64 4602163548591158843), (.int .u64 4601639184639747836), (.int .u64
  4601106288820466945), (.int .u64 4600565431771507043), (.int .u64 4600017192656143146), (.int .u64 4599462158542551880), (.int .u64 4598900923775164166), (.int .u64
  4598334089338226320), (.int .u64 4597349304879225727), (.int .u64 4596196889902818827), (.int .u64 4595036948236777107), (.int .u64 4593870721975689937), (.int .u64
  4591727299969791020), (.int .u64 4589377212798040715), (.int .u64 4584876137810324206)] true)) .nil .nil) .nil) (.node (some (.cells [(.int .i64 1), (.int .i64 0), (.int .i64 0),
  (.int .i64 0), (.int .i64 1), (.int .i64 0), (.int .i64 0), (.int .i64 0), (.int .i64 1), (.int .i64 0), (.int .i64 0), (.int .i64 0)] true)) (.node (some (.cells [(.int .i64 0),
  (.int .i64 0), (.int .i64 0)] true)) .nil .nil) .nil)) (.node (some (.cells [(.int .i64 7), (.int .i64 0), (.int .i64 0)] true)) (.node (some (.cells [(.int .i64 1), (.int .i64 0),
  (.int .i64 0), (.cpx (.f 13840687554816376832) (.f 0))] true)) (.node (some (.cells [(.int .i64 0), (.int .i64 0), (.int .i64 0), (.cpx (.f 4616189618054758400) (.f 0))] true)) .nil
  .nil) .nil) (.node (some (.cells [(.int .i64 1), (.int .i64 0), (.int .i64 0), (.int .i64 0), (.int .i64 1), (.int .i64 0), (.int .i64 0), (.int .i64 0), (.int .i64 1), (.int .i64
  0), (.int .i64 0), (.int .i64 0)] true)) (.node (some (.cells [(.cpx (.f 0) (.f 0))] true)) .nil .nil) .nil))) (.node (some (.cells [(.int .i64 (-1)), (.int .i64 (-1)), (.int .i64
  0), (.cpx (.f 4607182418800017408) (.f 0))] true)) (.node (some (.cells [(.int .i64 1), (.int .i64 0), (.int .i64 0)] true)) (.node (some (.cells [(.cpx (.f 13840687554816376832)
  (.f 0)), (.cpx (.f 13841813454723219456) (.f 0)), (.cpx (.f 13842939354630062080) (.f 0)), (.cpx (.f 13844065254536904704) (.f 0)), (.cpx (.f 13844628204490326016) (.f 0))] true))
  (.node (some (.map [((.agg [(.int .i64 0), (.int .i64 0), (.int .i64 0)]), (.c (.int .i64 0)))])) .nil .nil) .nil) (.node (some (.cells [(.int .i64 1), (.int .i64 0), (.int .i64 0),
  (.int .i64 0), (.int .i64 1), (.int .i64 0), (.int .i64 0), (.int .i64 0), (.int .i64 1)] true)) (.node (some (.cells [(.int .i64 0), (.int .i64 0), (.int .i64 0)] true)) .nil .nil)
  .nil)) (.node (some (.cells [(.int .i64 1), (.int .i64 0), (.int .i64 0)] true)) (.node (some (.map [((.agg [(.int .i64 0), (.int .i64 0), (.int .i64 0)]), (.c (.int .i64 1)))]))
  (.node (some (.cells [(.int .i64 1), (.int .i64 0), (.int .i64 0), (.int .i64 0), (.int .i64 1), (.int .i64 0), (.int .i64 0), (.int .i64 0), (.int .i64 1)] true)) .nil .nil) .nil)
  (.node (some (.cells [(.cpx (.f 4607182418800017408) (.f 0))] true)) (.node (some (.cells [(.cpx (.f 0) (.f 0))] false)) .nil .nil) .nil))))))) (.node (some (.cells [(.int .i64 1),
  (.int .i64 2), (.int .i64 0), (.cpx (.f 4607182418800017408) (.f 4611686018427387904))] false)) (.node (some (.cells [(.int .i64 1), (.int .i64 2), (.int .i64 0), (.cpx (.f
  13835058055282163712) (.f 4607182418800017408))] false)) (.node (some (.cells [(.cpx (.f 4607182418800017408) (.f 0)), (.cpx (.f 4613937818241073152) (.f 0))] true)) (.node (some
  (.cells [(.int .i64 1), (.int .i64 0), (.int .i64 0), (.cpx (.f 0) (.f 4611686018427387904))] true)) (.node (some (.cells [(.int .i64 0), (.int .i64 1), (.int .i64 0)] true)) (.node
  (some (.cells [(.int .i64 0), (.int .i64 1), (.int .i64 0)] true)) (.node (some (.cells [(.cpx (.f 4611686018427387904) (.f 0)), (.cpx (.f 0) (.f 4613937818241073152)), (.cpx (.f
  4607182418800017408) (.f 0))] true)) (.node (some (.cells [(.cpx (.f 4607182418800017408) (.f 0))] true)) .nil .nil) (.node (some (.cells [(.int .u64 4607182418800017408), (.int
  .u64 4607177596232733550), (.int .u64 4607163133695007814), (.int .u64 4607139046673687846), (.int .u64 4607105360961759387), (.int .u64 4607062112630726507), (.int .u64
  4607009347991985328), (.int .u64 4606947123547232624), (.int .u64 4606875505927962389), (.int .u64 4606794571824115162), (.int .u64 4606704407901956523), (.int .u64
  4606605110711272677), (.int .u64 4606496786581982534), (.int .u64 4606379551510276960), (.int .u64 4606253531034407156), (.int .u64 4606118860100255153), (.int .u64
  4605975682916830378), (.int .u64 4605824152801847042), (.int .u64 4605664432017547683), (.int .u64 4605496691596948699), (.int .u64 4605321111160693906), (.int .u64
  4605137878724712257), (.int .u64 4604947190498885672), (.int .u64 4604749250676942587), (.int .u64 4604544271217802189), (.int .u64 4604332471618603501), (.int .u64
  4604114078679662348), (.int .u64 4603889326261607894), (.int .u64 4603658455034958826), (.int .u64 4603421712222407333), (.int .u64 4603179351334086856), (.int .u64
  4602931631896107088), (.int .u64 4602678819172646912), (.int .u64 4602163548591158843), (.int .u64 4601639184639747836), (.int .u64 4601106288820466945), (.int .u64
  4600565431771507043), (.int .u64 4600017192656143146), (.int .u64 4599462158542551880), (.int .u64 4598900923775164166), (.int .u64 4598334089338226320), (.int .u64
  4597349304879225727), (.int .u64 4596196889902818827), (.int .u64 4595036948236777107), (.int .u64 4593870721975689937), (.int .u64 4591727299969791020), (.int .u64
  4589377212798040715), (.int .u64 4584876137810324206)] true)) .nil .nil)) (.node (some (.map [((.agg [(.int .i64 0), (.int .i64 0), (.int .i64 0)]), (.c (.int .i64 1)))])) (.node
  (some (.cells [(.int .i64 0), (.int .i64 1), (.int .i64 0)] true)) .nil .nil) .nil)) (.node (some (.cells [(.int .i64 1), (.int .i64 0), (.int .i64 0), (.cpx (.f
  4611686018427387904) (.f 0))] true)) (.node (some (.cells [(.int .i64 1), (.int .i64 0), (.int .i64 0), (.cpx (.f 0) (.f 4611686018427387904)), (.int .i64 2), (.int .i64 0), (.int
  .i64 0), (.cpx (.f 0) (.f 0))] true)) (.node (some (.cells [(.int .i64 0), (.int .i64 0), (.int .i64 0), (.cpx (.f 4616189618054758400) (.f 0))] true)) .nil .nil) .nil) (.node (some
  (.cells [(.int .i64 1), (.int .i64 0), (.int .i64 0), (.int .i64 0), (.int .i64 1), (.int .i64 0), (.int .i64 0), (.int .i64 0), (.int .i64 1)] true)) (.node (some (.cells [(.int
  .i64 4), (.int .i64 1), (.int .i64 1), (.sl 708 0 4 (some 4))] true)) .nil .nil) .nil))) (.node (some (.cells [(.int .i64 (-1)), (.int .i64 (-1)), (.int .i64 0)] true)) (.node (some
  (.map [((.agg [(.int .i64 1), (.int .i64 0), (.int .i64 0)]), (.c (.int .i64 1))), ((.agg [(.int .i64 0), (.int .i64 1), (.int .i64 0)]), (.c (.int .i64 1))), ((.agg [(.int .i64
  (-1)), (.int .i64 (-1)), (.int .i64 0)]), (.c (.int .i64 1))), ((.agg [(.int .i64 512), (.int .i64 0), (.int .i64 0)]), (.c (.int .i64 1)))])) (.node (some (.cells [(.int .i64 1),
  (.int .i64 1), (.int .i64 1), (.sl 289 0 1 (some 1))] true)) (.node (some (.cells [(.cpx (.f 4607182418800017408) (.f 0))] true)) .nil .nil) .nil) (.node (some (.cells [(.int .i64
  1), (.int .i64 0), (.int .i64 0), (.int .i64 0), (.int .i64 1), (.int .i64 0), (.int .i64 0), (.int .i64 0), (.int .i64 1), (.int .i64 0), (.int .i64 0), (.int .i64 0)] true))
  (.node (some (.cells [(.int .i64 0), (.int .i64 0), (.int .i64 0)] true)) .nil .nil) .nil)) (.node (some (.cells [(.int .i64 7), (.int .i64 0), (.int .i64 0)] true)) (.node (some
  (.cells [(.int .i64 2), (.int .i64 0), (.int .i64 0)] true)) (.node (some (.cells [(.int .i64 4), (.int .i64 1), (.int .i64 1)] true)) .nil .nil) .nil) (.node (some (.cells [(.int
  .i64 1), (.int .i64 0), (.int .i64 0), (.int .i64 0), (.int .i64 1), (.int .i64 0), (.int .i64 0), (.int .i64 0), (.int .i64 1), (.int .i64 0), (.int .i64 0), (.int .i64 0)] true))
  (.node none .nil .nil) .nil)))) (.node (some (.cells [(.int .i64 0), (.int .i64 1), (.int .i64 0)] true)) (.node (some (.cells [(.int .i64 1), (.int .i64 0), (.int .i64 0)] true))
  (.node (some (.cells [(.int .i64 0), (.int .i64 1), (.int .i64 0), (.cpx (.f 0) (.f 4613937818241073152))] true)) (.node (some (.cells [(.int .i64 4), (.int .i64 1), (.int .i64 1),
  (.sl 269 0 4 (some 4))] true)) (.node (some (.cells [(.cpx (.f 4607182418800017408) (.f 0))] true)) .nil .nil) .nil) (.node (some (.cells [(.int .i64 4), (.int .i64 1), (.int .i64
  1), (.sl 400 0 4 (some 4))] true)) (.node (some (.cells [(.int .i64 1), (.int .i64 0), (.int .i64 0), (.int .i64 0), (.int .i64 1), (.int .i64 0), (.int .i64 0), (.int .i64 0),
  (.int .i64 1)] true)) .nil .nil) .nil)) (.node (some (.cells [(.int .i64 1), (.int .i64 0), (.int .i64 0)] true)) (.node (some (.map [((.agg [(.int .i64 1), (.int .i64 0), (.int
  .i64 0)]), (.c (.int .i64 1))), ((.agg [(.int .i64 2), (.int .i64 0), (.int .i64 0)]), (.c (.int .i64 1))), ((.agg [(.int .i64 3), (.int .i64 0), (.int .i64 0)]), (.c (.int .i64
  1)))])) (.node (some (.cells [(.int .i64 0), (.int .i64 0), (.int .i64 0)] true)) .nil .nil) .nil) (.node (some (.cells [(.int .i64 0), (.int .i64 0), (.int .i64 0)] true)) (.node
  (some (.cells [(.cpx (.f 0) (.f 0))] true)) .nil .nil) .nil))) (.node (some (.cells [(.int .i64 0), (.int .i64 1), (.int .i64 0), (.cpx (.f 0) (.f 4613937818241073152))] true))
  (.node (some (.cells [(.int .i64 1), (.int .i64 0), (.int .i64 0), (.cpx (.f 4611686018427387904) (.f 0))] true)) (.node (some (.cells [(.int .i64 5), (.int .i64 1), (.int .i64 1),
  (.sl 305 0 5 (some 5))] true)) (.node (some (.cells [(.int .i64 4), (.int .i64 1), (.int .i64 1)] true)) .nil .nil) .nil) (.node (some (.cells [(.int .i64 1), (.int .i64 0), (.int
  .i64 0), (.int .i64 0), (.int .i64 1), (.int .i64 0), (.int .i64 0), (.int .i64 0), (.int .i64 1)] true)) (.node (some (.cells [(.int .i64 0), (.int .i64 1), (.int .i64 0)] true))
  .nil .nil) .nil)) (.node (some (.cells [(.int .i64 1), (.int .i64 0), (.int .i64 0)] true)) (.node (some (.cells [(.int .i64 1), (.int .i64 0), (.int .i64 0), (.cpx (.f 0) (.f
  4617315517961601024)), (.int .i64 2), (.int .i64 0), (.int .i64 0), (.cpx (.f 4613937818241073152) (.f 0)), (.int .i64 3), (.int .i64 0), (.int .i64 0), (.cpx (.f
  4617315517961601024) (.f 0))] true)) (.node (some (.cells [(.int .i64 1), (.int .i64 0), (.int .i64 0), (.int .i64 0), (.int .i64 1), (.int .i64 0), (.int .i64 0), (.int .i64 0),
  (.int .i64 1), (.int .i64 0), (.int .i64 0), (.int .i64 0)] true)) .nil .nil) .nil) (.node (some (.cells [(.cpx (.f 4607182418800017408) (.f 0))] true)) (.node none .nil .nil)
  .nil))))) (.node (some (.cells [] true)) (.node (some (.cells [(.int .i64 1), (.int .i64 0), (.int .i64 0), (.cpx (.f 4611686018427387904) (.f 0))] true)) (.node (some (.cells
  [(.int .i64 1), (.int .i64 0), (.int .i64 0), (.cpx (.f 4611686018427387904) (.f 0))] true)) (.node (some (.cells [(.int .i64 (-1)), (.int .i64 (-1)), (.int .i64 0)] true)) (.node
  (some (.cells [(.int .i64 0), (.int .i64 1), (.int .i64 0), (.cpx (.f 0) (.f 4613937818241073152))] true)) (.node (some (.cells [(.int .u64 4607182418800017408), (.int .u64
  4607177596232733550), (.int .u64 4607163133695007814), (.int .u64 4607139046673687846), (.int .u64 4607105360961759387), (.int .u64 4607062112630726507), (.int .u64
  4607009347991985328), (.int .u64 4606947123547232624), (.int .u64 4606875505927962389), (.int .u64 4606794571824115162), (.int .u64 4606704407901956523), (.int .u64
  4606605110711272677), (.int .u64 4606496786581982534), (.int .u64 4606379551510276960), (.int .u64 4606253531034407156), (.int .u64 4606118860100255153), (.int .u64
  4605975682916830378), (.int .u64 4605824152801847042), (.int .u64 4605664432017547683), (.int .u64 4605496691596948699), (.int .u64 4605321111160693906), (.int .u64
  4605137878724712257), (.int .u64 4604947190498885672), (.int .u64 4604749250676942587), (.int .u64 4604544271217802189), (.int .u64 4604332471618603501), (.int .u64
  4604114078679662348), (.int .u64 4603889326261607894), (.int .u64 4603658455034958826), (.int .u64 4603421712222407333), (.int .u64 4603179351334086856), (.int .u64
  4602931631896107088), (.int .u64 4602678819172646912), (.int .u64 4602163548591158843), (.int .u64 4601639184639747836), (.int .u64 4601106288820466945), (.int .u64
  4600565431771507043), (.int .u64 4600017192656143146), (.int .u64 4599462158542551880), (.int .u64 4598900923775164166), (.int .u64 4598334089338226320), (.int .u64
  4597349304879225727), (.int .u64 4596196889902818827), (.int .u64 4595036948236777107), (.int .u64 4593870721975689937), (.int .u64 4591727299969791020), (.int .u64
  4589377212798040715), (.int .u64 4584876137810324206)] true)) .nil .nil) .nil) (.node (some (.cells [(.cpx (.f 4607182418800017408) (.f 0)), (.cpx (.f 4607182418800017408) (.f 0)),
  (.cpx (.f 4607182418800017408) (.f 0)), (.cpx (.f 4607182418800017408) (.f 0))] false)) (.node (some (.cells [(.int .i64 1), (.int .i64 0), (.int .i64 0), (.int .i64 0), (.int .i64
  1), (.int .i64 0), (.int .i64 0), (.int .i64 0), (.int .i64 1), (.int .i64 0), (.int .i64 0), (.int .i64 0)] true)) .nil .nil) .nil)) (.node (some (.cells [(.int .i64 0), (.int .i64
  1), (.int .i64 0), (.cpx (.f 0) (.f 4613937818241073152))] true)) (.node (some (.cells [(.int .i64 2), (.int .i64 0), (.int .i64 0), (.cpx (.f 0) (.f 0))] true)) (.node (some
  (.cells [(.int .i64 0), (.int .i64 0), (.int .i64 0), (.cpx (.f 4616189618054758400) (.f 0))] true)) .nil .nil) .nil) (.node (some (.cells [(.int .i64 0), (.int .i64 1), (.int .i64
  0)] true)) (.node (some (.cells [(.cpx (.f 0) (.f 0))] true)) .nil .nil) .nil))) (.node (some (.cells [(.cpx (.f 4611686018427387904) (.f 0)), (.cpx (.f 4611686018427387904) (.f
  0)), (.cpx (.f 0) (.f 0))] true)) (.node (some (.cells [(.int .i64 512), (.int .i64 0), (.int .i64 0)] true)) (.node (some (.cells [(.cpx (.f 4617315517961601024) (.f 0)), (.cpx (.f
  4618441417868443648) (.f 0)), (.cpx (.f 4619567317775286272) (.f 0)), (.cpx (.f 4620693217682128896) (.f 0)), (.cpx (.f 4621256167635550208) (.f 0))] true)) (.node (some (.cells
  [(.cpx (.f 4607182418800017408) (.f 0))] true)) .nil .nil) .nil) (.node (some (.cells [(.int .i64 1), (.int .i64 0), (.int .i64 0), (.int .i64 0), (.int .i64 1), (.int .i64 0),
  (.int .i64 0), (.int .i64 0), (.int .i64 1)] true)) (.node (some (.cells [(.int .i64 0), (.int .i64 1), (.int .i64 0)] true)) .nil .nil) .nil)) (.node (some (.cells [(.int .i64 1),
  (.int .i64 0), (.int .i64 0), (.cpx (.f 4611686018427387904) (.f 0))] true)) (.node (some (.cells [(.int .i64 2), (.int .i64 0), (.int .i64 0), (.cpx (.f 4613937818241073152) (.f
  0))] true)) (.node (some (.cells [(.int .i64 0), (.int .i64 0), (.int .i64 0)] true)) .nil .nil) .nil) (.node (some (.cells [(.int .i64 0), (.int .i64 0), (.int .i64 0)] true))
  (.node (some (.cells [(.int .u64 4607182418800017408), (.int .u64 4607177596232733550), (.int .u64 4607163133695007814), (.int .u64 4607139046673687846), (.int .u64
  4607105360961759387), (.int .u64 4607062112630726507), (.int .u64 4607009347991985328), (.int .u64 4606947123547232624), (.int .u64 4606875505927962389), (.int .u64
  4606794571824115162), (.int .u64 4606704407901956523), (.int .u64 4606605110711272677), (.int .u64 4606496786581982534), (.int .u64 4606379551510276960), (.int .u64
  4606253531034407156), (.int .u64 4606118860100255153), (.int .u64 4605975682916830378), (.int .u64 4605824152801847042), (.int .u64 4605664432017547683), (.int .u64
  4605496691596948699), (.int .u64 4605321111160693906), (.int .u64 4605137878724712257), (.int .u64 4604947190498885672), (.int .u64 4604749250676942587), (.int .u64
  4604544271217802189), (.int .u64 4604332471618603501), (.int .u64 4604114078679662348), (.int .u64 4603889326261607894), (.int .u64 4603658455034958826), (.int .u64
  4603421712222407333), (.int .u64 4603179351334086856), (.int .u64 4602931631896107088), (.int .u64 4602678819172646912), (.int .u64 4602163548591158843), (.int .u64
  4601639184639747836), (.int .u64 4601106288820466945), (.int .u64 4600565431771507043), (.int .u64 4600017192656143146), (.int .u64 4599462158542551880), (.int .u64
  4598900923775164166), (.int .u64 4598334089338226320), (.int .u64 4597349304879225727), (.int .u64 4596196889902818827), (.int .u64 4595036948236777107), (.int .u64
  4593870721975689937), (.int .u64 4591727299969791020), (.int .u64 4589377212798040715), (.int .u64 4584876137810324206)] true)) .nil .nil) .nil)))) (.node (some (.cells [(.int .i64
  1), (.int .i64 0), (.int .i64 0)] true)) (.node (some (.cells [] true)) (.node (some (.cells [(.int .i64 0), (.int .i64 1), (.int .i64 0), (.cpx (.f 0) (.f 4613937818241073152))]
  true)) (.node (some (.cells [(.int .i64 3), (.int .i64 1), (.int .i64 1), (.sl 286 0 3 (some 3))] true)) (.node (some (.cells [(.cpx (.f 4607182418800017408) (.f 0))] true)) .nil
  .nil) .nil) (.node (some (.cells [(.int .i64 0), (.int .i64 0), (.int .i64 0)] true)) (.node (some (.cells [(.int .i64 1), (.int .i64 0), (.int .i64 0), (.int .i64 0), (.int .i64
  1), (.int .i64 0), (.int .i64 0), (.int .i64 0), (.int .i64 1)] true)) .nil .nil) .nil)) (.node (some (.cells [(.int .i64 1), (.int .i64 0), (.int .i64 0), (.cpx (.f
  4617315517961601024) (.f 0))] true)) (.node (some (.cells [(.int .i64 1), (.int .i64 0), (.int .i64 0), (.cpx (.f 13840687554816376832) (.f 0)), (.int .i64 2), (.int .i64 0), (.int
  .i64 0), (.cpx (.f 4613937818241073152) (.f 0)), (.int .i64 3), (.int .i64 0), (.int .i64 0), (.cpx (.f 4613937818241073152) (.f 4616189618054758400))] false)) (.node (some (.map
  [((.agg [(.int .i64 0), (.int .i64 0), (.int .i64 0)]), (.c (.int .i64 1)))])) .nil .nil) .nil) (.node (some (.cells [(.int .i64 0), (.int .i64 0), (.int .i64 0)] true)) (.node
  (some (.cells [(.cpx (.f 0) (.f 0))] true)) .nil .nil) .nil))) (.node (some (.cells [(.int .i64 0), (.int .i64 1), (.int .i64 0), (.cpx (.f 0) (.f 4613937818241073152))] true))
  (.node (some (.cells [(.int .i64 1), (.int .i64 0), (.int .i64 0), (.cpx (.f 4611686018427387904) (.f 0))] true)) (.node (some (.cells [(.int .i64 3), (.int .i64 1), (.int .i64 1),
  (.sl 286 0 3 (some 3))] true)) (.node (some (.cells [(.int .i64 0), (.int .i64 0), (.int .i64 0), (.cpx (.f 4616189618054758400) (.f 0))] true)) .nil .nil) .nil) (.node (some
  (.cells [(.int .i64 1), (.int .i64 0), (.int .i64 0), (.int .i64 0), (.int .i64 1), (.int .i64 0), (.int .i64 0), (.int .i64 0), (.int .i64 1)] true)) (.node (some (.cells [(.int
  .i64 0), (.int .i64 0), (.int .i64 0)] true)) .nil .nil) .nil)) (.node (some (.cells [(.int .i64 (-1)), (.int .i64 (-1)), (.int .i64 0)] true)) (.node (some (.cells [(.int .i64 4),
  (.int .i64 1), (.int .i64 1), (.sl 371 0 4 (some 4))] true)) (.node (some (.cells [(.int .i64 1), (.int .i64 0), (.int .i64 0), (.int .i64 0), (.int .i64 1), (.int .i64 0), (.int
  .i64 0), (.int .i64 0), (.int .i64 1)] true)) .nil .nil) .nil) (.node (some (.cells [(.int .u64 4607182418800017408), (.int .u64 4607177596232733550), (.int .u64
  4607163133695007814), (.int .u64 4607139046673687846), (.int .u64 4607105360961759387), (.int .u64 4607062112630726507), (.int .u64 4607009347991985328), (.int .u64
  4606947123547232624), (.int .u64 4606875505927962389), (.int .u64 4606794571824115162), (.int .u64 4606704407901956523), (.int .u64 4606605110711272677), (.int .u64
  4606496786581982534), (.int .u64 4606379551510276960), (.int .u64 4606253531034407156), (.int .u64 4606118860100255153), (.int .u64 4605975682916830378), (.int .u64
  4605824152801847042), (.int .u64 4605664432017547683), (.int .u64 4605496691596948699), (.int .u64 4605321111160693906), (.int .u64 4605137878724712257), (.int .u64
  4604947190498885672), (.int .u64 4604749250676942587), (.int .u64 4604544271217802189), (.int .u64 4604332471618603501), (.int .u64 4604114078679662348), (.int .u64
  4603889326261607894), (.int .u64 4603658455034958826), (.int .u64 4603421712222407333), (.int .u64 4603179351334086856), (.int .u64 4602931631896107088), (.int .u64
  4602678819172646912), (.int .u64 4602163548591158843), (.int .u64 4601639184639747836), (.int .u64 4601106288820466945), (.int .u64 4600565431771507043), (.int .u64
  4600017192656143146), (.int .u64 4599462158542551880), (.int .u64 4598900923775164166), (.int .u64 4598334089338226320), (.int .u64 4597349304879225727), (.int .u64
  4596196889902818827), (.int .u64 4595036948236777107), (.int .u64 4593870721975689937), (.int .u64 4591727299969791020), (.int .u64 4589377212798040715), (.int .u64
  4584876137810324206)] true)) (.node (some (.cells [(.int .u64 4607182418800017408), (.int .u64 4607177596232733550), (.int .u64 4607163133695007814), (.int .u64
  4607139046673687846), (.int .u64 4607105360961759387), (.int .u64 4607062112630726507), (.int .u64 4607009347991985328), (.int .u64 4606947123547232624), (.int .u64
  4606875505927962389), (.int .u64 4606794571824115162), (.int .u64 4606704407901956523), (.int .u64 4606605110711272677), (.int .u64 4606496786581982534), (.int .u64
  4606379551510276960), (.int .u64 4606253531034407156), (.int .u64 4606118860100255153), (.int .u64 4605975682916830378), (.int .u64 4605824152801847042), (.int .u64
  4605664432017547683), (.int .u64 4605496691596948699), (.int .u64 4605321111160693906), (.int .u64 4605137878724712257), (.int .u64 4604947190498885672), (.int .u64
  4604749250676942587), (.int .u64 4604544271217802189), (.int .u64 4604332471618603501), (.int .u64 4604114078679662348), (.int .u64 4603889326261607894), (.int .u64
  4603658455034958826), (.int .u64 4603421712222407333), (.int .u64 4603179351334086856), (.int .u64 4602931631896107088), (.int .u64 4602678819172646912), (.int .u64
  4602163548591158843), (.int .u64 4601639184639747836), (.int .u64 4601106288820466945), (.int .u64 4600565431771507043), (.int .u64 4600017192656143146), (.int .u64
  4599462158542551880), (.int .u64 4598900923775164166), (.int .u64 4598334089338226320), (.int .u64 4597349304879225727), (.int .u64 4596196889902818827), (.int .u64
  4595036948236777107), (.int .u64 4593870721975689937), (.int .u64 4591727299969791020), (.int .u64 4589377212798040715), (.int .u64 4584876137810324206)] true)) .nil .nil)
  .nil)))))) (.node (some (.cells [(.int .i64 2), (.int .i64 1), (.int .i64 1), (.sl 18 0 2 (some 2))] true)) (.node (some (.cells [(.int .i64 1), (.int .i64 0), (.int .i64 0), (.cpx
  (.f 13840687554816376832) (.f 0))] true)) (.node (some (.cells [(.cpx (.f 4607182418800017408) (.f 0)), (.cpx (.f 4613937818241073152) (.f 0))] true)) (.node (some (.cells [(.cpx
  (.f 4611686018427387904) (.f 0)), (.cpx (.f 0) (.f 4613937818241073152)), (.cpx (.f 4607182418800017408) (.f 0))] true)) (.node (some (.cells [(.int .i64 (-1)), (.int .i64 (-1)),
  (.int .i64 0)] true)) (.node (some (.cells [(.int .i64 1), (.int .i64 0), (.int .i64 0), (.cpx (.f 4611686018427387904) (.f 0))] true)) (.node (some (.cells [(.cpx (.f
  4607182418800017408) (.f 0))] true)) .nil .nil) (.node (some (.cells [(.flt (.f 0))] false)) .nil .nil)) (.node (some (.cells [(.int .i64 0), (.int .i64 0), (.int .i64 0), (.cpx (.f
  4616189618054758400) (.f 0))] true)) (.node (some (.cells [(.int .i64 1), (.int .i64 0), (.int .i64 0), (.int .i64 0), (.int .i64 1), (.int .i64 0), (.int .i64 0), (.int .i64 0),
  (.int .i64 1)] true)) .nil .nil) .nil)) (.node (some (.cells [(.int .i64 1), (.int .i64 0), (.int .i64 0)] true)) (.node (some (.cells [(.int .i64 1), (.int .i64 0), (.int .i64 0),
  (.cpx (.f 13840687554816376832) (.f 0)), (.int .i64 2), (.int .i64 0), (.int .i64 0), (.cpx (.f 4613937818241073152) (.f 0)), (.int .i64 3), (.int .i64 0), (.int .i64 0), (.cpx (.f
  4613937818241073152) (.f 4616189618054758400))] true)) (.node (some (.cells [(.int .i64 0), (.int .i64 0), (.int .i64 0), (.cpx (.f 4616189618054758400) (.f 0))] true)) .nil .nil)
  .nil) (.node (some (.cells [(.int .i64 0), (.int .i64 1), (.int .i64 0)] true)) (.node (some (.cells [(.cpx (.f 4616189618054758400) (.f 0))] true)) .nil .nil) .nil))) (.node (some
  (.cells [(.int .i64 (-1)), (.int .i64 (-1)), (.int .i64 0)] true)) (.node (some (.cells [(.int .i64 0), (.int .i64 1), (.int .i64 0)] true)) (.node (some (.cells [(.cpx (.f
  4607182418800017408) (.f 0))] true)) (.node (some (.cells [(.int .u64 4607182418800017408), (.int .u64 4607177596232733550), (.int .u64 4607163133695007814), (.int .u64
  4607139046673687846), (.int .u64 4607105360961759387), (.int .u64 4607062112630726507), (.int .u64 4607009347991985328), (.int .u64 4606947123547232624), (.int .u64
  4606875505927962389), (.int .u64 4606794571824115162), (.int .u64 4606704407901956523), (.int .u64 4606605110711272677), (.int .u64 4606496786581982534), (.int .u64
  4606379551510276960), (.int .u64 4606253531034407156), (.int .u64 4606118860100255153), (.int .u64 4605975682916830378), (.int .u64 4605824152801847042), (.int .u64
  4605664432017547683), (.int .u64 4605496691596948699), (.int .u64 4605321111160693906), (.int .u64 4605137878724712257), (.int .u64 4604947190498885672), (.int .u64
  4604749250676942587), (.int .u64 4604544271217802189), (.int .u64 4604332471618603501), (.int .u64 4604114078679662348), (.int .u64 4603889326261607894), (.int .u64
  4603658455034958826), (.int .u64 4603421712222407333), (.int .u64 4603179351334086856), (.int .u64 4602931631896107088), (.int .u64 4602678819172646912), (.int .u64
  4602163548591158843), (.int .u64 4601639184639747836), (.int .u64 4601106288820466945), (.int .u64 4600565431771507043), (.int .u64 4600017192656143146), (.int .u64
  4599462158542551880), (.int .u64 4598900923775164166), (.int .u64 4598334089338226320), (.int .u64 4597349304879225727), (.int .u64 4596196889902818827), (.int .u64
  4595036948236777107), (.int .u64 4593870721975689937), (.int .u64 4591727299969791020), (.int .u64 4589377212798040715), (.int .u64 4584876137810324206)] true)) .nil .nil) .nil)
  (.node (some (.cells [(.int .i64 1), (.int .i64 0), (.int .i64 0), (.int .i64 0), (.int .i64 1), (.int .i64 0), (.int .i64 0), (.int .i64 0), (.int .i64 1), (.int .i64 0), (.int
  .i64 0), (.int .i64 0)] true)) (.node (some (.cells [(.int .i64 1), (.int .i64 0), (.int .i64 0), (.int .i64 0), (.int .i64 1), (.int .i64 0), (.int .i64 0), (.int .i64 0), (.int
  .i64 1), (.int .i64 0), (.int .i64 0), (.int .i64 0)] true)) .nil .nil) .nil)) (.node (some (.cells [(.int .i64 1), (.int .i64 0), (.int .i64 0), (.cpx (.f 4617315517961601024) (.f
  0))] true)) (.node (some (.cells [(.int .i64 1), (.int .i64 0), (.int .i64 0), (.cpx (.f 13840687554816376832) (.f 0))] true)) (.node (some (.cells [(.int .i64 1), (.int .i64 0),
  (.int .i64 0), (.int .i64 0), (.int .i64 1), (.int .i64 0), (.int .i64 0), (.int .i64 0), (.int .i64 1), (.int .i64 0), (.int .i64 0), (.int .i64 0)] true)) .nil .nil) .nil) (.node
  (some (.cells [(.int .i64 0), (.int .i64 0), (.int .i64 0)] true)) (.node (some (.cells [(.cpx (.f 4616189618054758400) (.f 0))] true)) .nil .nil) .nil)))) (.node (some (.cells
  [(.int .i64 (-1)), (.int .i64 (-1)), (.int .i64 0), (.cpx (.f 4607182418800017408) (.f 0)), (.int .i64 0), (.int .i64 1), (.int .i64 0), (.cpx (.f 0) (.f 4613937818241073152)),
  (.int .i64 1), (.int .i64 0), (.int .i64 0), (.cpx (.f 4611686018427387904) (.f 0))] false)) (.node (some (.cells [(.int .i64 0), (.int .i64 1), (.int .i64 0), (.cpx (.f 0) (.f
  4613937818241073152))] true)) (.node (some (.cells [(.int .i64 0), (.int .i64 1), (.int .i64 0), (.cpx (.f 0) (.f 4613937818241073152))] true)) (.node (some (.cells [(.int .i64 4),
  (.int .i64 1), (.int .i64 1), (.sl 276 0 4 (some 4))] true)) (.node (some (.cells [(.int .u64 4607182418800017408), (.int .u64 4607177596232733550), (.int .u64 4607163133695007814),
  (.int .u64 4607139046673687846), (.int .u64 4607105360961759387), (.int .u64 4607062112630726507), (.int .u64 4607009347991985328), (.int .u64 4606947123547232624), (.int .u64
  4606875505927962389), (.int .u64 4606794571824115162), (.int .u64 4606704407901956523), (.int .u64 4606605110711272677), (.int .u64 4606496786581982534), (.int .u64
  4606379551510276960), (.int .u64 4606253531034407156), (.int .u64 4606118860100255153), (.int .u64 4605975682916830378), (.int .u64 4605824152801847042), (.int .u64
  4605664432017547683), (.int .u64 4605496691596948699), (.int .u64 4605321111160693906), (.int .u64 4605137878724712257), (.int .u64 4604947190498885672), (.int .u64
  4604749250676942587), (.int .u64 4604544271217802189), (.int .u64 4604332471618603501), (.int .u64 4604114078679662348), (.int .u64 4603889326261607894), (.int .u64
  4603658455034958826), (.int .u64 4603421712222407333), (.int .u64 4603179351334086856), (.int .u64 4602931631896107088), (.int .u64 4602678819172646912), (.int .u64
  4602163548591158843), (.int .u64 4601639184639747836), (.int .u64 4601106288820466945), (.int .u64 4600565431771507043), (.int .u64 4600017192656143146), (.int .u64
  4599462158542551880), (.int .u64 4598900923775164166), (.int .u64 4598334089338226320), (.int .u64 4597349304879225727), (.int .u64 4596196889902818827), (.int .u64
  4595036948236777107), (.int .u64 4593870721975689937), (.int .u64 4591727299969791020), (.int .u64 4589377212798040715), (.int .u64 4584876137810324206)] true)) .nil .nil) .nil)
  (.node (some (.cells [(.int .i64 4), (.int .i64 1), (.int .i64 1)] true)) (.node (some (.cells [(.int .i64 1), (.int .i64 0), (.int .i64 0), (.int .i64 0), (.int .i64 1), (.int .i64
  0), (.int .i64 0), (.int .i64 0), (.int .i64 1)] true)) .nil .nil) .nil)) (.node (some (.cells [(.int .i64 0), (.int .i64 1), (.int .i64 0), (.cpx (.f 0) (.f 4613937818241073152))]
  true)) (.node (some (.cells [(.int .i64 2), (.int .i64 0), (.int .i64 0)] true)) (.node (some (.cells [(.int .i64 0), (.int .i64 0), (.int .i64 0), (.cpx (.f 4616189618054758400)
  (.f 0))] true)) .nil .nil) .nil) (.node (some (.cells [(.int .i64 0), (.int .i64 1), (.int .i64 0)] true)) (.node (some (.cells [(.cpx (.f 0) (.f 0))] true)) .nil .nil) .nil)))
  (.node (some (.cells [(.int .i64 0), (.int .i64 0), (.int .i64 0)] true)) (.node (some (.cells [(.int .i64 0), (.int .i64 1), (.int .i64 0), (.cpx (.f 0) (.f 4613937818241073152))]
  true)) (.node (some (.cells [(.int .i64 4), (.int .i64 1), (.int .i64 1), (.sl 276 0 4 (some 4))] true)) (.node (some (.cells [(.int .i64 0), (.int .i64 0), (.int .i64 0), (.cpx (.f
  4616189618054758400) (.f 0))] true)) .nil .nil) .nil) (.node (some (.cells [(.int .i64 1), (.int .i64 0), (.int .i64 0), (.int .i64 0), (.int .i64 1), (.int .i64 0), (.int .i64 0),
  (.int .i64 0), (.int .i64 1)] true)) (.node (some (.cells [(.cpx (.f 4616189618054758400) (.f 0)), (.cpx (.f 0) (.f 0)), (.cpx (.f 0) (.f 0)), (.cpx (.f 0) (.f 0))] true)) .nil
  .nil) .nil)) (.node (some (.cells [(.int .i64 1), (.int .i64 0), (.int .i64 0)] true)) (.node (some (.cells [(.int .i64 0), (.int .i64 0), (.int .i64 0), (.cpx (.f
  4616189618054758400) (.f 0))] true)) (.node (some (.cells [(.int .i64 1), (.int .i64 0), (.int .i64 0)] true)) .nil .nil) .nil) (.node (some (.cells [(.cpx (.f 4607182418800017408)
  (.f 0))] true)) (.node (some (.cells [(.cpx (.f 0) (.f 0))] true)) .nil .nil) .nil))))) (.node (some (.cells [(.int .i64 1), (.int .i64 0), (.int .i64 0)] true)) (.node (some (.map
  [((.agg [(.int .i64 1), (.int .i64 0), (.int .i64 0)]), (.c (.int .i64 1))), ((.agg [(.int .i64 0), (.int .i64 1), (.int .i64 0)]), (.c (.int .i64 1))), ((.agg [(.int .i64 (-1)),
  (.int .i64 (-1)), (.int .i64 0)]), (.c (.int .i64 1)))])) (.node (some (.cells [(.int .i64 0), (.int .i64 1), (.int .i64 0), (.cpx (.f 0) (.f 4613937818241073152))] true)) (.node
  (some (.cells [(.cpx (.f 0) (.f 0)), (.cpx (.f 0) (.f 0)), (.cpx (.f 0) (.f 0))] true)) (.node (some (.cells [(.int .i64 4), (.int .i64 1), (.int .i64 1), (.sl 269 0 4 (some 4))]
  true)) (.node none .nil .nil) .nil) (.node (some (.cells [(.int .i64 4), (.int .i64 1), (.int .i64 1), (.osl 394 4 1)] true)) (.node (some (.cells [(.int .i64 1), (.int .i64 0),
  (.int .i64 0), (.int .i64 0), (.int .i64 1), (.int .i64 0), (.int .i64 0), (.int .i64 0), (.int .i64 1)] true)) .nil .nil) .nil)) (.node (some (.cells [(.int .i64 1), (.int .i64 0),
  (.int .i64 0), (.cpx (.f 4617315517961601024) (.f 0))] true)) (.node (some (.cells [(.int .i64 2), (.int .i64 0), (.int .i64 0), (.cpx (.f 0) (.f 0))] true)) (.node (some (.cells
  [(.int .i64 0), (.int .i64 0), (.int .i64 0), (.cpx (.f 4616189618054758400) (.f 0))] true)) .nil .nil) .nil) (.node (some (.cells [(.int .i64 1), (.int .i64 0), (.int .i64 0),
  (.int .i64 0), (.int .i64 1), (.int .i64 0), (.int .i64 0), (.int .i64 0), (.int .i64 1)] true)) (.node (some (.cells [(.int .u64 4607182418800017408), (.int .u64
  4607177596232733550), (.int .u64 4607163133695007814), (.int .u64 4607139046673687846), (.int .u64 4607105360961759387), (.int .u64 4607062112630726507), (.int .u64
  4607009347991985328), (.int .u64 4606947123547232624), (.int .u64 4606875505927962389), (.int .u64 4606794571824115162), (.int .u64 4606704407901956523), (.int .u64
  4606605110711272677), (.int .u64 4606496786581982534), (.int .u64 4606379551510276960), (.int .u64 4606253531034407156), (.int .u64 4606118860100255153), (.int .u64
  4605975682916830378), (.int .u64 4605824152801847042), (.int .u64 4605664432017547683), (.int .u64 4605496691596948699), (.int .u64 4605321111160693906), (.int .u64
  4605137878724712257), (.int .u64 4604947190498885672), (.int .u64 4604749250676942587), (.int .u64 4604544271217802189), (.int .u64 4604332471618603501), (.int .u64
  4604114078679662348), (.int .u64 4603889326261607894), (.int .u64 4603658455034958826), (.int .u64 4603421712222407333), (.int .u64 4603179351334086856), (.int .u64
  4602931631896107088), (.int .u64 4602678819172646912), (.int .u64 4602163548591158843), (.int .u64 4601639184639747836), (.int .u64 4601106288820466945), (.int .u64
  4600565431771507043), (.int .u64 4600017192656143146), (.int .u64 4599462158542551880), (.int .u64 4598900923775164166), (.int .u64 4598334089338226320), (.int .u64
  4597349304879225727), (.int .u64 4596196889902818827), (.int .u64 4595036948236777107), (.int .u64 4593870721975689937), (.int .u64 4591727299969791020), (.int .u64
  4589377212798040715), (.int .u64 4584876137810324206)] true)) .nil .nil) .nil))) (.node (some (.cells [(.int .i64 1), (.int .i64 0), (.int .i64 0)] true)) (.node (some (.cells
  [(.int .i64 1), (.int .i64 0), (.int .i64 0), (.cpx (.f 4611686018427387904) (.f 0))] true)) (.node (some (.cells [(.int .i64 5), (.int .i64 1), (.int .i64 1), (.sl 298 0 5 (some
  5))] true)) (.node (some (.cells [(.int .u64 4607182418800017408), (.int .u64 4607177596232733550), (.int .u64 4607163133695007814), (.int .u64 4607139046673687846), (.int .u64
  4607105360961759387), (.int .u64 4607062112630726507), (.int .u64 4607009347991985328), (.int .u64 4606947123547232624), (.int .u64 4606875505927962389), (.int .u64
  4606794571824115162), (.int .u64 4606704407901956523), (.int .u64 4606605110711272677), (.int .u64 4606496786581982534), (.int .u64 4606379551510276960), (.int .u64
  4606253531034407156), (.int .u64 4606118860100255153), (.int .u64 4605975682916830378), (.int .u64 4605824152801847042), (.int .u64 4605664432017547683), (.int .u64
  4605496691596948699), (.int .u64 4605321111160693906), (.int .u64 4605137878724712257), (.int .u64 4604947190498885672), (.int .u64 4604749250676942587), (.int .u64
  4604544271217802189), (.int .u64 4604332471618603501), (.int .u64 4604114078679662348), (.int .u64 4603889326261607894), (.int .u64 4603658455034958826), (.int .u64
  4603421712222407333), (.int .u64 4603179351334086856), (.int .u64 4602931631896107088), (.int .u64 4602678819172646912), (.int .u64 4602163548591158843), (.int .u64
  4601639184639747836), (.int .u64 4601106288820466945), (.int .u64 4600565431771507043), (.int .u64 4600017192656143146), (.int .u64 4599462158542551880), (.int .u64
  4598900923775164166), (.int .u64 4598334089338226320), (.int .u64 4597349304879225727), (.int .u64 4596196889902818827), (.int .u64 4595036948236777107), (.int .u64
  4593870721975689937), (.int .u64 4591727299969791020), (.int .u64 4589377212798040715), (.int .u64 4584876137810324206)] true)) .nil .nil) .nil) (.node (some (.cells [(.int .i64 0),
  (.int .i64 0), (.int .i64 1)] true)) (.node (some (.cells [(.int .i64 0), (.int .i64 0), (.int .i64 0)] true)) .nil .nil) .nil)) (.node (some (.cells [(.cpx (.f 0) (.f 0)), (.cpx
  (.f 4611686018427387904) (.f 0)), (.cpx (.f 0) (.f 0))] true)) (.node (some (.cells [(.int .i64 1), (.int .i64 0), (.int .i64 0), (.cpx (.f 0) (.f 4617315517961601024)), (.int .i64
  2), (.int .i64 0), (.int .i64 0), (.cpx (.f 4613937818241073152) (.f 0)), (.int .i64 3), (.int .i64 0), (.int .i64 0), (.cpx (.f 4617315517961601024) (.f 0))] false)) (.node (some
  (.cells [(.int .i64 1), (.int .i64 0), (.int .i64 0), (.int .i64 0), (.int .i64 1), (.int .i64 0), (.int .i64 0), (.int .i64 0), (.int .i64 1), (.int .i64 0), (.int .i64 0), (.int
  .i64 0)] true)) .nil .nil) .nil) (.node (some (.cells [(.int .i64 4), (.int .i64 1), (.int .i64 1), (.sl 496 0 4 (some 4))] true)) (.node (some (.cells [(.cpx (.f 0) (.f 0))] true))
  .nil .nil) .nil)))) (.node (some (.cells [(.int .i64 1), (.int .i64 0), (.int .i64 0)] true)) (.node (some (.cells [(.int .i64 0), (.int .i64 1), (.int .i64 0)] true)) (.node (some
  (.cells [(.int .i64 512), (.int .i64 0), (.int .i64 0), (.cpx (.f 4607182418800017408) (.f 0))] true)) (.node (some (.cells [(.cpx (.f 9223372036854775808) (.f 0)), (.cpx (.f 0) (.f
  0)), (.cpx (.f 9221120237041090561) (.f 0))] true)) (.node none .nil .nil) .nil) (.node (some (.cells [(.int .i64 1), (.int .i64 0), (.int .i64 0), (.int .i64 0), (.int .i64 1),
  (.int .i64 0), (.int .i64 0), (.int .i64 0), (.int .i64 1), (.int .i64 0), (.int .i64 0), (.int .i64 0)] true)) (.node (some (.cells [(.int .i64 0), (.int .i64 0), (.int .i64 0)]
  true)) .nil .nil) .nil)) (.node (some (.cells [(.int .i64 7), (.int .i64 0), (.int .i64 0)] true)) (.node (some (.cells [(.int .i64 1), (.int .i64 0), (.int .i64 0)] true)) (.node
  (some (.cells [(.int .i64 0), (.int .i64 0), (.int .i64 0), (.cpx (.f 4616189618054758400) (.f 0))] false)) .nil .nil) .nil) (.node (some (.cells [(.int .i64 1), (.int .i64 0),
  (.int .i64 0), (.int .i64 0), (.int .i64 1), (.int .i64 0), (.int .i64 0), (.int .i64 0), (.int .i64 1)] true)) (.node (some (.cells [(.int .u64 4607182418800017408), (.int .u64
  4607177596232733550), (.int .u64 4607163133695007814), (.int .u64 4607139046673687846), (.int .u64 4607105360961759387), (.int .u64 4607062112630726507), (.int .u64
  4607009347991985328), (.int .u64 4606947123547232624), (.int .u64 4606875505927962389), (.int .u64 4606794571824115162), (.int .u64 4606704407901956523), (.int .u64
  4606605110711272677), (.int .u64 4606496786581982534), (.int .u64 4606379551510276960), (.int .u64 4606253531034407156), (.int .u64 4606118860100255153), (.int .u64
  4605975682916830378), (.int .u64 4605824152801847042), (.int .u64 4605664432017547683), (.int .u64 4605496691596948699), (.int .u64 4605321111160693906), (.int .u64
  4605137878724712257), (.int .u64 4604947190498885672), (.int .u64 4604749250676942587), (.int .u64 4604544271217802189), (.int .u64 4604332471618603501), (.int .u64
  4604114078679662348), (.int .u64 4603889326261607894), (.int .u64 4603658455034958826), (.int .u64 4603421712222407333), (.int .u64 4603179351334086856), (.int .u64
  4602931631896107088), (.int .u64 4602678819172646912), (.int .u64 4602163548591158843), (.int .u64 4601639184639747836), (.int .u64 4601106288820466945), (.int .u64
  4600565431771507043), (.int .u64 4600017192656143146), (.int .u64 4599462158542551880), (.int .u64 4598900923775164166), (.int .u64 4598334089338226320), (.int .u64
  4597349304879225727), (.int .u64 4596196889902818827), (.int .u64 4595036948236777107), (.int .u64 4593870721975689937), (.int .u64 4591727299969791020), (.int .u64
  4589377212798040715), (.int .u64 4584876137810324206)] true)) .nil .nil) .nil))) (.node (some (.cells [] true)) (.node (some (.cells [(.int .i64 1), (.int .i64 0), (.int .i64 0)]
  true)) (.node (some (.cells [(.int .i64 5), (.int .i64 1), (.int .i64 1), (.sl 305 0 5 (some 5))] true)) (.node (some (.cells [(.int .i64 0), (.int .i64 0), (.int .i64 0), (.cpx (.f
  4616189618054758400) (.f 0))] true)) .nil .nil) .nil) (.node (some (.cells [(.int .i64 1), (.int .i64 0), (.int .i64 0), (.int .i64 0), (.int .i64 1), (.int .i64 0), (.int .i64 0),
  (.int .i64 0), (.int .i64 1), (.int .i64 0), (.int .i64 0), (.int .i64 0)] true)) (.node (some (.cells [(.int .i64 0), (.int .i64 0), (.int .i64 0)] true)) .nil .nil) .nil)) (.node
  (some (.cells [(.int .i64 0), (.int .i64 1), (.int .i64 0)] true)) (.node (some (.cells [(.int .i64 0), (.int .i64 0), (.int .i64 0)] true)) (.node (some (.cells [(.int .i64 1),
  (.int .i64 0), (.int .i64 0), (.int .i64 0), (.int .i64 1), (.int .i64 0), (.int .i64 0), (.int .i64 0), (.int .i64 1)] true)) .nil .nil) .nil) (.node (some (.cells [(.cpx (.f
  4607182418800017408) (.f 0))] true)) (.node (some (.cells [(.cpx (.f 0) (.f 0))] true)) .nil .nil) .nil)))))))))

end Go.Proofs.YtfgkhpoibfbnkaaGreat
