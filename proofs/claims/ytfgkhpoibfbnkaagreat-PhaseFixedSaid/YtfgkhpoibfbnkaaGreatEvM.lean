/-
  The evaluator's code is what the program's functions become. No conditions.
-/
import Derived.Test.YtfgkhpoibfbnkaaGreatEvB
import Derived.Test.YtfgkhpoibfbnkaaGreatProg
import Derived.KernelRfl
import Derived.Test.YtfgkhpoibfbnkaaGreatEvL0
import Derived.Test.YtfgkhpoibfbnkaaGreatEvL1
import Derived.Test.YtfgkhpoibfbnkaaGreatEvL2
import Derived.Test.YtfgkhpoibfbnkaaGreatEvL3
namespace Go.Proofs.YtfgkhpoibfbnkaaGreat
open Go.Ev

theorem c3_is : cFun Tryz.prog Tryz.f3 = some c3 := by kernel_rfl
theorem c4_is : cFun Tryz.prog Tryz.f4 = some c4 := by kernel_rfl
theorem c5_is : cFun Tryz.prog Tryz.f5 = some c5 := by kernel_rfl
theorem c6_is : cFun Tryz.prog Tryz.f6 = some c6 := by kernel_rfl
theorem c7_is : cFun Tryz.prog Tryz.f7 = some c7 := by kernel_rfl
theorem c8_is : cFun Tryz.prog Tryz.f8 = some c8 := by kernel_rfl
theorem c9_is : cFun Tryz.prog Tryz.f9 = some c9 := by kernel_rfl
theorem c10_is : cFun Tryz.prog Tryz.f10 = some c10 := by kernel_rfl
theorem c11_is : cFun Tryz.prog Tryz.f11 = some c11 := by kernel_rfl
theorem c12_is : cFun Tryz.prog Tryz.f12 = some c12 := by kernel_rfl
theorem c13_is : cFun Tryz.prog Tryz.f13 = some c13 := by kernel_rfl
theorem c14_is : cFun Tryz.prog Tryz.f14 = some c14 := by kernel_rfl
theorem c15_is : cFun Tryz.prog Tryz.f15 = some c15 := by kernel_rfl
theorem c16_is : cFun Tryz.prog Tryz.f16 = some c16 := by kernel_rfl
theorem c17_is : cFun Tryz.prog Tryz.f17 = some c17 := by kernel_rfl
theorem c18_is : cFun Tryz.prog Tryz.f18 = some c18 := by kernel_rfl
theorem c19_is : cFun Tryz.prog Tryz.f19 = some c19 := by kernel_rfl
theorem c20_is : cFun Tryz.prog Tryz.f20 = some c20 := by kernel_rfl
theorem c23_is : cFun Tryz.prog Tryz.f23 = some c23 := by kernel_rfl
theorem c24_is : cFun Tryz.prog Tryz.f24 = some c24 := by kernel_rfl
theorem c25_is : cFun Tryz.prog Tryz.f25 = some c25 := by kernel_rfl
theorem c26_is : cFun Tryz.prog Tryz.f26 = some c26 := by kernel_rfl
theorem c27_is : cFun Tryz.prog Tryz.f27 = some c27 := by kernel_rfl
theorem c28_is : cFun Tryz.prog Tryz.f28 = some c28 := by kernel_rfl
theorem c29_is : cFun Tryz.prog Tryz.f29 = some c29 := by kernel_rfl
theorem c30_is : cFun Tryz.prog Tryz.f30 = some c30 := by kernel_rfl
theorem c31_is : cFun Tryz.prog Tryz.f31 = some c31 := by kernel_rfl
theorem c32_is : cFun Tryz.prog Tryz.f32 = some c32 := by kernel_rfl
theorem c33_is : cFun Tryz.prog Tryz.f33 = some c33 := by kernel_rfl
theorem c34_is : cFun Tryz.prog Tryz.f34 = some c34 := by kernel_rfl
theorem c35_is : cFun Tryz.prog Tryz.f35 = some c35 := by kernel_rfl
theorem c36_is : cFun Tryz.prog Tryz.f36 = some c36 := by kernel_rfl
theorem c37_is : cFun Tryz.prog Tryz.f37 = some c37 := by kernel_rfl
theorem c38_is : cFun Tryz.prog Tryz.f38 = some c38 := by kernel_rfl
theorem c39_is : cFun Tryz.prog Tryz.f39 = some c39 := by kernel_rfl
theorem c40_is : cFun Tryz.prog Tryz.f40 = some c40 := by kernel_rfl
theorem c41_is : cFun Tryz.prog Tryz.f41 = some c41 := by kernel_rfl
theorem c42_is : cFun Tryz.prog Tryz.f42 = some c42 := by kernel_rfl
theorem c43_is : cFun Tryz.prog Tryz.f43 = some c43 := by kernel_rfl
theorem c44_is : cFun Tryz.prog Tryz.f44 = some c44 := by kernel_rfl
theorem c45_is : cFun Tryz.prog Tryz.f45 = some c45 := by kernel_rfl
theorem c46_is : cFun Tryz.prog Tryz.f46 = some c46 := by kernel_rfl
theorem c47_is : cFun Tryz.prog Tryz.f47 = some c47 := by kernel_rfl
theorem c48_is : cFun Tryz.prog Tryz.f48 = some c48 := by kernel_rfl
theorem c49_is : cFun Tryz.prog Tryz.f49 = some c49 := by kernel_rfl
theorem c50_is : cFun Tryz.prog Tryz.f50 = some c50 := by kernel_rfl
theorem c51_is : cFun Tryz.prog Tryz.f51 = some c51 := by kernel_rfl
theorem c53_is : cFun Tryz.prog Tryz.f53 = some c53 := by kernel_rfl
theorem c54_is : cFun Tryz.prog Tryz.f54 = some c54 := by kernel_rfl
theorem c55_is : cFun Tryz.prog Tryz.f55 = some c55 := by kernel_rfl
theorem c56_is : cFun Tryz.prog Tryz.f56 = some c56 := by kernel_rfl
theorem c57_is : cFun Tryz.prog Tryz.f57 = some c57 := by kernel_rfl
theorem c58_is : cFun Tryz.prog Tryz.f58 = some c58 := by kernel_rfl
theorem c59_is : cFun Tryz.prog Tryz.f59 = some c59 := by kernel_rfl
theorem c60_is : cFun Tryz.prog Tryz.f60 = some c60 := by kernel_rfl
theorem c61_is : cFun Tryz.prog Tryz.f61 = some c61 := by kernel_rfl
theorem c62_is : cFun Tryz.prog Tryz.f62 = some c62 := by kernel_rfl
theorem c63_is : cFun Tryz.prog Tryz.f63 = some c63 := by kernel_rfl
theorem c64_is : cFun Tryz.prog Tryz.f64 = some c64 := by kernel_rfl
theorem c65_is : cFun Tryz.prog Tryz.f65 = some c65 := by kernel_rfl
theorem c66_is : cFun Tryz.prog Tryz.f66 = some c66 := by kernel_rfl
theorem c67_is : cFun Tryz.prog Tryz.f67 = some c67 := by kernel_rfl
theorem c68_is : cFun Tryz.prog Tryz.f68 = some c68 := by kernel_rfl
theorem c69_is : cFun Tryz.prog Tryz.f69 = some c69 := by kernel_rfl
theorem c70_is : cFun Tryz.prog Tryz.f70 = some c70 := by kernel_rfl
theorem c71_is : cFun Tryz.prog Tryz.f71 = some c71 := by kernel_rfl
theorem c72_is : cFun Tryz.prog Tryz.f72 = some c72 := by kernel_rfl
theorem c73_is : cFun Tryz.prog Tryz.f73 = some c73 := by kernel_rfl
theorem c74_is : cFun Tryz.prog Tryz.f74 = some c74 := by kernel_rfl
theorem c75_is : cFun Tryz.prog Tryz.f75 = some c75 := by kernel_rfl
theorem c76_is : cFun Tryz.prog Tryz.f76 = some c76 := by kernel_rfl
theorem c77_is : cFun Tryz.prog Tryz.f77 = some c77 := by kernel_rfl
theorem c78_is : cFun Tryz.prog Tryz.f78 = some c78 := by kernel_rfl
theorem c79_is : cFun Tryz.prog Tryz.f79 = some c79 := by kernel_rfl
theorem c80_is : cFun Tryz.prog Tryz.f80 = some c80 := by kernel_rfl
theorem c81_is : cFun Tryz.prog Tryz.f81 = some c81 := by kernel_rfl
theorem c82_is : cFun Tryz.prog Tryz.f82 = some c82 := by kernel_rfl
theorem c83_is : cFun Tryz.prog Tryz.f83 = some c83 := by kernel_rfl
theorem c84_is : cFun Tryz.prog Tryz.f84 = some c84 := by kernel_rfl
theorem c85_is : cFun Tryz.prog Tryz.f85 = some c85 := by kernel_rfl
theorem c86_is : cFun Tryz.prog Tryz.f86 = some c86 := by kernel_rfl
theorem c87_is : cFun Tryz.prog Tryz.f87 = some c87 := by kernel_rfl
theorem c88_is : cFun Tryz.prog Tryz.f88 = some c88 := by kernel_rfl
theorem c89_is : cFun Tryz.prog Tryz.f89 = some c89 := by kernel_rfl
theorem c90_is : cFun Tryz.prog Tryz.f90 = some c90 := by kernel_rfl
theorem c91_is : cFun Tryz.prog Tryz.f91 = some c91 := by kernel_rfl
theorem c92_is : cFun Tryz.prog Tryz.f92 = some c92 := by kernel_rfl
theorem c93_is : cFun Tryz.prog Tryz.f93 = some c93 := by kernel_rfl
theorem c94_is : cFun Tryz.prog Tryz.f94 = some c94 := by kernel_rfl
theorem c95_is : cFun Tryz.prog Tryz.f95 = some c95 := by kernel_rfl
theorem c96_is : cFun Tryz.prog Tryz.f96 = some c96 := by kernel_rfl
theorem c97_is : cFun Tryz.prog Tryz.f97 = some c97 := by kernel_rfl
theorem c98_is : cFun Tryz.prog Tryz.f98 = some c98 := by kernel_rfl
theorem c99_is : cFun Tryz.prog Tryz.f99 = some c99 := by kernel_rfl
theorem c100_is : cFun Tryz.prog Tryz.f100 = some c100 := by kernel_rfl
theorem c101_is : cFun Tryz.prog Tryz.f101 = some c101 := by kernel_rfl
theorem c102_is : cFun Tryz.prog Tryz.f102 = some c102 := by kernel_rfl
theorem c103_is : cFun Tryz.prog Tryz.f103 = some c103 := by kernel_rfl
theorem c104_is : cFun Tryz.prog Tryz.f104 = some c104 := by kernel_rfl
theorem c105_is : cFun Tryz.prog Tryz.f105 = some c105 := by kernel_rfl
theorem c106_is : cFun Tryz.prog Tryz.f106 = some c106 := by kernel_rfl
theorem c107_is : cFun Tryz.prog Tryz.f107 = some c107 := by kernel_rfl
theorem c108_is : cFun Tryz.prog Tryz.f108 = some c108 := by kernel_rfl
theorem c109_is : cFun Tryz.prog Tryz.f109 = some c109 := by kernel_rfl
theorem c110_is : cFun Tryz.prog Tryz.f110 = some c110 := by kernel_rfl
theorem c111_is : cFun Tryz.prog Tryz.f111 = some c111 := by kernel_rfl
theorem c112_is : cFun Tryz.prog Tryz.f112 = some c112 := by kernel_rfl
theorem c113_is : cFun Tryz.prog Tryz.f113 = some c113 := by kernel_rfl
theorem c114_is : cFun Tryz.prog Tryz.f114 = some c114 := by kernel_rfl
theorem c115_is : cFun Tryz.prog Tryz.f115 = some c115 := by kernel_rfl
theorem c116_is : cFun Tryz.prog Tryz.f116 = some c116 := by kernel_rfl
theorem c117_is : cFun Tryz.prog Tryz.f117 = some c117 := by kernel_rfl
theorem c118_is : cFun Tryz.prog Tryz.f118 = some c118 := by kernel_rfl
theorem c119_is : cFun Tryz.prog Tryz.f119 = some c119 := by kernel_rfl
theorem c120_is : cFun Tryz.prog Tryz.f120 = some c120 := by kernel_rfl
theorem c121_is : cFun Tryz.prog Tryz.f121 = some c121 := by kernel_rfl
theorem c122_is : cFun Tryz.prog Tryz.f122 = some c122 := by kernel_rfl
theorem c123_is : cFun Tryz.prog Tryz.f123 = some c123 := by kernel_rfl
theorem c124_is : cFun Tryz.prog Tryz.f124 = some c124 := by kernel_rfl
theorem c125_is : cFun Tryz.prog Tryz.f125 = some c125 := by kernel_rfl
theorem c126_is : cFun Tryz.prog Tryz.f126 = some c126 := by kernel_rfl
theorem c127_is : cFun Tryz.prog Tryz.f127 = some c127 := by kernel_rfl
theorem c128_is : cFun Tryz.prog Tryz.f128 = some c128 := by kernel_rfl
theorem c129_is : cFun Tryz.prog Tryz.f129 = some c129 := by kernel_rfl
theorem c130_is : cFun Tryz.prog Tryz.f130 = some c130 := by kernel_rfl
theorem c131_is : cFun Tryz.prog Tryz.f131 = some c131 := by kernel_rfl
theorem c132_is : cFun Tryz.prog Tryz.f132 = some c132 := by kernel_rfl
theorem c133_is : cFun Tryz.prog Tryz.f133 = some c133 := by kernel_rfl
theorem c134_is : cFun Tryz.prog Tryz.f134 = some c134 := by kernel_rfl

end Go.Proofs.YtfgkhpoibfbnkaaGreat
