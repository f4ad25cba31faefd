/- The threaded code is what the program's functions become. No conditions.
-/
import Derived.Test.YtepeiijjldpcpaaGreatSvQ1
import Derived.Test.YtepeiijjldpcpaaGreatSvK0
import Derived.Test.YtepeiijjldpcpaaGreatSvK1
import Derived.Test.YtepeiijjldpcpaaGreatProg
import Derived.KernelRfl
set_option linter.all false
namespace Go.Sv.C
open Go.Sv Go.Proofs

/-- The program's functions, by their numbers. -/
noncomputable def table : Tr QFun := (.node none (.node none (.node (some q3) (.node (some q7) (.node (some q15) (.node (some q31) (.node (some q63) .nil .nil) (.node (some q95) .nil .nil)) (.node (some q47) (.node (some q79) .nil .nil) (.node (some q111) .nil .nil))) (.node (some q23) (.node (some q39) (.node (some q71) .nil .nil) (.node (some q103) .nil .nil)) (.node (some q55) (.node (some q87) .nil .nil) (.node (some q119) .nil .nil)))) (.node (some q11) (.node (some q19) (.node (some q35) (.node (some q67) .nil .nil) (.node (some q99) .nil .nil)) (.node (some q51) (.node (some q83) .nil .nil) (.node (some q115) .nil .nil))) (.node (some q27) (.node (some q43) (.node (some q75) .nil .nil) (.node (some q107) .nil .nil)) (.node (some q59) (.node (some q91) .nil .nil) (.node (some q123) .nil .nil))))) (.node (some q5) (.node (some q9) (.node (some q17) (.node (some q33) (.node (some q65) .nil .nil) (.node (some q97) .nil .nil)) (.node (some q49) (.node (some q81) .nil .nil) (.node (some q113) .nil .nil))) (.node none (.node (some q41) (.node (some q73) .nil .nil) (.node (some q105) .nil .nil)) (.node (some q57) (.node (some q89) .nil .nil) (.node (some q121) .nil .nil)))) (.node (some q13) (.node (some q21) (.node none (.node (some q69) .nil .nil) (.node (some q101) .nil .nil)) (.node (some q53) (.node (some q85) .nil .nil) (.node (some q117) .nil .nil))) (.node (some q29) (.node (some q45) (.node (some q77) .nil .nil) (.node (some q109) .nil .nil)) (.node (some q61) (.node (some q93) .nil .nil) .nil))))) (.node none (.node (some q4) (.node (some q8) (.node (some q16) (.node (some q32) (.node (some q64) .nil .nil) (.node (some q96) .nil .nil)) (.node (some q48) (.node (some q80) .nil .nil) (.node (some q112) .nil .nil))) (.node (some q24) (.node (some q40) (.node (some q72) .nil .nil) (.node (some q104) .nil .nil)) (.node (some q56) (.node (some q88) .nil .nil) (.node (some q120) .nil .nil)))) (.node (some q12) (.node (some q20) (.node none (.node (some q68) .nil .nil) (.node (some q100) .nil .nil)) (.node (some q52) (.node (some q84) .nil .nil) (.node (some q116) .nil .nil))) (.node (some q28) (.node (some q44) (.node (some q76) .nil .nil) (.node (some q108) .nil .nil)) (.node (some q60) (.node (some q92) .nil .nil) (.node (some q124) .nil .nil))))) (.node (some q6) (.node (some q10) (.node (some q18) (.node (some q34) (.node (some q66) .nil .nil) (.node (some q98) .nil .nil)) (.node (some q50) (.node (some q82) .nil .nil) (.node (some q114) .nil .nil))) (.node (some q26) (.node (some q42) (.node (some q74) .nil .nil) (.node (some q106) .nil .nil)) (.node (some q58) (.node (some q90) .nil .nil) (.node (some q122) .nil .nil)))) (.node (some q14) (.node (some q22) (.node (some q38) (.node (some q70) .nil .nil) (.node (some q102) .nil .nil)) (.node (some q54) (.node (some q86) .nil .nil) (.node (some q118) .nil .nil))) (.node (some q30) (.node (some q46) (.node (some q78) .nil .nil) (.node (some q110) .nil .nil)) (.node (some q62) (.node (some q94) .nil .nil) .nil))))))

theorem q3_is : (cFun Tryz.prog Tryz.f3).map toQF = some q3 := by kernel_rfl
theorem q4_is : (cFun Tryz.prog Tryz.f4).map toQF = some q4 := by kernel_rfl
theorem q5_is : (cFun Tryz.prog Tryz.f5).map toQF = some q5 := by kernel_rfl
theorem q6_is : (cFun Tryz.prog Tryz.f6).map toQF = some q6 := by kernel_rfl
theorem q7_is : (cFun Tryz.prog Tryz.f7).map toQF = some q7 := by kernel_rfl
theorem q8_is : (cFun Tryz.prog Tryz.f8).map toQF = some q8 := by kernel_rfl
theorem q9_is : (cFun Tryz.prog Tryz.f9).map toQF = some q9 := by kernel_rfl
theorem q10_is : (cFun Tryz.prog Tryz.f10).map toQF = some q10 := by kernel_rfl
theorem q11_is : (cFun Tryz.prog Tryz.f11).map toQF = some q11 := by kernel_rfl
theorem q12_is : (cFun Tryz.prog Tryz.f12).map toQF = some q12 := by kernel_rfl
theorem q13_is : (cFun Tryz.prog Tryz.f13).map toQF = some q13 := by kernel_rfl
theorem q14_is : (cFun Tryz.prog Tryz.f14).map toQF = some q14 := by kernel_rfl
theorem q15_is : (cFun Tryz.prog Tryz.f15).map toQF = some q15 := by kernel_rfl
theorem q16_is : (cFun Tryz.prog Tryz.f16).map toQF = some q16 := by kernel_rfl
theorem q17_is : (cFun Tryz.prog Tryz.f17).map toQF = some q17 := by kernel_rfl
theorem q18_is : (cFun Tryz.prog Tryz.f18).map toQF = some q18 := by kernel_rfl
theorem q19_is : (cFun Tryz.prog Tryz.f19).map toQF = some q19 := by kernel_rfl
theorem q20_is : (cFun Tryz.prog Tryz.f20).map toQF = some q20 := by kernel_rfl
theorem q21_is : (cFun Tryz.prog Tryz.f21).map toQF = some q21 := by kernel_rfl
theorem q22_is : (cFun Tryz.prog Tryz.f22).map toQF = some q22 := by kernel_rfl
theorem q23_is : (cFun Tryz.prog Tryz.f23).map toQF = some q23 := by kernel_rfl
theorem q24_is : (cFun Tryz.prog Tryz.f24).map toQF = some q24 := by kernel_rfl
theorem q26_is : (cFun Tryz.prog Tryz.f26).map toQF = some q26 := by kernel_rfl
theorem q27_is : (cFun Tryz.prog Tryz.f27).map toQF = some q27 := by kernel_rfl
theorem q28_is : (cFun Tryz.prog Tryz.f28).map toQF = some q28 := by kernel_rfl
theorem q29_is : (cFun Tryz.prog Tryz.f29).map toQF = some q29 := by kernel_rfl
theorem q30_is : (cFun Tryz.prog Tryz.f30).map toQF = some q30 := by kernel_rfl
theorem q31_is : (cFun Tryz.prog Tryz.f31).map toQF = some q31 := by kernel_rfl
theorem q32_is : (cFun Tryz.prog Tryz.f32).map toQF = some q32 := by kernel_rfl
theorem q33_is : (cFun Tryz.prog Tryz.f33).map toQF = some q33 := by kernel_rfl
theorem q34_is : (cFun Tryz.prog Tryz.f34).map toQF = some q34 := by kernel_rfl
theorem q35_is : (cFun Tryz.prog Tryz.f35).map toQF = some q35 := by kernel_rfl
theorem q38_is : (cFun Tryz.prog Tryz.f38).map toQF = some q38 := by kernel_rfl
theorem q39_is : (cFun Tryz.prog Tryz.f39).map toQF = some q39 := by kernel_rfl
theorem q40_is : (cFun Tryz.prog Tryz.f40).map toQF = some q40 := by kernel_rfl
theorem q41_is : (cFun Tryz.prog Tryz.f41).map toQF = some q41 := by kernel_rfl
theorem q42_is : (cFun Tryz.prog Tryz.f42).map toQF = some q42 := by kernel_rfl
theorem q43_is : (cFun Tryz.prog Tryz.f43).map toQF = some q43 := by kernel_rfl
theorem q44_is : (cFun Tryz.prog Tryz.f44).map toQF = some q44 := by kernel_rfl
theorem q45_is : (cFun Tryz.prog Tryz.f45).map toQF = some q45 := by kernel_rfl
theorem q46_is : (cFun Tryz.prog Tryz.f46).map toQF = some q46 := by kernel_rfl
theorem q47_is : (cFun Tryz.prog Tryz.f47).map toQF = some q47 := by kernel_rfl
theorem q48_is : (cFun Tryz.prog Tryz.f48).map toQF = some q48 := by kernel_rfl
theorem q49_is : (cFun Tryz.prog Tryz.f49).map toQF = some q49 := by kernel_rfl
theorem q50_is : (cFun Tryz.prog Tryz.f50).map toQF = some q50 := by kernel_rfl
theorem q51_is : (cFun Tryz.prog Tryz.f51).map toQF = some q51 := by kernel_rfl
theorem q52_is : (cFun Tryz.prog Tryz.f52).map toQF = some q52 := by kernel_rfl
theorem q53_is : (cFun Tryz.prog Tryz.f53).map toQF = some q53 := by kernel_rfl
theorem q54_is : (cFun Tryz.prog Tryz.f54).map toQF = some q54 := by kernel_rfl
theorem q55_is : (cFun Tryz.prog Tryz.f55).map toQF = some q55 := by kernel_rfl
theorem q56_is : (cFun Tryz.prog Tryz.f56).map toQF = some q56 := by kernel_rfl
theorem q57_is : (cFun Tryz.prog Tryz.f57).map toQF = some q57 := by kernel_rfl
theorem q58_is : (cFun Tryz.prog Tryz.f58).map toQF = some q58 := by kernel_rfl
theorem q59_is : (cFun Tryz.prog Tryz.f59).map toQF = some q59 := by kernel_rfl
theorem q60_is : (cFun Tryz.prog Tryz.f60).map toQF = some q60 := by kernel_rfl
theorem q61_is : (cFun Tryz.prog Tryz.f61).map toQF = some q61 := by kernel_rfl
theorem q62_is : (cFun Tryz.prog Tryz.f62).map toQF = some q62 := by kernel_rfl
theorem q63_is : (cFun Tryz.prog Tryz.f63).map toQF = some q63 := by kernel_rfl
theorem q64_is : (cFun Tryz.prog Tryz.f64).map toQF = some q64 := by kernel_rfl
theorem q65_is : (cFun Tryz.prog Tryz.f65).map toQF = some q65 := by kernel_rfl
theorem q66_is : (cFun Tryz.prog Tryz.f66).map toQF = some q66 := by kernel_rfl
theorem q67_is : (cFun Tryz.prog Tryz.f67).map toQF = some q67 := by kernel_rfl
theorem q68_is : (cFun Tryz.prog Tryz.f68).map toQF = some q68 := by kernel_rfl
theorem q69_is : (cFun Tryz.prog Tryz.f69).map toQF = some q69 := by kernel_rfl
theorem q70_is : (cFun Tryz.prog Tryz.f70).map toQF = some q70 := by kernel_rfl
theorem q71_is : (cFun Tryz.prog Tryz.f71).map toQF = some q71 := by kernel_rfl
theorem q72_is : (cFun Tryz.prog Tryz.f72).map toQF = some q72 := by kernel_rfl
theorem q73_is : (cFun Tryz.prog Tryz.f73).map toQF = some q73 := by kernel_rfl
theorem q74_is : (cFun Tryz.prog Tryz.f74).map toQF = some q74 := by kernel_rfl
theorem q75_is : (cFun Tryz.prog Tryz.f75).map toQF = some q75 := by kernel_rfl
theorem q76_is : (cFun Tryz.prog Tryz.f76).map toQF = some q76 := by kernel_rfl
theorem q77_is : (cFun Tryz.prog Tryz.f77).map toQF = some q77 := by kernel_rfl
theorem q78_is : (cFun Tryz.prog Tryz.f78).map toQF = some q78 := by kernel_rfl
theorem q79_is : (cFun Tryz.prog Tryz.f79).map toQF = some q79 := by kernel_rfl
theorem q80_is : (cFun Tryz.prog Tryz.f80).map toQF = some q80 := by kernel_rfl
theorem q81_is : (cFun Tryz.prog Tryz.f81).map toQF = some q81 := by kernel_rfl
theorem q82_is : (cFun Tryz.prog Tryz.f82).map toQF = some q82 := by kernel_rfl
theorem q83_is : (cFun Tryz.prog Tryz.f83).map toQF = some q83 := by kernel_rfl
theorem q84_is : (cFun Tryz.prog Tryz.f84).map toQF = some q84 := by kernel_rfl
theorem q85_is : (cFun Tryz.prog Tryz.f85).map toQF = some q85 := by kernel_rfl
theorem q86_is : (cFun Tryz.prog Tryz.f86).map toQF = some q86 := by kernel_rfl
theorem q87_is : (cFun Tryz.prog Tryz.f87).map toQF = some q87 := by kernel_rfl
theorem q88_is : (cFun Tryz.prog Tryz.f88).map toQF = some q88 := by kernel_rfl
theorem q89_is : (cFun Tryz.prog Tryz.f89).map toQF = some q89 := by kernel_rfl
theorem q90_is : (cFun Tryz.prog Tryz.f90).map toQF = some q90 := by kernel_rfl
theorem q91_is : (cFun Tryz.prog Tryz.f91).map toQF = some q91 := by kernel_rfl
theorem q92_is : (cFun Tryz.prog Tryz.f92).map toQF = some q92 := by kernel_rfl
theorem q93_is : (cFun Tryz.prog Tryz.f93).map toQF = some q93 := by kernel_rfl
theorem q94_is : (cFun Tryz.prog Tryz.f94).map toQF = some q94 := by kernel_rfl
theorem q95_is : (cFun Tryz.prog Tryz.f95).map toQF = some q95 := by kernel_rfl
theorem q96_is : (cFun Tryz.prog Tryz.f96).map toQF = some q96 := by kernel_rfl
theorem q97_is : (cFun Tryz.prog Tryz.f97).map toQF = some q97 := by kernel_rfl
theorem q98_is : (cFun Tryz.prog Tryz.f98).map toQF = some q98 := by kernel_rfl
theorem q99_is : (cFun Tryz.prog Tryz.f99).map toQF = some q99 := by kernel_rfl
theorem q100_is : (cFun Tryz.prog Tryz.f100).map toQF = some q100 := by kernel_rfl
theorem q101_is : (cFun Tryz.prog Tryz.f101).map toQF = some q101 := by kernel_rfl
theorem q102_is : (cFun Tryz.prog Tryz.f102).map toQF = some q102 := by kernel_rfl
theorem q103_is : (cFun Tryz.prog Tryz.f103).map toQF = some q103 := by kernel_rfl
theorem q104_is : (cFun Tryz.prog Tryz.f104).map toQF = some q104 := by kernel_rfl
theorem q105_is : (cFun Tryz.prog Tryz.f105).map toQF = some q105 := by kernel_rfl
theorem q106_is : (cFun Tryz.prog Tryz.f106).map toQF = some q106 := by kernel_rfl
theorem q107_is : (cFun Tryz.prog Tryz.f107).map toQF = some q107 := by kernel_rfl
theorem q108_is : (cFun Tryz.prog Tryz.f108).map toQF = some q108 := by kernel_rfl
theorem q109_is : (cFun Tryz.prog Tryz.f109).map toQF = some q109 := by kernel_rfl
theorem q110_is : (cFun Tryz.prog Tryz.f110).map toQF = some q110 := by kernel_rfl
theorem q111_is : (cFun Tryz.prog Tryz.f111).map toQF = some q111 := by kernel_rfl
theorem q112_is : (cFun Tryz.prog Tryz.f112).map toQF = some q112 := by kernel_rfl
theorem q113_is : (cFun Tryz.prog Tryz.f113).map toQF = some q113 := by kernel_rfl
theorem q114_is : (cFun Tryz.prog Tryz.f114).map toQF = some q114 := by kernel_rfl
theorem q115_is : (cFun Tryz.prog Tryz.f115).map toQF = some q115 := by kernel_rfl
theorem q116_is : (cFun Tryz.prog Tryz.f116).map toQF = some q116 := by kernel_rfl
theorem q117_is : (cFun Tryz.prog Tryz.f117).map toQF = some q117 := by kernel_rfl
theorem q118_is : (cFun Tryz.prog Tryz.f118).map toQF = some q118 := by kernel_rfl
theorem q119_is : (cFun Tryz.prog Tryz.f119).map toQF = some q119 := by kernel_rfl
theorem q120_is : (cFun Tryz.prog Tryz.f120).map toQF = some q120 := by kernel_rfl
theorem q121_is : (cFun Tryz.prog Tryz.f121).map toQF = some q121 := by kernel_rfl
theorem q122_is : (cFun Tryz.prog Tryz.f122).map toQF = some q122 := by kernel_rfl
theorem q123_is : (cFun Tryz.prog Tryz.f123).map toQF = some q123 := by kernel_rfl
theorem q124_is : (cFun Tryz.prog Tryz.f124).map toQF = some q124 := by kernel_rfl

end Go.Sv.C
