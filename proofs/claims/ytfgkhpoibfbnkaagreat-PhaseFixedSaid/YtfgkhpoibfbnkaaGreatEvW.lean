/-
  The evaluator's answer at the program's own law. No conditions.
-/
import Derived.KernelRfl
import Derived.Test.YtfgkhpoibfbnkaaGreatEvL0
import Derived.Test.YtfgkhpoibfbnkaaGreatEvL1
import Derived.Test.YtfgkhpoibfbnkaaGreatEvL2
import Derived.Test.YtfgkhpoibfbnkaaGreatEvL3
namespace Go.Proofs.YtfgkhpoibfbnkaaGreat
open Go.Ev

def table : Tr AFun :=
  (.node none (.node none (.node (some c3) (.node (some c7) (.node (some c15) (.node (some c31) (.node (some c63) (.node (some c127) .nil .nil) .nil) (.node (some c95) .nil .nil))
    (.node (some c47) (.node (some c79) .nil .nil) (.node (some c111) .nil .nil))) (.node (some c23) (.node (some c39) (.node (some c71) .nil .nil) (.node (some c103) .nil .nil))
    (.node (some c55) (.node (some c87) .nil .nil) (.node (some c119) .nil .nil)))) (.node (some c11) (.node (some c19) (.node (some c35) (.node (some c67) (.node (some c131) .nil
    .nil) .nil) (.node (some c99) .nil .nil)) (.node (some c51) (.node (some c83) .nil .nil) (.node (some c115) .nil .nil))) (.node (some c27) (.node (some c43) (.node (some c75) .nil
    .nil) (.node (some c107) .nil .nil)) (.node (some c59) (.node (some c91) .nil .nil) (.node (some c123) .nil .nil))))) (.node (some c5) (.node (some c9) (.node (some c17) (.node
    (some c33) (.node (some c65) (.node (some c129) .nil .nil) .nil) (.node (some c97) .nil .nil)) (.node (some c49) (.node (some c81) .nil .nil) (.node (some c113) .nil .nil)))
    (.node (some c25) (.node (some c41) (.node (some c73) .nil .nil) (.node (some c105) .nil .nil)) (.node (some c57) (.node (some c89) .nil .nil) (.node (some c121) .nil .nil))))
    (.node (some c13) (.node none (.node (some c37) (.node (some c69) (.node (some c133) .nil .nil) .nil) (.node (some c101) .nil .nil)) (.node (some c53) (.node (some c85) .nil .nil)
    (.node (some c117) .nil .nil))) (.node (some c29) (.node (some c45) (.node (some c77) .nil .nil) (.node (some c109) .nil .nil)) (.node (some c61) (.node (some c93) .nil .nil)
    (.node (some c125) .nil .nil)))))) (.node none (.node (some c4) (.node (some c8) (.node (some c16) (.node (some c32) (.node (some c64) (.node (some c128) .nil .nil) .nil) (.node
    (some c96) .nil .nil)) (.node (some c48) (.node (some c80) .nil .nil) (.node (some c112) .nil .nil))) (.node (some c24) (.node (some c40) (.node (some c72) .nil .nil) (.node (some
    c104) .nil .nil)) (.node (some c56) (.node (some c88) .nil .nil) (.node (some c120) .nil .nil)))) (.node (some c12) (.node (some c20) (.node (some c36) (.node (some c68) (.node
    (some c132) .nil .nil) .nil) (.node (some c100) .nil .nil)) (.node none (.node (some c84) .nil .nil) (.node (some c116) .nil .nil))) (.node (some c28) (.node (some c44) (.node
    (some c76) .nil .nil) (.node (some c108) .nil .nil)) (.node (some c60) (.node (some c92) .nil .nil) (.node (some c124) .nil .nil))))) (.node (some c6) (.node (some c10) (.node
    (some c18) (.node (some c34) (.node (some c66) (.node (some c130) .nil .nil) .nil) (.node (some c98) .nil .nil)) (.node (some c50) (.node (some c82) .nil .nil) (.node (some c114)
    .nil .nil))) (.node (some c26) (.node (some c42) (.node (some c74) .nil .nil) (.node (some c106) .nil .nil)) (.node (some c58) (.node (some c90) .nil .nil) (.node (some c122) .nil
    .nil)))) (.node (some c14) (.node none (.node (some c38) (.node (some c70) (.node (some c134) .nil .nil) .nil) (.node (some c102) .nil .nil)) (.node (some c54) (.node (some c86)
    .nil .nil) (.node (some c118) .nil .nil))) (.node (some c30) (.node (some c46) (.node (some c78) .nil .nil) (.node (some c110) .nil .nil)) (.node (some c62) (.node (some c94) .nil
    .nil) (.node (some c126) .nil .nil)))))))
def env (f : Nat) : Option AFun := table.get f

def saysTrue : Option (AT × AH) → Bool
  | some (.v (.c (.bool true)), _) => true
  | _ => false

theorem fixed_true : saysTrue (evF env 3000 3 [] ⟨.nil, 0, []⟩) = true := by kernel_rfl

end Go.Proofs.YtfgkhpoibfbnkaaGreat
