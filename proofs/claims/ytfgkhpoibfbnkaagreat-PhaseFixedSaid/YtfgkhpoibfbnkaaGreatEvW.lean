/-
  The evaluator's own steps through a long row of code. No conditions.
-/
import Derived.KernelRfl
import Derived.Test.YtfgkhpoibfbnkaaGreatEvL0
import Derived.Test.YtfgkhpoibfbnkaaGreatEvL1
import Derived.Test.YtfgkhpoibfbnkaaGreatEvL2
import Derived.Test.YtfgkhpoibfbnkaaGreatEvL3
import Derived.Test.YtfgkhpoibfbnkaaGreatEvX
namespace Go.Ev

/-- What stands behind the first k parts. -/
def restOf : Nat → ACode → ACode
  | k + 1, .seq _ b => restOf k b
  | _, c => c

/-- The state behind the first k parts. -/
def evTo (env : Nat → Option AFun) : Nat → Nat → ACode → Tr AT → AH → Option (Tr AT × AH)
  | k + 1, n + 1, .seq a b, T, H =>
    match ev env n a T H with
    | some (.normal, T, H) => evTo env k n b T H
    | _ => none
  | 0, _, _, T, H => some (T, H)
  | _, _, _, _, _ => none

theorem evTo_ev {env : Nat → Option AFun} : ∀ (k n : Nat) (c : ACode) (T : Tr AT) (H : AH) {T' : Tr AT} {H' : AH}, evTo env k (n + k) c T H = some (T', H') → ev env (n + k) c T H = ev env n (restOf k c) T' H'
  | 0, n, c, T, H, T', H', h => by
    have h' : some (T, H) = some (T', H') := by
      cases n <;> exact h
    simp only [Option.some.injEq, Prod.mk.injEq] at h'
    obtain ⟨rfl, rfl⟩ := h'
    cases c <;> rfl
  | k + 1, n, c, T, H, T', H', h => by
    cases c with
    | seq a b =>
      have h' : (match ev env (n + k) a T H with
        | some (.normal, T, H) => evTo env k (n + k) b T H
        | _ => none) = some (T', H') := h
      have he : ev env (n + (k + 1)) (.seq a b) T H = (match ev env (n + k) a T H with
        | none => none
        | some (.normal, T, H) => ev env (n + k) b T H
        | some r => some r) := rfl
      rw [he]
      split at h'
      · rename_i T1 H1 h1
        rw [h1]
        exact evTo_ev k n b T1 H1 h'
      · cases h'
    | _ => cases h

/-- What a call makes of its code's answer. -/
def finish (res : List (Nat × Option (Option Nat))) (x : Ans) : Option (AT × AH) :=
  match x with
  | none => none
  | some (.exit _, _, _) => none
  | some (_, T, H) =>
    match resA T H res with
    | some vs => some (one vs, H)
    | none => none

theorem evF_finish {env : Nat → Option AFun} {n f : Nat} {fn : AFun} (h : env f = some fn) (H : AH) : evF env n f [] H = finish fn.res (ev env n fn.code .nil H) := by
  unfold evF
  rw [h]
  rfl
end Go.Ev

namespace Go.Proofs.YtfgkhpoibfbnkaaGreat
open Go.Ev

def table : Tr AFun :=
  (.node none (.node none (.node (some c3) (.node (some c7) (.node (some c15) (.node (some c31) (.node (some c63) (.node (some c127) .nil .nil) .nil) (.node (some c95) .nil .nil))
    (.node (some c47) (.node (some c79) .nil .nil) (.node (some c111) .nil .nil))) (.node (some c23) (.node (some c39) (.node (some c71) .nil .nil) (.node (some c103) .nil .nil))
    (.node (some c55) (.node (some c87) .nil .nil) (.node (some c119) .nil .nil)))) (.node (some c11) (.node (some c19) (.node (some c35) (.node (some c67) (.node (some c131) .nil
    .nil) .nil) (.node (some c99) .nil .nil)) (.node (some c51) (.node (some c83) .nil .nil) (.node (some c115) .nil .nil))) (.node (some c27) (.node (some c43) (.node (some c75) .nil
    .nil) (.node (some c107) .nil .nil)) (.node (some c59) (.node (some c91) .nil .nil) (.node (some c123) .nil .nil))))) (.node (some c5) (.node (some c9) (.node (some c17) (.node
    (some c33) (.node (some c65) (.node (some c129) .nil .nil) .nil) (.node (some c97) .nil .nil)) (.node (some c49) (.node (some c81) .nil .nil) (.node (some c113) .nil .nil)))
    (.node (some c25) (.node (some c41) (.node (some c73) .nil .nil) (.node (some c105) .nil .nil)) (.node (some c57) (.node (some c89) .nil .nil) (.node (some c121) .nil .nil))))
    (.node (some c13) (.node none (.node (some c37) (.node (some c69) (.node (some c133) .nil .nil) .nil) (.node (some c101) .nil .nil)) (.node (some c53) (.node (some c85) .nil .nil)
    (.node (some c117) .nil .nil))) (.node (some c29) (.node (some c45) (.node (some c77) .nil .nil) (.node (some c109) .nil .nil)) (.node (some c61) (.node (some c93) .nil .nil)
    (.node (some c125) .nil .nil)))))) (.node none (.node (some c4) (.node (some c8) (.node (some c16) (.node (some c32) (.node (some c64) (.node (some c128) .nil .nil) .nil) (.node
    (some c96) .nil .nil)) (.node (some c48) (.node (some c80) .nil .nil) (.node (some c112) .nil .nil))) (.node (some c24) (.node (some c40) (.node (some c72) .nil .nil) (.node (some
    c104) .nil .nil)) (.node (some c56) (.node (some c88) .nil .nil) (.node (some c120) .nil .nil)))) (.node (some c12) (.node (some c20) (.node (some c36) (.node (some c68) (.node
    (some c132) .nil .nil) .nil) (.node (some c100) .nil .nil)) (.node none (.node (some c84) .nil .nil) (.node (some c116) .nil .nil))) (.node (some c28) (.node (some c44) (.node
    (some c76) .nil .nil) (.node (some c108) .nil .nil)) (.node (some c60) (.node (some c92) .nil .nil) (.node (some c124) .nil .nil))))) (.node (some c6) (.node (some c10) (.node
    (some c18) (.node (some c34) (.node (some c66) (.node (some c130) .nil .nil) .nil) (.node (some c98) .nil .nil)) (.node (some c50) (.node (some c82) .nil .nil) (.node (some c114)
    .nil .nil))) (.node (some c26) (.node (some c42) (.node (some c74) .nil .nil) (.node (some c106) .nil .nil)) (.node (some c58) (.node (some c90) .nil .nil) (.node (some c122) .nil
    .nil)))) (.node (some c14) (.node none (.node (some c38) (.node (some c70) (.node (some c134) .nil .nil) .nil) (.node (some c102) .nil .nil)) (.node (some c54) (.node (some c86)
    .nil .nil) (.node (some c118) .nil .nil))) (.node (some c30) (.node (some c46) (.node (some c78) .nil .nil) (.node (some c110) .nil .nil)) (.node (some c62) (.node (some c94) .nil
    .nil) (.node (some c126) .nil .nil)))))))
def env (f : Nat) : Option AFun := table.get f


def saysTrue : Option (AT × AH) → Bool
  | some (.v (.c (.bool true)), _) => true
  | _ => false

end Go.Proofs.YtfgkhpoibfbnkaaGreat
