/-
  The evaluator's answer at the program's own law, and what the program then does. No conditions.
-/
import Derived.Test.YtfgkhpoibfbnkaaGreatEvQ
import Derived.Test.YtfgkhpoibfbnkaaGreatEvM
import Derived.Test.YtfgkhpoibfbnkaaGreatEvW1
import Derived.Test.YtfgkhpoibfbnkaaGreatEvW2
import Derived.Test.YtfgkhpoibfbnkaaGreatEvW3
namespace Go.Ev

/-- Each number that a tree holds, where it holds it. -/
def Tr.each {α : Type} (p : Nat → α → Prop) : Tr α → Nat → Nat → Prop
  | .nil, _, _ => True
  | .node none l r, o, s => l.each p (o + s) (2 * s) ∧ r.each p (o + 2 * s) (2 * s)
  | .node (some x) l r, o, s => p o x ∧ l.each p (o + s) (2 * s) ∧ r.each p (o + 2 * s) (2 * s)

theorem Tr.each_get {α : Type} {p : Nat → α → Prop} : ∀ (t : Tr α) (o s : Nat), t.each p o s → ∀ i x, t.get i = some x → p (o + s * i) x
  | .nil, _, _, _, i, x, h => by simp [Tr.get] at h
  | .node v l r, o, s, he, i, x, h => by
    have hl : l.each p (o + s) (2 * s) := by
      cases v with
      | none => exact he.1
      | some y => exact he.2.1
    have hr : r.each p (o + 2 * s) (2 * s) := by
      cases v with
      | none => exact he.2
      | some y => exact he.2.2
    cases i with
    | zero =>
      have hv : v = some x := by simpa [Tr.get] using h
      subst hv
      exact he.1
    | succ i =>
      have hm : i = 2 * (i / 2) + i % 2 := (Nat.div_add_mod i 2).symm
      simp only [Tr.get] at h
      cases hb : Nat.beq (Nat.mod i 2) 0
      · rw [hb, cond_false] at h
        have hne : i % 2 ≠ 0 := fun e => by
          have e' : Nat.mod i 2 = 0 := e
          rw [e'] at hb
          cases hb
        have := Tr.each_get r _ _ hr (i / 2) x h
        have e : o + s * (i + 1) = o + 2 * s + 2 * s * (i / 2) := by
          have h1 : i % 2 = 1 := by omega
          have h2 : s * (i + 1) = s * (2 * (i / 2) + 2) := by congr 1; omega
          rw [h2, Nat.mul_add, ← Nat.mul_assoc, Nat.mul_comm s 2]
          omega
        rw [e]
        exact this
      · rw [hb, cond_true] at h
        have h0 : i % 2 = 0 := Nat.eq_of_beq_eq_true hb
        have := Tr.each_get l _ _ hl (i / 2) x h
        have e : o + s * (i + 1) = o + s + 2 * s * (i / 2) := by
          have h2 : s * (i + 1) = s * (2 * (i / 2) + 1) := by congr 1; omega
          rw [h2, Nat.mul_add, ← Nat.mul_assoc, Nat.mul_comm s 2]
          omega
        rw [e]
        exact this
end Go.Ev

namespace Go.Proofs.YtfgkhpoibfbnkaaGreat
open Go.Ev

theorem mixed : Tryz.prog.follows .mixedOrders = true := by kernel_rfl

theorem table_each : table.each (fun f af => ∃ fn, Tryz.prog.funcs[f]? = some fn ∧ cFun Tryz.prog fn = some af) 0 1 :=
  ⟨⟨⟨⟨_, Tryz.func3, c3_is⟩, ⟨⟨_, Tryz.func7, c7_is⟩, ⟨⟨_, Tryz.func15, c15_is⟩, ⟨⟨_, Tryz.func31, c31_is⟩, ⟨⟨_, Tryz.func63, c63_is⟩, ⟨⟨_, Tryz.func127, c127_is⟩, trivial, trivial⟩,
    trivial⟩, ⟨⟨_, Tryz.func95, c95_is⟩, trivial, trivial⟩⟩, ⟨⟨_, Tryz.func47, c47_is⟩, ⟨⟨_, Tryz.func79, c79_is⟩, trivial, trivial⟩, ⟨⟨_, Tryz.func111, c111_is⟩, trivial, trivial⟩⟩⟩,
    ⟨⟨_, Tryz.func23, c23_is⟩, ⟨⟨_, Tryz.func39, c39_is⟩, ⟨⟨_, Tryz.func71, c71_is⟩, trivial, trivial⟩, ⟨⟨_, Tryz.func103, c103_is⟩, trivial, trivial⟩⟩, ⟨⟨_, Tryz.func55, c55_is⟩,
    ⟨⟨_, Tryz.func87, c87_is⟩, trivial, trivial⟩, ⟨⟨_, Tryz.func119, c119_is⟩, trivial, trivial⟩⟩⟩⟩, ⟨⟨_, Tryz.func11, c11_is⟩, ⟨⟨_, Tryz.func19, c19_is⟩, ⟨⟨_, Tryz.func35, c35_is⟩,
    ⟨⟨_, Tryz.func67, c67_is⟩, ⟨⟨_, Tryz.func131, c131_is⟩, trivial, trivial⟩, trivial⟩, ⟨⟨_, Tryz.func99, c99_is⟩, trivial, trivial⟩⟩, ⟨⟨_, Tryz.func51, c51_is⟩, ⟨⟨_, Tryz.func83,
    c83_is⟩, trivial, trivial⟩, ⟨⟨_, Tryz.func115, c115_is⟩, trivial, trivial⟩⟩⟩, ⟨⟨_, Tryz.func27, c27_is⟩, ⟨⟨_, Tryz.func43, c43_is⟩, ⟨⟨_, Tryz.func75, c75_is⟩, trivial, trivial⟩,
    ⟨⟨_, Tryz.func107, c107_is⟩, trivial, trivial⟩⟩, ⟨⟨_, Tryz.func59, c59_is⟩, ⟨⟨_, Tryz.func91, c91_is⟩, trivial, trivial⟩, ⟨⟨_, Tryz.func123, c123_is⟩, trivial, trivial⟩⟩⟩⟩⟩, ⟨⟨_,
    Tryz.func5, c5_is⟩, ⟨⟨_, Tryz.func9, c9_is⟩, ⟨⟨_, Tryz.func17, c17_is⟩, ⟨⟨_, Tryz.func33, c33_is⟩, ⟨⟨_, Tryz.func65, c65_is⟩, ⟨⟨_, Tryz.func129, c129_is⟩, trivial, trivial⟩,
    trivial⟩, ⟨⟨_, Tryz.func97, c97_is⟩, trivial, trivial⟩⟩, ⟨⟨_, Tryz.func49, c49_is⟩, ⟨⟨_, Tryz.func81, c81_is⟩, trivial, trivial⟩, ⟨⟨_, Tryz.func113, c113_is⟩, trivial, trivial⟩⟩⟩,
    ⟨⟨_, Tryz.func25, c25_is⟩, ⟨⟨_, Tryz.func41, c41_is⟩, ⟨⟨_, Tryz.func73, c73_is⟩, trivial, trivial⟩, ⟨⟨_, Tryz.func105, c105_is⟩, trivial, trivial⟩⟩, ⟨⟨_, Tryz.func57, c57_is⟩,
    ⟨⟨_, Tryz.func89, c89_is⟩, trivial, trivial⟩, ⟨⟨_, Tryz.func121, c121_is⟩, trivial, trivial⟩⟩⟩⟩, ⟨⟨_, Tryz.func13, c13_is⟩, ⟨⟨⟨_, Tryz.func37, c37_is⟩, ⟨⟨_, Tryz.func69, c69_is⟩,
    ⟨⟨_, Tryz.func133, c133_is⟩, trivial, trivial⟩, trivial⟩, ⟨⟨_, Tryz.func101, c101_is⟩, trivial, trivial⟩⟩, ⟨⟨_, Tryz.func53, c53_is⟩, ⟨⟨_, Tryz.func85, c85_is⟩, trivial, trivial⟩,
    ⟨⟨_, Tryz.func117, c117_is⟩, trivial, trivial⟩⟩⟩, ⟨⟨_, Tryz.func29, c29_is⟩, ⟨⟨_, Tryz.func45, c45_is⟩, ⟨⟨_, Tryz.func77, c77_is⟩, trivial, trivial⟩, ⟨⟨_, Tryz.func109, c109_is⟩,
    trivial, trivial⟩⟩, ⟨⟨_, Tryz.func61, c61_is⟩, ⟨⟨_, Tryz.func93, c93_is⟩, trivial, trivial⟩, ⟨⟨_, Tryz.func125, c125_is⟩, trivial, trivial⟩⟩⟩⟩⟩⟩, ⟨⟨⟨_, Tryz.func4, c4_is⟩, ⟨⟨_,
    Tryz.func8, c8_is⟩, ⟨⟨_, Tryz.func16, c16_is⟩, ⟨⟨_, Tryz.func32, c32_is⟩, ⟨⟨_, Tryz.func64, c64_is⟩, ⟨⟨_, Tryz.func128, c128_is⟩, trivial, trivial⟩, trivial⟩, ⟨⟨_, Tryz.func96,
    c96_is⟩, trivial, trivial⟩⟩, ⟨⟨_, Tryz.func48, c48_is⟩, ⟨⟨_, Tryz.func80, c80_is⟩, trivial, trivial⟩, ⟨⟨_, Tryz.func112, c112_is⟩, trivial, trivial⟩⟩⟩, ⟨⟨_, Tryz.func24, c24_is⟩,
    ⟨⟨_, Tryz.func40, c40_is⟩, ⟨⟨_, Tryz.func72, c72_is⟩, trivial, trivial⟩, ⟨⟨_, Tryz.func104, c104_is⟩, trivial, trivial⟩⟩, ⟨⟨_, Tryz.func56, c56_is⟩, ⟨⟨_, Tryz.func88, c88_is⟩,
    trivial, trivial⟩, ⟨⟨_, Tryz.func120, c120_is⟩, trivial, trivial⟩⟩⟩⟩, ⟨⟨_, Tryz.func12, c12_is⟩, ⟨⟨_, Tryz.func20, c20_is⟩, ⟨⟨_, Tryz.func36, c36_is⟩, ⟨⟨_, Tryz.func68, c68_is⟩,
    ⟨⟨_, Tryz.func132, c132_is⟩, trivial, trivial⟩, trivial⟩, ⟨⟨_, Tryz.func100, c100_is⟩, trivial, trivial⟩⟩, ⟨⟨⟨_, Tryz.func84, c84_is⟩, trivial, trivial⟩, ⟨⟨_, Tryz.func116,
    c116_is⟩, trivial, trivial⟩⟩⟩, ⟨⟨_, Tryz.func28, c28_is⟩, ⟨⟨_, Tryz.func44, c44_is⟩, ⟨⟨_, Tryz.func76, c76_is⟩, trivial, trivial⟩, ⟨⟨_, Tryz.func108, c108_is⟩, trivial, trivial⟩⟩,
    ⟨⟨_, Tryz.func60, c60_is⟩, ⟨⟨_, Tryz.func92, c92_is⟩, trivial, trivial⟩, ⟨⟨_, Tryz.func124, c124_is⟩, trivial, trivial⟩⟩⟩⟩⟩, ⟨⟨_, Tryz.func6, c6_is⟩, ⟨⟨_, Tryz.func10, c10_is⟩,
    ⟨⟨_, Tryz.func18, c18_is⟩, ⟨⟨_, Tryz.func34, c34_is⟩, ⟨⟨_, Tryz.func66, c66_is⟩, ⟨⟨_, Tryz.func130, c130_is⟩, trivial, trivial⟩, trivial⟩, ⟨⟨_, Tryz.func98, c98_is⟩, trivial,
    trivial⟩⟩, ⟨⟨_, Tryz.func50, c50_is⟩, ⟨⟨_, Tryz.func82, c82_is⟩, trivial, trivial⟩, ⟨⟨_, Tryz.func114, c114_is⟩, trivial, trivial⟩⟩⟩, ⟨⟨_, Tryz.func26, c26_is⟩, ⟨⟨_, Tryz.func42,
    c42_is⟩, ⟨⟨_, Tryz.func74, c74_is⟩, trivial, trivial⟩, ⟨⟨_, Tryz.func106, c106_is⟩, trivial, trivial⟩⟩, ⟨⟨_, Tryz.func58, c58_is⟩, ⟨⟨_, Tryz.func90, c90_is⟩, trivial, trivial⟩,
    ⟨⟨_, Tryz.func122, c122_is⟩, trivial, trivial⟩⟩⟩⟩, ⟨⟨_, Tryz.func14, c14_is⟩, ⟨⟨⟨_, Tryz.func38, c38_is⟩, ⟨⟨_, Tryz.func70, c70_is⟩, ⟨⟨_, Tryz.func134, c134_is⟩, trivial,
    trivial⟩, trivial⟩, ⟨⟨_, Tryz.func102, c102_is⟩, trivial, trivial⟩⟩, ⟨⟨_, Tryz.func54, c54_is⟩, ⟨⟨_, Tryz.func86, c86_is⟩, trivial, trivial⟩, ⟨⟨_, Tryz.func118, c118_is⟩, trivial,
    trivial⟩⟩⟩, ⟨⟨_, Tryz.func30, c30_is⟩, ⟨⟨_, Tryz.func46, c46_is⟩, ⟨⟨_, Tryz.func78, c78_is⟩, trivial, trivial⟩, ⟨⟨_, Tryz.func110, c110_is⟩, trivial, trivial⟩⟩, ⟨⟨_, Tryz.func62,
    c62_is⟩, ⟨⟨_, Tryz.func94, c94_is⟩, trivial, trivial⟩, ⟨⟨_, Tryz.func126, c126_is⟩, trivial, trivial⟩⟩⟩⟩⟩⟩⟩

theorem env_ok : EnvOK Tryz.prog env := fun f af h => by
  have := Tr.each_get table 0 1 table_each f af h
  rw [Nat.zero_add, Nat.one_mul] at this
  exact this

theorem saysTrue_spec {x : Option (AT × AH)} (h : saysTrue x = true) : ∃ H, x = some (.v (.c (.bool true)), H) := by
  unfold saysTrue at h
  split at h
  · exact ⟨_, rfl⟩
  · cases h

theorem fixed_true : saysTrue (evF env 3000 3 [] ⟨.nil, 0, []⟩) = true := by
  have h3 : env 3 = some c3 := rfl
  rw [evF_finish h3]
  have h1 := evTo_ev 20 2980 c3.code .nil ⟨.nil, 0, []⟩ stage1
  have h2 := evTo_ev 1 2979 (restOf 20 c3.code) t20 ⟨m20, 374, []⟩ stage2
  have h : ev env 3000 c3.code .nil ⟨.nil, 0, []⟩ = ev env 2979 (restOf 1 (restOf 20 c3.code)) t21 ⟨m21, 776, []⟩ := h1.trans h2
  rw [h]
  exact stage3

/-- The law answers true, and what was there is as it was. -/
theorem fixed_any (w : World) : Calls Tryz.prog 3 #[] w fun e w' => e = .returned (.bool true) ∧ w'.os = w.os ∧ w'.tape = w.tape ∧ w'.output = w.output ∧ w.heap.size ≤ w'.heap.size ∧ ∀ c, c < w.heap.size → w'.heap[c]? = w.heap[c]? := by
  obtain ⟨H, hH⟩ := saysTrue_spec fixed_true
  refine (evF_calls env_ok mixed hH w).mono fun e w' ⟨v, ρ', h1, h2, h3⟩ => ⟨?_, h3⟩
  rw [h1, show v = .bool true from h2]
end Go.Proofs.YtfgkhpoibfbnkaaGreat
