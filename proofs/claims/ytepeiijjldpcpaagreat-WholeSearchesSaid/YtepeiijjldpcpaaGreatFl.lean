/- How near floats lie to the numbers that they are written for. No conditions.
-/
import GoSem.Step
set_option linter.all false
namespace Go.Fl
open Ieee

def p2 (p : Int) : Rat := (2 : Rat) ^ p

theorem p2_add (a b : Int) : p2 (a + b) = p2 a * p2 b := Rat.zpow_add (by decide) a b
theorem p2_pos (a : Int) : 0 < p2 a := Rat.zpow_pos rfl
theorem p2_nat (n : Nat) : p2 (n : Int) = ((2 ^ n : Nat) : Rat) := by
  unfold p2
  rw [Rat.zpow_natCast]
  simp
theorem p2_mono {a b : Int} (h : a ≤ b) : p2 a ≤ p2 b := by
  obtain ⟨n, hn⟩ := Int.le.dest h
  rw [← hn, p2_add, p2_nat]
  have h1 : (1 : Rat) ≤ ((2 ^ n : Nat) : Rat) := by
    have : 1 ≤ 2 ^ n := Nat.one_le_two_pow
    exact_mod_cast this
  have := Rat.mul_le_mul_of_nonneg_left h1 (Rat.le_of_lt (p2_pos a))
  grind

/-- To the nearest whole number. -/
theorem cut_near (neg : Bool) (n drop : Nat) : 2 * (Toward.even.cut neg n drop * 2 ^ drop) ≤ 2 * n + 2 ^ drop ∧ 2 * n ≤ 2 * (Toward.even.cut neg n drop * 2 ^ drop) + 2 ^ drop := by
  unfold Toward.cut
  simp only [Nat.shiftLeft_eq, Nat.one_mul]
  by_cases h : drop ≤ n.log2 + 2
  · rw [Nat.min_eq_left h]
    have hg : 0 < 2 ^ drop := Nat.two_pow_pos drop
    generalize 2 ^ drop = g at hg ⊢
    have hd : n = g * (n / g) + n % g := (Nat.div_add_mod n g).symm
    have hm : n % g < g := Nat.mod_lt n hg
    generalize n / g = q at hd ⊢
    generalize n % g = r at hd hm ⊢
    subst hd
    by_cases h1 : g < 2 * r
    · simp only [h1, decide_true, Bool.true_or, Bool.toNat_true]
      rw [Nat.add_mul, Nat.mul_comm q g]
      omega
    · simp only [h1, decide_false, Bool.false_or]
      by_cases h2 : g = 2 * r
      · rcases Nat.mod_two_eq_zero_or_one q with h3 | h3
        · simp [h2, h3]
          rw [Nat.mul_comm q (2 * r)]
          omega
        · simp [h2, h3]
          rw [Nat.add_mul, Nat.mul_comm q (2 * r)]
          omega
      · have h4 : (g == 2 * r) = false := by simpa using h2
        simp only [h4, Bool.false_and, Bool.toNat_false, Nat.add_zero]
        rw [Nat.mul_comm q g]
        omega
  · have h' : n.log2 + 2 ≤ drop := by omega
    rw [Nat.min_eq_right h']
    have h1 : n < 2 ^ (n.log2 + 1) := Nat.lt_log2_self
    have h2 : 2 ^ (n.log2 + 2) = 2 * 2 ^ (n.log2 + 1) := by rw [show n.log2 + 2 = (n.log2 + 1) + 1 from rfl, Nat.pow_succ, Nat.mul_comm]
    have h3 : 2 ^ (n.log2 + 2) ≤ 2 ^ drop := Nat.pow_le_pow_right (by decide) h'
    have h4 : n / 2 ^ (n.log2 + 2) = 0 := Nat.div_eq_of_lt (by omega)
    have h5 : n % 2 ^ (n.log2 + 2) = n := Nat.mod_eq_of_lt (by omega)
    rw [h4, h5]
    have h6 : ¬ 2 ^ (n.log2 + 2) < 2 * n := by omega
    have h7 : (2 ^ (n.log2 + 2) == 2 * n) = false := by simp; omega
    simp only [h6, decide_false, h7, Bool.false_and, Bool.or_false, Bool.toNat_false, Nat.add_zero, Nat.zero_mul, Nat.mul_zero]
    omega

/-- What a word stands for, where it is a number. -/
def val (n : Nat) : Option Rat :=
  match double.read n with
  | .number s m p => some ((if s then -1 else 1) * (m : Rat) * p2 p)
  | _ => none

theorem consts : double.fractionBits = 52 ∧ double.binade = 2 ^ 52 ∧ double.leastPlace = -1074 ∧ double.infRung = 2047 * 2 ^ 52 ∧ double.signWeight = 2 ^ 63 := by
  refine ⟨rfl, rfl, by decide, rfl, rfl⟩

/-- A rung read back. -/
theorem read_word (neg : Bool) (d kept : Nat) (h1 : kept ≤ 2 ^ 53) (h2 : 1 ≤ d → 2 ^ 52 ≤ kept) (h3 : d * 2 ^ 52 + kept < 2047 * 2 ^ 52) :
    val (double.word neg (d * 2 ^ 52 + kept)) = some ((if neg then -1 else 1) * (kept : Rat) * p2 (-1074 + d)) := by
  obtain ⟨c1, c2, c3, c4, c5⟩ := consts
  have key : ∀ R : Nat, R < 2047 * 2 ^ 52 → double.read (double.word neg R) = if R < 2 ^ 52 then .number neg R (-1074) else .number neg (2 ^ 52 + R % 2 ^ 52) (-1074 + (R / 2 ^ 52 - 1 : Nat)) := fun R hR => by
    have hneg : ((double.word neg R) / 2 ^ 63 % 2 == 1) = neg ∧ (double.word neg R) % 2 ^ 63 = R := by
      unfold Format.word
      rw [c5]
      cases neg
      · simp only [Bool.false_eq_true, if_false]
        have : R / 2 ^ 63 = 0 := Nat.div_eq_of_lt (by omega)
        rw [this]
        exact ⟨rfl, Nat.mod_eq_of_lt (by omega)⟩
      · simp only [if_true]
        have : (2 ^ 63 + R) / 2 ^ 63 = 1 := by omega
        rw [this]
        exact ⟨rfl, by omega⟩
    unfold Format.read
    simp only [c2, c3, c4, c5, hneg.1, hneg.2, hR, if_true]
  unfold val
  rw [key _ h3]
  by_cases hs : d * 2 ^ 52 + kept < 2 ^ 52
  · rw [if_pos hs]
    have hd : d = 0 := by
      rcases Nat.eq_zero_or_pos d with h | h
      · exact h
      · omega
    subst hd
    simp
  · rw [if_neg hs]
    simp only []
    by_cases hk : kept = 2 ^ 53
    · subst hk
      have e1 : (d * 2 ^ 52 + 2 ^ 53) % 2 ^ 52 = 0 := by omega
      have e2 : (d * 2 ^ 52 + 2 ^ 53) / 2 ^ 52 - 1 = d + 1 := by omega
      rw [e1, e2]
      have e3 : (-1074 : Int) + ((d + 1 : Nat) : Int) = (-1074 + (d : Int)) + 1 := by omega
      rw [e3, p2_add]
      have e4 : p2 1 = 2 := by
        have := p2_nat 1
        simpa using this
      rw [e4]
      apply congrArg some
      have e5 : ((2 ^ 52 + 0 : Nat) : Rat) * 2 = ((2 ^ 53 : Nat) : Rat) := by
        have : (2 ^ 52 + 0) * 2 = 2 ^ 53 := by omega
        rw [← this, Rat.natCast_mul]
        rfl
      rw [← e5]
      generalize ((2 ^ 52 + 0 : Nat) : Rat) = u
      generalize p2 (-1074 + (d : Int)) = v
      generalize (if neg = true then (-1 : Rat) else 1) = t
      rw [Rat.mul_assoc, Rat.mul_assoc, Rat.mul_assoc, Rat.mul_comm v 2]
    · by_cases hk2 : kept < 2 ^ 52
      · have hd : d = 0 := by
          rcases Nat.eq_zero_or_pos d with h | h
          · exact h
          · have := h2 h; omega
        subst hd
        omega
      · have e1 : 2 ^ 52 + (d * 2 ^ 52 + kept) % 2 ^ 52 = kept := by omega
        have e2 : (d * 2 ^ 52 + kept) / 2 ^ 52 - 1 = d := by omega
        rw [e1, e2]
end Go.Fl

namespace Go.Fl
open Ieee

theorem p2_lt {a b : Int} (h : p2 a ≤ p2 b) : a ≤ b := by
  by_cases h' : b < a
  · exfalso
    have h1 : p2 (b + 1) ≤ p2 a := p2_mono h'
    rw [p2_add] at h1
    have e4 : p2 1 = 2 := by
      have := p2_nat 1
      simpa using this
    rw [e4] at h1
    have := p2_pos b
    grind
  · omega

theorem cast_le {x y : Nat} (h : x ≤ y) : (x : Rat) ≤ (y : Rat) := by exact_mod_cast h

/-- What rounding may lose. -/
def loss (x : Rat) : Rat := p2 (-53) * x + p2 (-1075)

theorem half (a : Int) : p2 a = 2 * p2 (a - 1) := by
  have h : a = (a - 1) + 1 := by omega
  rw [h, p2_add]
  have e4 : p2 1 = 2 := by
    have := p2_nat 1
    simpa using this
  rw [e4, ← h]
  grind

theorem near_spec (neg : Bool) (mag : Nat) (place : Int) (hb : (mag : Rat) * p2 place ≤ p2 1000) :
    ∃ y : Rat, 0 ≤ y ∧ val (double.nearest neg mag place) = some ((if neg then -1 else 1) * y) ∧ y ≤ (mag : Rat) * p2 place + loss ((mag : Rat) * p2 place) ∧ (mag : Rat) * p2 place ≤ y + loss ((mag : Rat) * p2 place) := by
  obtain ⟨c1, c2, c3, c4, c5⟩ := consts
  have hp53 := p2_pos (-53)
  have hp1075 := p2_pos (-1075)
  by_cases hm : mag = 0
  · subst hm
    refine ⟨0, Rat.le_refl, ?_, ?_, ?_⟩
    · have := read_word neg 0 0 (by omega) (by omega) (by omega)
      simp only [Format.nearest, if_true, Nat.zero_mul, Nat.add_zero] at this ⊢
      rw [this]
      simp
    · unfold loss; simp; grind
    · unfold loss; simp; grind
  · have hL1 := Nat.log2_self_le hm
    have hL2 : mag < 2 ^ (mag.log2 + 1) := Nat.lt_log2_self
    generalize hLd : mag.log2 = L at hL1 hL2
    generalize hlast : max (place + (L : Int) - 52) (-1074) = last
    have hl1 : place + (L : Int) - 52 ≤ last := by omega
    have hl2 : -1074 ≤ last := by omega
    have hl3 : last = -1074 ∨ last = place + (L : Int) - 52 := by omega
    generalize ha : (place - last).toNat = a
    generalize hbb : (last - place).toNat = b
    have hab : place + (b : Int) = last + (a : Int) := by omega
    have hcut := cut_near neg (mag <<< a) b
    generalize hk : Toward.even.cut neg (mag <<< a) b = kept at hcut
    rw [Nat.shiftLeft_eq] at hcut
    have hup : mag * 2 ^ a < 2 ^ 53 * 2 ^ b := by
      have h1 : mag * 2 ^ a < 2 ^ (L + 1) * 2 ^ a := Nat.mul_lt_mul_of_pos_right hL2 (Nat.two_pow_pos a)
      rw [← Nat.pow_add] at h1 ⊢
      exact Nat.lt_of_lt_of_le h1 (Nat.pow_le_pow_right (by decide) (by omega))
    have hk53 : kept ≤ 2 ^ 53 := by
      rcases Nat.lt_or_ge (2 ^ 53) kept with h | h
      · exfalso
        have h1 : (2 ^ 53 + 1) * 2 ^ b ≤ kept * 2 ^ b := Nat.mul_le_mul_right _ h
        have h2 : 0 < 2 ^ b := Nat.two_pow_pos b
        generalize 2 ^ b = B at *
        rw [Nat.add_mul] at h1
        omega
      · exact h
    have hk52 : -1074 < last → 2 ^ 52 ≤ kept := fun hlt => by
      have hle : last = place + (L : Int) - 52 := by omega
      have h1 : 2 ^ L * 2 ^ a ≤ mag * 2 ^ a := Nat.mul_le_mul_right _ hL1
      rw [← Nat.pow_add, show L + a = 52 + b by omega, Nat.pow_add] at h1
      rcases Nat.lt_or_ge kept (2 ^ 52) with h | h
      · exfalso
        have h2 : (kept + 1) * 2 ^ b ≤ 2 ^ 52 * 2 ^ b := Nat.mul_le_mul_right _ h
        have h3 : 0 < 2 ^ b := Nat.two_pow_pos b
        generalize 2 ^ b = B at *
        rw [Nat.add_mul] at h2
        omega
      · exact h
    have hplace : place + (L : Int) ≤ 1000 := by
      apply p2_lt
      refine Rat.le_trans ?_ hb
      rw [p2_add, Rat.mul_comm, p2_nat]
      apply Rat.mul_le_mul_of_nonneg_right _ (Rat.le_of_lt (p2_pos place))
      exact cast_le hL1
    have hd : (last - (-1074)).toNat ≤ 2022 := by omega
    have hdl : (-1074 : Int) + ((last - (-1074)).toNat : Int) = last := by omega
    have hd1 : 1 ≤ (last - (-1074)).toNat → 2 ^ 52 ≤ kept := fun h => hk52 (by omega)
    have hrung : (last - (-1074)).toNat * 2 ^ 52 + kept < 2047 * 2 ^ 52 := by
      have : (last - (-1074)).toNat * 2 ^ 52 ≤ 2022 * 2 ^ 52 := Nat.mul_le_mul_right _ hd
      omega
    have hread := read_word neg (last - (-1074)).toNat kept hk53 hd1 hrung
    have hnear : double.nearest neg mag place = double.word neg ((last - (-1074)).toNat * 2 ^ 52 + kept) := by
      unfold Format.nearest
      rw [if_neg hm]
      simp only [c1, c2, c3, c4, hLd]
      have : (((52 : Nat) : Int)) = 52 := rfl
      rw [this, hlast, ha, hbb, hk, Nat.min_eq_left (by omega)]
    rw [hnear, hread, hdl]
    -- in rationals
    have hq : ∃ q : Rat, 0 < q ∧ p2 last = q * ((2 ^ b : Nat) : Rat) ∧ p2 place = q * ((2 ^ a : Nat) : Rat) := by
      refine ⟨p2 (last - b), p2_pos _, ?_, ?_⟩
      · rw [← p2_nat, ← p2_add]; apply congrArg p2; omega
      · rw [← p2_nat, ← p2_add]; apply congrArg p2; omega
    obtain ⟨q, hq0, hq1, hq2⟩ := hq
    have r1 : (2 : Rat) * ((kept : Rat) * ((2 ^ b : Nat) : Rat)) ≤ 2 * ((mag : Rat) * ((2 ^ a : Nat) : Rat)) + ((2 ^ b : Nat) : Rat) := by
      have := cast_le hcut.1
      rw [Rat.natCast_add, Rat.natCast_mul, Rat.natCast_mul, Rat.natCast_mul, Rat.natCast_mul] at this
      exact this
    have r2 : (2 : Rat) * ((mag : Rat) * ((2 ^ a : Nat) : Rat)) ≤ 2 * ((kept : Rat) * ((2 ^ b : Nat) : Rat)) + ((2 ^ b : Nat) : Rat) := by
      have := cast_le hcut.2
      rw [Rat.natCast_add, Rat.natCast_mul, Rat.natCast_mul, Rat.natCast_mul, Rat.natCast_mul] at this
      exact this
    have s1 := Rat.mul_le_mul_of_nonneg_right r1 (Rat.le_of_lt hq0)
    have s2 := Rat.mul_le_mul_of_nonneg_right r2 (Rat.le_of_lt hq0)
    have hloss : p2 last ≤ 2 * loss ((mag : Rat) * p2 place) := by
      have h53 : p2 (-52) = 2 * p2 (-53) := half (-52)
      have h75 : p2 (-1074) = 2 * p2 (-1075) := half (-1074)
      have hx : 0 ≤ (mag : Rat) * p2 place := Rat.mul_nonneg (cast_le (Nat.zero_le mag)) (Rat.le_of_lt (p2_pos place))
      have hx2 := Rat.mul_nonneg (Rat.le_of_lt hp53) hx
      unfold loss
      rcases hl3 with h | h
      · rw [h, h75]
        grind
      · have e : p2 last = p2 (-52) * (((2 ^ L : Nat) : Rat) * p2 place) := by
          rw [h, ← p2_nat, ← p2_add, ← p2_add]
          apply congrArg p2
          omega
        have hmul : ((2 ^ L : Nat) : Rat) * p2 place ≤ (mag : Rat) * p2 place := Rat.mul_le_mul_of_nonneg_right (cast_le hL1) (Rat.le_of_lt (p2_pos place))
        have := Rat.mul_le_mul_of_nonneg_left hmul (Rat.le_of_lt (p2_pos (-52)))
        rw [e]
        rw [h53] at this ⊢
        grind
    refine ⟨(kept : Rat) * p2 last, Rat.mul_nonneg (cast_le (Nat.zero_le kept)) (Rat.le_of_lt (p2_pos last)), by rw [Rat.mul_assoc], ?_, ?_⟩
    · rw [hq1, hq2] at *
      generalize ((2 ^ b : Nat) : Rat) = B at *
      generalize ((2 ^ a : Nat) : Rat) = A at *
      grind
    · rw [hq1, hq2] at *
      generalize ((2 ^ b : Nat) : Rat) = B at *
      generalize ((2 ^ a : Nat) : Rat) = A at *
      grind
end Go.Fl

namespace Go.Fl
open Ieee

def ab (x : Rat) : Rat := if 0 ≤ x then x else -x

theorem ab_nonneg (x : Rat) : 0 ≤ ab x := by unfold ab; split <;> grind
theorem ab_le {x b : Rat} (h1 : x ≤ b) (h2 : -x ≤ b) : ab x ≤ b := by unfold ab; split <;> grind
theorem le_ab (x : Rat) : x ≤ ab x ∧ -x ≤ ab x := by unfold ab; split <;> grind
theorem ab_mul (x y : Rat) : ab (x * y) = ab x * ab y := by
  unfold ab
  by_cases h1 : 0 ≤ x
  · by_cases h2 : 0 ≤ y
    · have := Rat.mul_nonneg h1 h2
      simp [h1, h2, this]
    · have h3 : 0 ≤ -y := by grind
      have := Rat.mul_nonneg h1 h3
      by_cases h4 : 0 ≤ x * y
      · simp only [h1, h2, h4, if_true, if_false]; grind
      · simp only [h1, h2, h4, if_true, if_false]; grind
  · have h3 : 0 ≤ -x := by grind
    by_cases h2 : 0 ≤ y
    · have := Rat.mul_nonneg h3 h2
      by_cases h4 : 0 ≤ x * y
      · simp only [h1, h2, h4, if_true, if_false]; grind
      · simp only [h1, h2, h4, if_true, if_false]; grind
    · have h5 : 0 ≤ -y := by grind
      have := Rat.mul_nonneg h3 h5
      have h4 : 0 ≤ x * y := by grind
      simp only [h1, h2, h4, if_true, if_false]; grind

/-- As near as rounding leaves it. -/
def Near (z w : Rat) : Prop := z ≤ w + loss (ab w) ∧ w ≤ z + loss (ab w)

def sg (s : Bool) : Rat := if s then -1 else 1

theorem val_of {n : Nat} {X : Rat} (h : val n = some X) : ∃ s m p, double.read n = .number s m p ∧ X = sg s * (m : Rat) * p2 p := by
  unfold val at h
  split at h
  · rename_i s m p hr
    simp only [Option.some.injEq] at h
    exact ⟨s, m, p, hr, h.symm⟩
  · cases h

/-- What is written of a number. -/
theorem write_spec (neg : Bool) (mag : Nat) (place : Int) {W : Rat} (hW : W = sg neg * (mag : Rat) * p2 place) (hb : ab W ≤ p2 1000) :
    ∃ Z, val (double.write (.number neg mag place)) = some Z ∧ Near Z W := by
  have hx : 0 ≤ (mag : Rat) * p2 place := Rat.mul_nonneg (cast_le (Nat.zero_le mag)) (Rat.le_of_lt (p2_pos place))
  have hab : ab W = (mag : Rat) * p2 place := by
    rw [hW, Rat.mul_assoc, ab_mul]
    have h1 : ab (sg neg) = 1 := by cases neg <;> simp [ab, sg] <;> decide
    have h2 : ab ((mag : Rat) * p2 place) = (mag : Rat) * p2 place := by
      generalize (mag : Rat) * p2 place = u at hx
      simp [ab, hx]
    rw [h1, h2]
    grind
  obtain ⟨y, hy0, hy, g1, g2⟩ := near_spec neg mag place (hab ▸ hb)
  refine ⟨_, hy, ?_⟩
  unfold Near
  rw [hab, hW]
  generalize loss ((mag : Rat) * p2 place) = l at *
  rw [Rat.mul_assoc]
  generalize (mag : Rat) * p2 place = u at *
  cases neg <;> simp [sg] <;> grind

theorem signed_val (s : Bool) (m up : Nat) : ((signed s m up : Int) : Rat) = sg s * (m : Rat) * ((2 ^ up : Nat) : Rat) := by
  unfold signed sg
  rw [Nat.shiftLeft_eq]
  cases s
  · simp only [Bool.false_eq_true, if_false]
    rw [Rat.one_mul, ← Rat.natCast_mul]
    rfl
  · simp only [if_true]
    rw [Rat.intCast_neg, Rat.mul_assoc, ← Rat.natCast_mul]
    have : (((m * 2 ^ up : Nat) : Int) : Rat) = ((m * 2 ^ up : Nat) : Rat) := rfl
    rw [this]
    generalize ((m * 2 ^ up : Nat) : Rat) = u
    grind

theorem sum_spec {a b : Datum} {s t : Bool} {m n : Nat} {i j : Int} (ha : a = .number s m i) (hb : b = .number t n j) {X Y : Rat} (hX : X = sg s * (m : Rat) * p2 i) (hY : Y = sg t * (n : Rat) * p2 j) (hbd : ab (X + Y) ≤ p2 1000) :
    ∃ r Z, (a.sum b).map double.write = some r ∧ val r = some Z ∧ Near Z (X + Y) := by
  subst ha
  subst hb
  simp only [Datum.sum, Option.map_some]
  generalize hbase : min i j = base
  have h1 : i = base + ((i - base).toNat : Int) := by omega
  have h2 : j = base + ((j - base).toNat : Int) := by omega
  generalize (i - base).toNat = u at *
  generalize (j - base).toNat = v at *
  have hsum : (((signed s m u + signed t n v : Int)) : Rat) * p2 base = X + Y := by
    rw [Rat.intCast_add, signed_val, signed_val, hX, hY, h1, h2, p2_add, p2_add, p2_nat, p2_nat]
    generalize p2 base = pb
    generalize ((2 ^ u : Nat) : Rat) = A
    generalize ((2 ^ v : Nat) : Rat) = B
    grind
  generalize htot : signed s m u + signed t n v = tot at *
  have hw : X + Y = sg (if tot = 0 then s && t else decide (tot < 0)) * (tot.natAbs : Rat) * p2 base := by
    rw [← hsum]
    by_cases h0 : tot = 0
    · subst h0
      simp
    · simp only [h0, if_false]
      by_cases hn : tot < 0
      · have e : (tot : Rat) = -((tot.natAbs : Nat) : Rat) := by
          have : tot = -((tot.natAbs : Nat) : Int) := by omega
          have h := congrArg (fun z : Int => (z : Rat)) this
          simp only [Rat.intCast_neg] at h
          exact h
        rw [e]
        simp only [hn, decide_true, sg, if_true]
        generalize ((tot.natAbs : Nat) : Rat) = u
        grind
      · have e : (tot : Rat) = ((tot.natAbs : Nat) : Rat) := by
          have : tot = ((tot.natAbs : Nat) : Int) := by omega
          exact congrArg (fun z : Int => (z : Rat)) this
        rw [e]
        simp only [hn, decide_false, sg, Bool.false_eq_true, if_false]
        generalize ((tot.natAbs : Nat) : Rat) = u
        grind
  obtain ⟨Z, hZ, hN⟩ := write_spec (if tot = 0 then s && t else decide (tot < 0)) tot.natAbs base hw hbd
  exact ⟨_, Z, rfl, hZ, hN⟩

theorem add_spec {x y : Nat} {X Y : Rat} (hx : val x = some X) (hy : val y = some Y) (hb : ab (X + Y) ≤ p2 1000) : ∃ r Z, double.add x y = some r ∧ val r = some Z ∧ Near Z (X + Y) := by
  obtain ⟨s, m, i, h1, h2⟩ := val_of hx
  obtain ⟨t, n, j, h3, h4⟩ := val_of hy
  exact sum_spec h1 h3 h2 h4 hb

theorem sub_spec {x y : Nat} {X Y : Rat} (hx : val x = some X) (hy : val y = some Y) (hb : ab (X - Y) ≤ p2 1000) : ∃ r Z, double.sub x y = some r ∧ val r = some Z ∧ Near Z (X - Y) := by
  obtain ⟨s, m, i, h1, h2⟩ := val_of hx
  obtain ⟨t, n, j, h3, h4⟩ := val_of hy
  have h5 : (double.read y).opposite = .number (!t) n j := by rw [h3]; rfl
  have h6 : -Y = sg (!t) * (n : Rat) * p2 j := by
    rw [h4]
    cases t <;> simp [sg] <;> grind
  have e : X - Y = X + -Y := by grind
  rw [e] at hb ⊢
  exact sum_spec h1 h5 h2 h6 hb

theorem mul_spec {x y : Nat} {X Y : Rat} (hx : val x = some X) (hy : val y = some Y) (hb : ab (X * Y) ≤ p2 1000) : ∃ r Z, double.mul x y = some r ∧ val r = some Z ∧ Near Z (X * Y) := by
  obtain ⟨s, m, i, h1, h2⟩ := val_of hx
  obtain ⟨t, n, j, h3, h4⟩ := val_of hy
  have hw : X * Y = sg (s ^^ t) * ((m * n : Nat) : Rat) * p2 (i + j) := by
    rw [h2, h4, p2_add, Rat.natCast_mul]
    generalize p2 i = a
    generalize p2 j = b
    cases s <;> cases t <;> simp [sg] <;> grind
  obtain ⟨Z, hZ, hN⟩ := write_spec (s ^^ t) (m * n) (i + j) hw hb
  refine ⟨_, Z, ?_, hZ, hN⟩
  unfold Format.mul
  rw [h1, h3]
  rfl
end Go.Fl

namespace Go.Fl
open Ieee

/-- What is said to be lost, at most: more than is. -/
def l2 (x : Rat) : Rat := p2 (-50) * x + p2 (-1000)

def Nr (z w : Rat) : Prop := z ≤ w + l2 (ab w) ∧ w ≤ z + l2 (ab w)

theorem small_le : p2 (-53) ≤ p2 (-52) ∧ p2 (-1075) ≤ p2 (-1002) := ⟨p2_mono (by omega), p2_mono (by omega)⟩

theorem quarter_pows : p2 (-50) = 4 * p2 (-52) ∧ p2 (-1000) = 4 * p2 (-1002) ∧ p2 (-52) = 4 * p2 (-54) := by
  have h1 := half (-50)
  have h2 := half (-51)
  have h3 := half (-1000)
  have h4 := half (-1001)
  have h5 := half (-52)
  have h6 := half (-53)
  simp only [Int.reduceSub] at h1 h2 h3 h4 h5 h6
  refine ⟨?_, ?_, ?_⟩ <;> grind

theorem Near.nr {z w : Rat} (h : Near z w) : Nr z w := by
  obtain ⟨h1, h2⟩ := h
  obtain ⟨s1, s2⟩ := small_le
  obtain ⟨q1, q2, _⟩ := quarter_pows
  have ha := ab_nonneg w
  have hm := Rat.mul_le_mul_of_nonneg_right s1 ha
  have hp := Rat.mul_nonneg (Rat.le_of_lt (p2_pos (-52))) ha
  have hp2 := p2_pos (-1002)
  have hl : loss (ab w) ≤ l2 (ab w) := by
    unfold loss l2
    rw [q1, q2]
    grind
  constructor <;> grind

/-- A number nearly written: what it is for, and what is written, stand near. -/
theorem nearly {s : Bool} {E M y : Rat} (hE : 0 ≤ E) (h1 : M ≤ E + p2 (-54) * E) (h2 : E ≤ M + p2 (-54) * E) (g1 : y ≤ M + loss M) (g2 : M ≤ y + loss M) : Nr (sg s * y) (sg s * E) := by
  obtain ⟨s1, s2⟩ := small_le
  obtain ⟨q1, q2, q3⟩ := quarter_pows
  have hab : ab (sg s * E) = E := by
    rw [ab_mul]
    have h1 : ab (sg s) = 1 := by cases s <;> simp [ab, sg] <;> decide
    have h2 : ab E = E := by simp [ab, hE]
    rw [h1, h2]; grind
  have hp54 := p2_pos (-54)
  have hp52 := p2_pos (-52)
  have hp1 := p2_pos (-1002)
  have h54 : p2 (-54) ≤ 1 := by
    have := p2_mono (show (-54 : Int) ≤ 0 by omega)
    have e : p2 0 = 1 := by have := p2_nat 0; simpa using this
    rw [e] at this; exact this
  have hE54 := Rat.mul_nonneg (Rat.le_of_lt hp54) hE
  have hE1 : p2 (-54) * E ≤ E := by
    have := Rat.mul_le_mul_of_nonneg_right h54 hE
    grind
  have hM2 : M ≤ 2 * E := by grind
  have hl : loss M ≤ 2 * (p2 (-52) * E) + p2 (-1002) := by
    unfold loss
    have a1 := Rat.mul_le_mul_of_nonneg_left hM2 (Rat.le_of_lt (p2_pos (-53)))
    have a2 := Rat.mul_le_mul_of_nonneg_right s1 hE
    grind
  have hE52 := Rat.mul_nonneg (Rat.le_of_lt hp52) hE
  have k1 : y ≤ E + l2 E := by
    unfold l2
    rw [q1, q2, q3] at *
    grind
  have k2 : E ≤ y + l2 E := by
    unfold l2
    rw [q1, q2, q3] at *
    grind
  unfold Nr
  rw [hab]
  generalize l2 E = l at *
  cases s <;> simp [sg] <;> constructor <;> grind

theorem div_spec {x y : Nat} {X Y : Rat} (hx : val x = some X) (hy : val y = some Y) (h0 : Y ≠ 0) (hb : ab (X / Y) ≤ p2 999) : ∃ r Z, double.div x y = some r ∧ val r = some Z ∧ Nr Z (X / Y) := by
  obtain ⟨s, m, i, h1, h2⟩ := val_of hx
  obtain ⟨t, n, j, h3, h4⟩ := val_of hy
  have hn : n ≠ 0 := fun e => h0 (by rw [h4, e]; simp)
  have hn0 : (0 : Rat) < (n : Rat) := by
    have : 0 < n := Nat.pos_of_ne_zero hn
    exact_mod_cast this
  generalize hmore : 54 + n.log2 - m.log2 = more
  have hdiv : double.div x y = some (double.write (.number (s ^^ t) (2 * ((m <<< more) / n) + ((m <<< more) % n != 0).toNat) (i - j - more - 1))) := by
    unfold Format.div
    rw [h1, h3]
    simp only [Datum.quotient, hn, if_false, Option.map_some]
    have : double.fractionBits + 2 = 54 := rfl
    rw [this, hmore]
  rw [Nat.shiftLeft_eq] at hdiv
  generalize hD : m * 2 ^ more = D at hdiv
  -- the exact quotient's magnitude
  generalize hp : p2 (i - j - more - 1) = p at *
  have hp0 : 0 < p := hp ▸ p2_pos _
  have hE : ∃ E : Rat, E * (n : Rat) = 2 * (D : Rat) := ⟨2 * (D : Rat) / n, by grind⟩
  obtain ⟨E, hE⟩ := hE
  have hD0 : (0 : Rat) ≤ (D : Rat) := cast_le (Nat.zero_le D)
  have hE0 : 0 ≤ E := by
    have h : E = 2 * (D : Rat) * (n : Rat)⁻¹ := by grind
    rw [h]
    exact Rat.mul_nonneg (by grind) (Rat.le_of_lt (Rat.inv_pos.2 hn0))
  have hQ : X / Y = sg (s ^^ t) * (E * p) := by
    have e1 : p2 i = p2 j * p * 2 * ((2 ^ more : Nat) : Rat) := by
      have : i = j + (i - j - more - 1) + 1 + (more : Int) := by omega
      rw [this, p2_add, p2_add, p2_add, hp, p2_nat]
      have e4 : p2 1 = 2 := by
        have := p2_nat 1
        simpa using this
      rw [e4]
    have hDm : (D : Rat) = (m : Rat) * ((2 ^ more : Nat) : Rat) := by rw [← hD, Rat.natCast_mul]
    have hj := p2_pos j
    have hX : X = sg s * (E * (n : Rat) * p) * p2 j := by
      rw [h2, e1, hE, hDm]
      generalize ((2 ^ more : Nat) : Rat) = B
      generalize p2 j = pj
      grind
    have hYY : Y = sg t * (n : Rat) * p2 j := h4
    have hmul : (sg (s ^^ t) * (E * p)) * Y = X := by
      rw [hX, hYY]
      generalize p2 j = pj
      cases s <;> cases t <;> simp [sg] <;> grind
    rw [← hmul]
    exact Rat.mul_div_cancel h0
  -- how near the dividend's digits come
  have hdm : D = n * (D / n) + D % n := (Nat.div_add_mod D n).symm
  have hr : D % n < n := Nat.mod_lt D (Nat.pos_of_ne_zero hn)
  generalize D / n = q at *
  generalize D % n = rr at *
  have hdmR : (D : Rat) = (n : Rat) * (q : Rat) + (rr : Rat) := by
    have := congrArg (fun z : Nat => (z : Rat)) hdm
    simp only [Rat.natCast_add, Rat.natCast_mul] at this
    exact this
  have hrR : (rr : Rat) < (n : Rat) := by exact_mod_cast hr
  have hrR0 : (0 : Rat) ≤ (rr : Rat) := cast_le (Nat.zero_le rr)
  have hq54 : m ≠ 0 → ((2 ^ 53 : Nat) : Rat) ≤ (q : Rat) := fun hm => by
    apply cast_le
    have a1 := Nat.log2_self_le hm
    have a2 : n < 2 ^ (n.log2 + 1) := Nat.lt_log2_self
    have a3 : 2 ^ (54 + n.log2) ≤ D := by
      rw [← hD]
      refine Nat.le_trans ?_ (Nat.mul_le_mul_right _ a1)
      rw [← Nat.pow_add]
      exact Nat.pow_le_pow_right (by decide) (by omega)
    have a4 : 2 ^ (54 + n.log2) = 2 ^ 53 * 2 ^ (n.log2 + 1) := by rw [← Nat.pow_add]; exact congrArg (fun z => 2 ^ z) (by omega)
    rcases Nat.lt_or_ge q (2 ^ 53) with h | h
    · exfalso
      have b1 : n * q + rr < n * (q + 1) := by rw [Nat.mul_add]; omega
      have b2 : n * (q + 1) ≤ n * 2 ^ 53 := Nat.mul_le_mul_left n h
      have b3 : n * 2 ^ 53 < 2 ^ (n.log2 + 1) * 2 ^ 53 := Nat.mul_lt_mul_of_pos_right a2 (by decide)
      rw [Nat.mul_comm (2 ^ (n.log2 + 1)) (2 ^ 53), ← a4] at b3
      omega
    · exact h
  have hmag : ∃ M : Nat, (2 * q + (rr != 0).toNat) = M ∧ (M : Rat) ≤ E + p2 (-54) * E ∧ E ≤ (M : Rat) + p2 (-54) * E := by
    refine ⟨_, rfl, ?_⟩
    have e54 : p2 (-54) * ((2 ^ 53 : Nat) : Rat) * 2 = 1 := by
      have h := p2_add (-54) (53 : Nat)
      rw [p2_nat] at h
      have h2 := p2_add (-1) 1
      have e4 : p2 1 = 2 := by
        have := p2_nat 1
        simpa using this
      have e0 : p2 0 = 1 := by have := p2_nat 0; simpa using this
      have e5 : (-54 : Int) + (53 : Nat) = -1 := by omega
      have e6 : (-1 : Int) + 1 = 0 := by omega
      rw [e5] at h
      rw [e6, e0, e4] at h2
      rw [← h]
      exact h2.symm
    have hp54 := p2_pos (-54)
    have hpE := Rat.mul_nonneg (Rat.le_of_lt hp54) hE0
    by_cases hrr : rr = 0
    · subst hrr
      have hEq : E = 2 * (q : Rat) := by
        have : E * (n : Rat) = (2 * (q : Rat)) * (n : Rat) := by rw [hE, hdmR]; simp; grind
        have hne : (n : Rat) ≠ 0 := by grind
        grind
      simp only [bne_self_eq_false, Bool.toNat_false, Nat.add_zero]
      rw [Rat.natCast_mul]
      have : ((2 : Nat) : Rat) = 2 := rfl
      rw [this, ← hEq]
      constructor <;> grind
    · have hm : m ≠ 0 := fun e => by
        subst e
        simp at hD
        subst hD
        omega
      have hq := hq54 hm
      have hb' : (rr != 0) = true := by simpa using hrr
      simp only [hb', Bool.toNat_true]
      rw [Rat.natCast_add, Rat.natCast_mul]
      have c2 : ((2 : Nat) : Rat) = 2 := rfl
      have c1 : ((1 : Nat) : Rat) = 1 := rfl
      rw [c2, c1]
      have k1 : 2 * (q : Rat) ≤ E := by
        have : (2 * (q : Rat)) * (n : Rat) ≤ E * (n : Rat) := by rw [hE, hdmR]; grind
        exact Rat.le_of_mul_le_mul_right this hn0
      have k2 : E ≤ 2 * (q : Rat) + 2 := by
        have : E * (n : Rat) ≤ (2 * (q : Rat) + 2) * (n : Rat) := by rw [hE, hdmR]; grind
        exact Rat.le_of_mul_le_mul_right this hn0
      have k3 : 1 ≤ p2 (-54) * E := by
        have a1 := Rat.mul_le_mul_of_nonneg_left hq (Rat.le_of_lt hp54)
        have a2 := Rat.mul_le_mul_of_nonneg_left k1 (Rat.le_of_lt hp54)
        grind
      constructor <;> grind
  obtain ⟨M, hM, m1, m2⟩ := hmag
  rw [hM] at hdiv
  have hEp : 0 ≤ E * p := Rat.mul_nonneg hE0 (Rat.le_of_lt hp0)
  have n1 := Rat.mul_le_mul_of_nonneg_right m1 (Rat.le_of_lt hp0)
  have n2 := Rat.mul_le_mul_of_nonneg_right m2 (Rat.le_of_lt hp0)
  have hMb : (M : Rat) * p2 (i - j - more - 1) ≤ p2 1000 := by
    rw [hp]
    have e : ab (X / Y) = E * p := by
      rw [hQ, ab_mul]
      have h1 : ab (sg (s ^^ t)) = 1 := by generalize (s ^^ t) = z; cases z <;> simp [ab, sg] <;> decide
      have h2 : ab (E * p) = E * p := by generalize E * p = u at hEp; simp [ab, hEp]
      rw [h1, h2]; grind
    rw [e] at hb
    have h54 : p2 (-54) ≤ 1 := by
      have := p2_mono (show (-54 : Int) ≤ 0 by omega)
      have e : p2 0 = 1 := by have := p2_nat 0; simpa using this
      rw [e] at this; exact this
    have := Rat.mul_le_mul_of_nonneg_right h54 hEp
    have h99 := half 1000
    simp only [Int.reduceSub] at h99
    rw [h99]
    grind
  obtain ⟨y', hy0, hyv, g1, g2⟩ := near_spec (s ^^ t) M (i - j - more - 1) hMb
  rw [hp] at g1 g2
  refine ⟨_, _, hdiv, hyv, ?_⟩
  rw [hQ]
  exact nearly hEp (by grind) (by grind) g1 g2
end Go.Fl

namespace Go.Fl
open Ieee

theorem rootFrom_spec (n : Nat) : ∀ (todo root : Nat), root * root ≤ n → n < (root + 2 ^ todo) * (root + 2 ^ todo) →
    Datum.rootFrom n todo root * Datum.rootFrom n todo root ≤ n ∧ n < (Datum.rootFrom n todo root + 1) * (Datum.rootFrom n todo root + 1)
  | 0, root, h1, h2 => ⟨h1, h2⟩
  | todo + 1, root, h1, h2 => by
    unfold Datum.rootFrom
    simp only [Nat.shiftLeft_eq, Nat.one_mul]
    have e : root + 2 ^ todo + 2 ^ todo = root + 2 ^ (todo + 1) := by rw [Nat.pow_succ]; omega
    split
    · rename_i h
      exact rootFrom_spec n todo _ h (by rw [e]; exact h2)
    · rename_i h
      exact rootFrom_spec n todo root h1 (Nat.lt_of_not_le h)

theorem sqrt_spec {x : Nat} {X : Rat} (hx : val x = some X) (h1 : p2 (-2) ≤ X) (hb : X ≤ p2 1000) : ∃ r Z, double.sqrt x = some r ∧ val r = some Z ∧ 0 ≤ Z ∧ Z * Z ≤ X + p2 (-48) * X ∧ X ≤ Z * Z + p2 (-48) * X := by
  obtain ⟨s, m, i, h2, h3⟩ := val_of hx
  have hX0 : 0 < X := by have := p2_pos (-2); grind
  have hm : m ≠ 0 := fun e => by rw [h3, e] at hX0; simp at hX0
  have hm0 : (0 : Rat) < (m : Rat) := by
    have : 0 < m := Nat.pos_of_ne_zero hm
    exact_mod_cast this
  have hs : s = false := by
    cases s with
    | false => rfl
    | true =>
      exfalso
      have := Rat.mul_pos hm0 (p2_pos i)
      simp only [sg, if_true] at h3
      grind
  subst hs
  have hXm : X = (m : Rat) * p2 i := by rw [h3]; simp [sg]
  generalize hmore0 : 108 - m.log2 = more0
  generalize hmore : more0 + ((i - (more0 : Int)) % 2).toNat = more
  have heven : ∃ c : Int, i = c + c + (more : Int) ∧ (i - (more : Int)) / 2 - 1 = c - 1 := by
    refine ⟨(i - (more : Int)) / 2, ?_, rfl⟩
    omega
  obtain ⟨c, hc1, hc2⟩ := heven
  generalize hn : m * 2 ^ more = n
  generalize hw : Datum.rootFrom n (n.log2 / 2 + 1) 0 = w
  have hsq : double.sqrt x = some (double.write (.number false (2 * w + (w * w != n).toNat) (c - 1))) := by
    unfold Format.sqrt
    rw [h2]
    simp only [Datum.root, hm, if_false, Bool.false_eq_true, Option.map_some]
    have e : 2 * (double.fractionBits + 2) = 108 := rfl
    rw [e, hmore0]
    simp only [Nat.shiftLeft_eq]
    rw [hmore, hn, hw, hc2]
  have hn108 : 2 ^ 108 ≤ n := by
    rw [← hn]
    refine Nat.le_trans ?_ (Nat.mul_le_mul_right _ (Nat.log2_self_le hm))
    rw [← Nat.pow_add]
    exact Nat.pow_le_pow_right (by decide) (by omega)
  have hroot : w * w ≤ n ∧ n < (w + 1) * (w + 1) := by
    rw [← hw]
    apply rootFrom_spec
    · omega
    · rw [Nat.zero_add, ← Nat.pow_add]
      exact Nat.lt_of_lt_of_le Nat.lt_log2_self (Nat.pow_le_pow_right (by decide) (by omega))
  obtain ⟨w1, w2⟩ := hroot
  have hw54 : 2 ^ 54 ≤ w := by
    rcases Nat.lt_or_ge w (2 ^ 54) with h | h
    · exfalso
      have : (w + 1) * (w + 1) ≤ 2 ^ 54 * 2 ^ 54 := Nat.mul_le_mul h h
      rw [← Nat.pow_add] at this
      omega
    · exact h
  -- in rationals
  have e54 : p2 (-54) * ((2 ^ 54 : Nat) : Rat) = 1 := by
    have h := p2_add (-54) (54 : Nat)
    rw [p2_nat] at h
    have e0 : p2 0 = 1 := by have := p2_nat 0; simpa using this
    rw [← h, ← e0]
    exact congrArg p2 (by omega)
  have hW : ((2 ^ 54 : Nat) : Rat) ≤ (w : Rat) := cast_le hw54
  have hw0 : (0 : Rat) ≤ (w : Rat) := cast_le (Nat.zero_le w)
  have hp54 := p2_pos (-54)
  have one_le : 1 ≤ p2 (-54) * (w : Rat) := by
    have := Rat.mul_le_mul_of_nonneg_left hW (Rat.le_of_lt hp54)
    grind
  have w1R : (w : Rat) * (w : Rat) ≤ (n : Rat) := by
    have := cast_le w1
    rw [Rat.natCast_mul] at this
    exact this
  have w2R : (n : Rat) ≤ ((w : Rat) + 1) * ((w : Rat) + 1) := by
    have := cast_le (Nat.le_of_lt w2)
    rw [Rat.natCast_mul, Rat.natCast_add] at this
    exact this
  have hMag : ∃ M : Nat, 2 * w + (w * w != n).toNat = M ∧ 2 * (w : Rat) ≤ (M : Rat) ∧ (M : Rat) * (M : Rat) ≤ 4 * (n : Rat) + 4 * (w : Rat) + 1 ∧ 4 * (n : Rat) ≤ (M : Rat) * (M : Rat) + 4 * (w : Rat) + 3 := by
    refine ⟨_, rfl, ?_⟩
    by_cases hex : w * w = n
    · have : (w * w != n) = false := by simpa using hex
      rw [this]
      have hexR : (w : Rat) * (w : Rat) = (n : Rat) := by
        have := congrArg (fun z : Nat => (z : Rat)) hex
        simp only [Rat.natCast_mul] at this
        exact this
      simp only [Bool.toNat_false, Nat.add_zero]
      rw [Rat.natCast_mul]
      have c2 : ((2 : Nat) : Rat) = 2 := rfl
      rw [c2, ← hexR]
      refine ⟨Rat.le_refl, ?_, ?_⟩ <;> grind
    · have : (w * w != n) = true := by simpa using hex
      rw [this]
      simp only [Bool.toNat_true]
      rw [Rat.natCast_add, Rat.natCast_mul]
      have c2 : ((2 : Nat) : Rat) = 2 := rfl
      have c1 : ((1 : Nat) : Rat) = 1 := rfl
      rw [c2, c1]
      refine ⟨by grind, ?_, ?_⟩ <;> grind
  obtain ⟨M, hM, M0, M1, M2⟩ := hMag
  rw [hM] at hsq
  generalize hpc : p2 (c - 1) = q at *
  have hq0 : 0 < q := hpc ▸ p2_pos _
  have hXq : X = 4 * (n : Rat) * (q * q) := by
    rw [hXm, ← hn, Rat.natCast_mul]
    have e : p2 i = 4 * (q * q) * ((2 ^ more : Nat) : Rat) := by
      rw [hc1, p2_add, p2_add, p2_nat, half c, hpc]
      generalize ((2 ^ more : Nat) : Rat) = B
      grind
    rw [e]
    generalize ((2 ^ more : Nat) : Rat) = B
    grind
  have hqq : 0 ≤ q * q := Rat.le_of_lt (Rat.mul_pos hq0 hq0)
  -- the square of what is to be written
  have hMM : ∃ T : Rat, T = (M : Rat) * q ∧ 0 ≤ T ∧ T * T ≤ X + p2 (-52) * X ∧ X ≤ T * T + p2 (-52) * X := by
    refine ⟨_, rfl, Rat.mul_nonneg (by grind) (Rat.le_of_lt hq0), ?_, ?_⟩
    · have k : (M : Rat) * (M : Rat) ≤ 4 * (n : Rat) + p2 (-52) * (4 * (n : Rat)) := by
        have a1 : (w : Rat) ≤ p2 (-54) * (w : Rat) * (w : Rat) := by
          have := Rat.mul_le_mul_of_nonneg_right one_le hw0
          grind
        have a2 : p2 (-54) * ((w : Rat) * (w : Rat)) ≤ p2 (-54) * (n : Rat) := Rat.mul_le_mul_of_nonneg_left w1R (Rat.le_of_lt hp54)
        have a3 : (1 : Rat) ≤ (w : Rat) := by
          have : (1 : Rat) ≤ ((2 ^ 54 : Nat) : Rat) := cast_le (by decide)
          grind
        obtain ⟨_, _, q3⟩ := quarter_pows
        rw [q3]
        grind
      have := Rat.mul_le_mul_of_nonneg_right k hqq
      rw [hXq]
      grind
    · have k : 4 * (n : Rat) ≤ (M : Rat) * (M : Rat) + p2 (-52) * (4 * (n : Rat)) := by
        have a1 : (w : Rat) ≤ p2 (-54) * (w : Rat) * (w : Rat) := by
          have := Rat.mul_le_mul_of_nonneg_right one_le hw0
          grind
        have a2 : p2 (-54) * ((w : Rat) * (w : Rat)) ≤ p2 (-54) * (n : Rat) := Rat.mul_le_mul_of_nonneg_left w1R (Rat.le_of_lt hp54)
        have a3 : (1 : Rat) ≤ (w : Rat) := by
          have : (1 : Rat) ≤ ((2 ^ 54 : Nat) : Rat) := cast_le (by decide)
          grind
        obtain ⟨_, _, q3⟩ := quarter_pows
        rw [q3]
        grind
      have := Rat.mul_le_mul_of_nonneg_right k hqq
      rw [hXq]
      grind
  obtain ⟨T, hT, T0, T1, T2⟩ := hMM
  have p52 : p2 (-52) ≤ 1 := by
    have := p2_mono (show (-52 : Int) ≤ 0 by omega)
    have e : p2 0 = 1 := by have := p2_nat 0; simpa using this
    rw [e] at this; exact this
  have p52X := Rat.mul_le_mul_of_nonneg_right p52 (Rat.le_of_lt hX0)
  have hTb : T ≤ p2 1000 := by
    have big : (2 : Rat) ≤ p2 1000 := by
      have := p2_mono (show (1 : Int) ≤ 1000 by omega)
      have e4 : p2 1 = 2 := by
        have := p2_nat 1
        simpa using this
      rw [e4] at this; exact this
    rcases Rat.le_total (a := T) (b := p2 1000) with h | h
    · exact h
    · have a1 : 2 ≤ T := Rat.le_trans big h
      have a2 := Rat.mul_le_mul_of_nonneg_right a1 T0
      have a3 : 2 * T ≤ 2 * p2 1000 := by
        have : T * T ≤ 2 * X := by grind
        grind
      grind
  obtain ⟨y, hy0, hyv, g1, g2⟩ := near_spec false M (c - 1) (by rw [hpc, ← hT]; exact hTb)
  rw [hpc, ← hT] at g1 g2
  have hT1 : p2 (-2) ≤ T := by
    rcases Rat.le_total (a := p2 (-2)) (b := T) with h | h
    · exact h
    · exfalso
      have e : p2 (-2) = 1 / 4 := by
        have h := p2_add (-2) 2
        have e2 : p2 2 = 4 := by have := p2_nat 2; simpa using this
        have e0 : p2 0 = 1 := by have := p2_nat 0; simpa using this
        have e3 : (-2 : Int) + 2 = 0 := by omega
        rw [e3, e0, e2] at h
        grind
      have e52 : p2 (-52) ≤ 1 / 4 := by
        have := p2_mono (show (-52 : Int) ≤ -2 by omega)
        rw [e] at this; exact this
      rw [e] at h h1
      have := Rat.mul_le_mul_of_nonneg_right h T0
      have := Rat.mul_le_mul_of_nonneg_right e52 (Rat.le_of_lt hX0)
      grind
  have hl : loss T ≤ p2 (-52) * T := by
    unfold loss
    have a := half (-52)
    simp only [Int.reduceSub] at a
    have b : p2 (-1075) ≤ p2 (-53) * p2 (-2) := by
      rw [← p2_add]; exact p2_mono (by omega)
    have d := Rat.mul_le_mul_of_nonneg_left hT1 (Rat.le_of_lt (p2_pos (-53)))
    rw [a]
    grind
  have hz : (if (false : Bool) = true then (-1 : Rat) else 1) * y = y := by simp
  rw [hz] at hyv
  refine ⟨_, y, hsq, hyv, hy0, ?_, ?_⟩
  all_goals
    have e48 : p2 (-48) = 16 * p2 (-52) := by
      have h1 := half (-48)
      have h2 := half (-49)
      have h3 := half (-50)
      have h4 := half (-51)
      simp only [Int.reduceSub] at h1 h2 h3 h4
      grind
    have hp52 := p2_pos (-52)
    rw [e48]
    generalize p2 (-52) = ε at *
    have b1 : y ≤ T + ε * T := by grind
    have b2 : T ≤ y + ε * T := by grind
    have hTT : 0 ≤ T * T := Rat.mul_nonneg T0 T0
    have hεT : 0 ≤ ε * T := Rat.mul_nonneg (Rat.le_of_lt hp52) T0
    have hεTT : ε * (T * T) ≤ ε * (2 * X) := Rat.mul_le_mul_of_nonneg_left (by grind) (Rat.le_of_lt hp52)
    have hεε : ε * (ε * (T * T)) ≤ ε * (T * T) := by
      have := Rat.mul_le_mul_of_nonneg_right p52 (Rat.mul_nonneg (Rat.le_of_lt hp52) hTT)
      grind
  · have c1 := Rat.mul_le_mul_of_nonneg_right b1 hy0
    have c2 := Rat.mul_le_mul_of_nonneg_left b1 (show 0 ≤ T + ε * T by grind)
    grind
  · have c1 := Rat.mul_le_mul_of_nonneg_right b2 T0
    have c2 := Rat.mul_le_mul_of_nonneg_left b2 hy0
    have c3 := Rat.mul_le_mul_of_nonneg_left b1 hεT
    grind
end Go.Fl
