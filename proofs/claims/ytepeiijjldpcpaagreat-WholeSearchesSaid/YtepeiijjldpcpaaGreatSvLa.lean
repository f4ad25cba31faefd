/- Magnitudes and units of complex numbers. No conditions.
-/
import Derived.Test.YtepeiijjldpcpaaGreatSvFa
set_option linter.all false
namespace Go.Sv
open Go.Fl Ieee

def aB (x : Nat) : Nat := (fabs x).toNat

/-- The bits of a magnitude. -/
def absB (x y : Nat) : Nat := fmul (fmax (aB x) (aB y)) (fsqrt (fadd 0x3ff0000000000000 (fmul (fdiv (fmin (aB x) (aB y)) (fmax (aB x) (aB y))) (fdiv (fmin (aB x) (aB y)) (fmax (aB x) (aB y))))))

theorem aB_val {x : Nat} {p : Rat} (h : val x = some p) : val (aB x) = some (ab p) := by
  unfold aB
  rw [fabs_eq]
  exact val_abs h

theorem fop_some {o : Option Nat} {r : Nat} (h : o = some r) : fop o = r := by rw [h]; rfl

theorem two_pow_neg (k : Nat) : p2 (-(k : Int)) = 1 / ((2 ^ k : Nat) : Rat) := by
  have h := p2_inv (k : Int)
  rw [p2_nat] at h
  have h0 : (0 : Rat) < ((2 ^ k : Nat) : Rat) := by rw [← p2_nat]; exact p2_pos _
  generalize ((2 ^ k : Nat) : Rat) = D at *
  have h1 : p2 (-(k : Int)) = 1 / D * (D * p2 (-(k : Int))) := by
    have e : 1 / D * D = 1 := Rat.div_mul_cancel (by grind)
    grind
  rw [h1, h]
  grind

theorem small_pows : p2 (-45) = 1 / 35184372088832 ∧ p2 (-48) = 1 / 281474976710656 ∧ p2 (-50) = 1 / 1125899906842624 ∧ p2 (-53) = 1 / 9007199254740992 ∧ p2 (-1000) ≤ 1 / 9007199254740992 ∧ p2 (-1075) ≤ 1 / 9007199254740992 := by
  have e53 : p2 (-53) = 1 / 9007199254740992 := two_pow_neg 53
  refine ⟨two_pow_neg 45, two_pow_neg 48, two_pow_neg 50, e53, ?_, ?_⟩
  · rw [← e53]; exact p2_mono (by omega)
  · rw [← e53]; exact p2_mono (by omega)

/-- The steps, in numbers: m the greater, r the quotient. -/
theorem abs_core {r t tt o s : Rat} (hr0 : 0 ≤ r) (hr1 : r ≤ 1) (ht : Nr t r) (ht0 : 0 ≤ t) (htt : Near tt (t * t)) (htt0 : 0 ≤ tt) (ho : Near o (1 + tt))
    (hs0 : 0 ≤ s) (hs1 : s * s ≤ o + p2 (-48) * o) (hs2 : o ≤ s * s + p2 (-48) * o) :
    s * s ≤ 1 + r * r + 1 / 35184372088832 ∧ 1 + r * r ≤ s * s + 1 / 35184372088832 := by
  obtain ⟨_, k48, k50, k53, k1000, k1075⟩ := small_pows
  obtain ⟨t1, t2⟩ := ht
  rw [ab_of_nonneg hr0] at t1 t2
  unfold l2 at t1 t2
  rw [k50] at t1 t2
  have e1 : t ≤ r + 1 / 562949953421312 := by grind
  have e2 : r ≤ t + 1 / 562949953421312 := by grind
  have t3 : t ≤ 2 := by grind
  have q1 : t * t ≤ (r + 1 / 562949953421312) * t := Rat.mul_le_mul_of_nonneg_right e1 ht0
  have q2 : r * t ≤ r * (r + 1 / 562949953421312) := Rat.mul_le_mul_of_nonneg_left e1 hr0
  have q3 : r * r ≤ r * (t + 1 / 562949953421312) := Rat.mul_le_mul_of_nonneg_left e2 hr0
  have q4 : r * t ≤ (t + 1 / 562949953421312) * t := Rat.mul_le_mul_of_nonneg_right e2 ht0
  have s1 : t * t ≤ r * r + 3 / 562949953421312 := by grind
  have s2 : r * r ≤ t * t + 3 / 562949953421312 := by grind
  have rr1 : r * r ≤ 1 := by
    have := Rat.mul_le_mul_of_nonneg_right hr1 hr0
    grind
  have tt0 : 0 ≤ t * t := Rat.mul_nonneg ht0 ht0
  obtain ⟨u1, u2⟩ := htt
  rw [ab_of_nonneg tt0] at u1 u2
  unfold loss at u1 u2
  rw [k53] at u1 u2
  have v1 : tt ≤ r * r + 4 / 562949953421312 := by grind
  have v2 : r * r ≤ tt + 4 / 562949953421312 := by grind
  obtain ⟨w1, w2⟩ := ho
  rw [ab_of_nonneg (by grind)] at w1 w2
  unfold loss at w1 w2
  rw [k53] at w1 w2
  have x1 : o ≤ 1 + r * r + 5 / 562949953421312 := by grind
  have x2 : 1 + r * r ≤ o + 5 / 562949953421312 := by grind
  rw [k48] at hs1 hs2
  constructor <;> grind

theorem abs_root {r s : Rat} (hr0 : 0 ≤ r) (hr1 : r ≤ 1) (hs0 : 0 ≤ s) (h1 : s * s ≤ 1 + r * r + 1 / 35184372088832) (h2 : 1 + r * r ≤ s * s + 1 / 35184372088832) : s ≤ 3 / 2 ∧ 1 / 2 ≤ s := by
  have rr0 : 0 ≤ r * r := Rat.mul_nonneg hr0 hr0
  have rr1 : r * r ≤ 1 := by
    have := Rat.mul_le_mul_of_nonneg_right hr1 hr0
    grind
  constructor
  · by_cases h : s ≤ 3 / 2
    · exact h
    · exfalso
      have a1 := Rat.mul_le_mul_of_nonneg_right (show 3 / 2 ≤ s by grind) hs0
      grind
  · by_cases h : 1 / 2 ≤ s
    · exact h
    · exfalso
      have a1 := Rat.mul_le_mul_of_nonneg_right (show s ≤ 1 / 2 by grind) hs0
      grind

/-- The product. -/
theorem abs_end {m n r s z : Rat} (hm : 0 < m) (hmn : n = r * m) (hr0 : 0 ≤ r) (hr1 : r ≤ 1) (hs0 : 0 ≤ s) (h1 : s * s ≤ 1 + r * r + 1 / 35184372088832) (h2 : 1 + r * r ≤ s * s + 1 / 35184372088832)
    (hz : Near z (m * s)) (hz0 : 0 ≤ z) (hlow : p2 (-1074) ≤ m) : z ≤ 3 * m ∧ (p2 (-900) ≤ m → z * z ≤ (m * m + n * n) + p2 (-44) * (m * m + n * n) ∧ m * m + n * n ≤ z * z + p2 (-44) * (m * m + n * n)) := by
  obtain ⟨k45, k48, k50, k53, k1000, k1075⟩ := small_pows
  obtain ⟨b1, b2⟩ := abs_root hr0 hr1 hs0 h1 h2
  have hm0 : 0 ≤ m := Rat.le_of_lt hm
  have ms0 : 0 ≤ m * s := Rat.mul_nonneg hm0 hs0
  obtain ⟨z1, z2⟩ := hz
  rw [ab_of_nonneg ms0] at z1 z2
  unfold loss at z1 z2
  rw [k53] at z1 z2
  have c1 : m * s ≤ m * (3 / 2) := Rat.mul_le_mul_of_nonneg_left b1 hm0
  have c2 : m * (1 / 2) ≤ m * s := Rat.mul_le_mul_of_nonneg_left b2 hm0
  have e75 : p2 (-1074) = 2 * p2 (-1075) := half (-1074)
  have p75 := p2_pos (-1075)
  refine ⟨by grind, fun hbig => ?_⟩
  have e44 : p2 (-44) = 1 / 17592186044416 := two_pow_neg 44
  rw [e44]
  have f1 : p2 (-1075) ≤ 1 / 9007199254740992 * (m * s) := by
    have g1 : p2 (-1075) ≤ p2 (-53) * (p2 (-900) * p2 (-1)) := by
      rw [← p2_add, ← p2_add]
      exact p2_mono (by omega)
    have g2 : p2 (-1) = 1 / 2 := two_pow_neg 1
    rw [k53, g2] at g1
    have g3 : p2 (-900) * (1 / 2) ≤ m * s := by grind
    grind
  have y1 : z ≤ m * s + 1 / 4503599627370496 * (m * s) := by grind
  have y2 : m * s ≤ z + 1 / 4503599627370496 * (m * s) := by grind
  have z0 : 0 ≤ z := hz0
  -- squares
  generalize hW : m * s = W at *
  have W2 : W * W = m * m * (s * s) := by rw [← hW]; grind
  have mm0 : 0 ≤ m * m := Rat.mul_nonneg hm0 hm0
  have g1 : m * m * (s * s) ≤ m * m * (1 + r * r + 1 / 35184372088832) := Rat.mul_le_mul_of_nonneg_left h1 mm0
  have g2 : m * m * (1 + r * r) ≤ m * m * (s * s + 1 / 35184372088832) := Rat.mul_le_mul_of_nonneg_left h2 mm0
  have nn : n * n = m * m * (r * r) := by rw [hmn]; grind
  have nn0 : 0 ≤ n * n := by rw [nn]; exact Rat.mul_nonneg mm0 (Rat.mul_nonneg hr0 hr0)
  have rr1 : m * m * (r * r) ≤ m * m * 1 := by
    apply Rat.mul_le_mul_of_nonneg_left _ mm0
    have := Rat.mul_le_mul_of_nonneg_right hr1 hr0
    grind
  have i1 : z * z ≤ (W + 1 / 4503599627370496 * W) * z := Rat.mul_le_mul_of_nonneg_right y1 z0
  have i2 : W * z ≤ W * (W + 1 / 4503599627370496 * W) := Rat.mul_le_mul_of_nonneg_left y1 ms0
  have i3 : W * W ≤ W * (z + 1 / 4503599627370496 * W) := Rat.mul_le_mul_of_nonneg_left y2 ms0
  have i4 : W * z ≤ (z + 1 / 4503599627370496 * W) * z := Rat.mul_le_mul_of_nonneg_right y2 z0
  constructor <;> grind

theorem absB_zero {x y : Nat} (hx : val x = some 0) (hy : val y = some 0) : absB x y = 0 := by
  have ex : aB x = 0 := by
    unfold aB; rw [fabs_eq, abs_zero hx]; rfl
  have ey : aB y = 0 := by
    unfold aB; rw [fabs_eq, abs_zero hy]; rfl
  unfold absB
  rw [ex, ey]
  decide +kernel

/-- What is told of a magnitude's bits. -/
theorem absB_law {x y : Nat} {p q : Rat} (hx : val x = some p) (hy : val y = some q) {T : Rat} (hT : T ≤ p2 900) (hp : ab p ≤ T) (hq : ab q ≤ T) :
    ∃ z, val (absB x y) = some z ∧ 0 ≤ z ∧ (∀ B, ab p ≤ B → ab q ≤ B → z ≤ 3 * B) ∧ (p ≠ 0 ∨ q ≠ 0 → z ≠ 0) ∧
      (p2 (-900) ≤ ab p ∨ p2 (-900) ≤ ab q → z * z ≤ (p * p + q * q) + p2 (-44) * (p * p + q * q) ∧ p * p + q * q ≤ z * z + p2 (-44) * (p * p + q * q)) := by
  have hx' := aB_val hx
  have hy' := aB_val hy
  obtain ⟨hM, hMv⟩ := fmax_ok hx' hy'
  obtain ⟨hN, hNv⟩ := fmin_ok hx' hy'
  have hm : ∃ m, val (fmax (aB x) (aB y)) = some m := by
    rcases hM with e | e <;> rw [e]
    · exact ⟨_, hx'⟩
    · exact ⟨_, hy'⟩
  have hn : ∃ n, val (fmin (aB x) (aB y)) = some n := by
    rcases hN with e | e <;> rw [e]
    · exact ⟨_, hx'⟩
    · exact ⟨_, hy'⟩
  obtain ⟨m, hm⟩ := hm
  obtain ⟨n, hn⟩ := hn
  obtain ⟨m1, m2, m3⟩ := hMv m hm
  obtain ⟨n1, n2, n3⟩ := hNv n hn
  have hp0 := ab_nonneg p
  have hq0 := ab_nonneg q
  have hn0 : 0 ≤ n := by
    rcases n3 with e | e <;> rw [e]
    · exact hp0
    · exact hq0
  have hm0 : 0 ≤ m := by grind
  have hmB : m ≤ T := by
    rcases m3 with e | e <;> rw [e]
    · exact hp
    · exact hq
  have hpp : p * p = ab p * ab p := by unfold ab; split <;> grind
  have hqq : q * q = ab q * ab q := by unfold ab; split <;> grind
  have hsum : m * m + n * n = p * p + q * q := by
    rw [hpp, hqq]
    rcases m3 with e | e
    · rcases n3 with f | f
      · have : ab q = ab p := by grind
        rw [e, f, this]
      · rw [e, f]
    · rcases n3 with f | f
      · rw [e, f]; grind
      · have : ab q = ab p := by grind
        rw [e, f, this]
  unfold absB
  by_cases hz : m = 0
  · -- both are nought
    have hnz : n = 0 := by grind
    have pz : ab p = 0 := by grind
    have qz : ab q = 0 := by grind
    have p0 : p = 0 := by have := le_ab p; grind
    have q0 : q = 0 := by have := le_ab q; grind
    subst p0
    subst q0
    have e0 := absB_zero hx hy
    unfold absB at e0
    rw [e0]
    refine ⟨0, val_zero, Rat.le_refl, fun B h1 h2 => by grind, fun h => by grind, fun h => ?_⟩
    have h9 := p2_pos (-900)
    rcases h with h | h <;> grind
  · have hmp : 0 < m := by grind
    have hab : ab m = m := ab_of_nonneg hm0
    have hlow := least hm hz
    rw [hab] at hlow
    -- the quotient
    have hr : ∃ r, n = r * m ∧ 0 ≤ r ∧ r ≤ 1 ∧ n / m = r := by
      refine ⟨n / m, (Rat.div_mul_cancel hz).symm, ?_, ?_, rfl⟩
      · by_cases h : 0 ≤ n / m
        · exact h
        · exfalso
          have := Rat.mul_le_mul_of_nonneg_right (show n / m ≤ 0 by grind) hm0
          have e := Rat.div_mul_cancel (a := n) hz
          have h9 : n = 0 := by grind
          rw [h9, Rat.div_def, Rat.zero_mul] at h
          exact h Rat.le_refl
      · by_cases h : n / m ≤ 1
        · exact h
        · exfalso
          have e := Rat.div_mul_cancel (a := n) hz
          have := Rat.mul_pos (show 0 < n / m - 1 by grind) hmp
          grind
    obtain ⟨r, hr1, hr2, hr3, hr4⟩ := hr
    have h0 : p2 0 ≤ p2 999 := p2_mono (by omega)
    rw [p2_zero] at h0
    obtain ⟨tb, t, ht1, ht2, ht3⟩ := div_spec hn hm hz (by rw [hr4, ab_of_nonneg hr2]; grind)
    rw [hr4] at ht3
    obtain ⟨tb', d1, _, d3, _⟩ := div_pos_ok hn hm hmp
    rw [ht1] at d1
    simp only [Option.some.injEq] at d1
    subst d1
    have ht0 := le_of_nonneg ht2 (d3 (nonneg_of hn hn0))
    obtain ⟨_, k48, k50, k53, k1000, k1075⟩ := small_pows
    have tB : t ≤ 2 := by
      obtain ⟨f1, f2⟩ := ht3
      rw [ab_of_nonneg hr2] at f1 f2
      unfold l2 at f1 f2
      rw [k50] at f1 f2
      grind
    have big : (16 : Rat) ≤ p2 1000 := by
      have h1 : p2 4 ≤ p2 1000 := p2_mono (by omega)
      have h2 : p2 4 = ((2 ^ 4 : Nat) : Rat) := p2_nat 4
      have h3 : ((2 ^ 4 : Nat) : Rat) = 16 := rfl
      rw [h2, h3] at h1; exact h1
    have ttB : t * t ≤ 4 := by
      have a1 := Rat.mul_le_mul_of_nonneg_right tB ht0
      grind
    have tt00 := Rat.mul_nonneg ht0 ht0
    obtain ⟨ub, tt, hu1, hu2, hu3⟩ := mul_spec ht2 ht2 (by rw [ab_of_nonneg tt00]; grind)
    have htt0 := le_of_nonneg hu2 (mul_nonneg (nonneg_of ht2 ht0) (nonneg_of ht2 ht0) ht2 ht2 hu1)
    have ttB2 : tt ≤ 5 := by
      obtain ⟨f1, f2⟩ := hu3
      rw [ab_of_nonneg tt00] at f1 f2
      unfold loss at f1 f2
      rw [k53] at f1 f2
      grind
    obtain ⟨ob, o, ho1, ho2, ho3⟩ := add_spec one_bits hu2 (by rw [ab_of_nonneg (by grind)]; grind)
    have hoH := nr_half ho3 (by grind)
    have hoB : o ≤ 7 := by
      obtain ⟨f1, f2⟩ := ho3
      rw [ab_of_nonneg (by grind)] at f1 f2
      unfold loss at f1 f2
      rw [k53] at f1 f2
      grind
    obtain ⟨sb, s, hs1, hs2, hs3, hs4, hs5⟩ := sqrt_spec ho2 (Rat.le_trans (p2_mono (by omega)) hoH) (by grind)
    obtain ⟨g1, g2⟩ := abs_core hr2 hr3 ht3 ht0 hu3 htt0 ho3 hs3 hs4 hs5
    obtain ⟨g3, g4⟩ := abs_root hr2 hr3 hs3 g1 g2
    have ms0 := Rat.mul_nonneg hm0 hs3
    have msB : m * s ≤ p2 1000 := by
      have a1 := Rat.mul_le_mul_of_nonneg_left g3 hm0
      have a2 : p2 901 = 2 * p2 900 := half 901
      have a3 : p2 901 ≤ p2 1000 := p2_mono (by omega)
      have a4 := p2_pos 900
      generalize p2 901 = A at *
      generalize p2 900 = B at *
      generalize p2 1000 = C at *
      grind
    obtain ⟨zb, z, hz1, hz2, hz3⟩ := mul_spec hm hs2 (by rw [ab_of_nonneg ms0]; exact msB)
    have hz0 := le_of_nonneg hz2 (mul_nonneg (nonneg_of hm hm0) (nonneg_of hs2 hs3) hm hs2 hz1)
    have e : FloatKind.f64.format = double := rfl
    have et : fdiv (fmin (aB x) (aB y)) (fmax (aB x) (aB y)) = tb := by unfold fdiv; rw [e]; exact fop_some ht1
    have eu : fmul tb tb = ub := by unfold fmul; rw [e]; exact fop_some hu1
    have eo : fadd 0x3ff0000000000000 ub = ob := by unfold fadd; rw [e]; exact fop_some ho1
    have es : fsqrt ob = sb := by unfold fsqrt; rw [e]; exact fop_some hs1
    have ez : fmul (fmax (aB x) (aB y)) sb = zb := by unfold fmul; rw [e]; exact fop_some hz1
    rw [et, eu, eo, es, ez]
    obtain ⟨w1, w2⟩ := abs_end hmp hr1 hr2 hr3 hs3 g1 g2 hz3 hz0 hlow
    refine ⟨z, hz2, hz0, fun B h1 h2 => ?_, fun _ hzz => ?_, fun hbig => ?_⟩
    · have : m ≤ B := by
        rcases m3 with f | f <;> rw [f]
        · exact h1
        · exact h2
      grind
    · -- not nought
      obtain ⟨f1, f2⟩ := hz3
      rw [ab_of_nonneg ms0] at f1 f2
      unfold loss at f1 f2
      rw [k53] at f1 f2
      have s9 : 9 / 10 ≤ s := by
        by_cases h : 9 / 10 ≤ s
        · exact h
        · exfalso
          have b1 := Rat.mul_le_mul_of_nonneg_right (show s ≤ 9 / 10 by grind) hs3
          have b2 := Rat.mul_nonneg hr2 hr2
          grind
      have a1 := Rat.mul_le_mul_of_nonneg_left s9 hm0
      have e75 : p2 (-1074) = 2 * p2 (-1075) := half (-1074)
      have p75 := p2_pos (-1075)
      generalize m * s = W at *
      generalize p2 (-1075) = D at *
      generalize p2 (-1074) = D2 at *
      grind
    · rw [← hsum]
      refine w2 ?_
      rcases hbig with h | h <;> grind

end Go.Sv

namespace Go.Sv
open Go.Fl Ieee

/-- Brought nearer to 1 where it is small. -/
def usc (x y z : Nat) : Nat := bif cmpB .lss (fmax (aB x) (aB y)) 553942754166571008 then fmul 5507902344274116608 z else z
def ubase (x y : Nat) : Nat := absB (usc x y x) (usc x y y)
def uRe (x y : Nat) : Nat := fdiv (usc x y x) (ubase x y)
def uIm (x y : Nat) : Nat := fdiv (usc x y y) (ubase x y)

theorem small_bits : val 553942754166571008 = some (p2 (-900)) := by
  have h : double.read 553942754166571008 = .number false (2 ^ 52) (-952) := by decide
  unfold val
  rw [h]
  simp only []
  apply congrArg some
  have e : ((2 ^ 52 : Nat) : Rat) = p2 52 := (p2_nat 52).symm
  rw [e]
  have : p2 52 * p2 (-952) = p2 (-900) := by rw [← p2_add]; rfl
  simp
  exact this

theorem great_bits : val 5507902344274116608 = some (p2 200) := by
  have h : double.read 5507902344274116608 = .number false (2 ^ 52) 148 := by decide
  unfold val
  rw [h]
  simp only []
  apply congrArg some
  have e : ((2 ^ 52 : Nat) : Rat) = p2 52 := (p2_nat 52).symm
  rw [e]
  have : p2 52 * p2 148 = p2 200 := by rw [← p2_add]; rfl
  simp
  exact this

/-- A quotient by what is not much smaller. -/
theorem unit_part {x m : Nat} {p z : Rat} (hx : val x = some p) (hm : val m = some z) (hz : 0 < z) (hle : ab p ≤ z + 1 / 1024 * z) : ∃ u, val (fdiv x m) = some u ∧ ab (u - p / z) ≤ 1 / 281474976710656 ∧ ab u ≤ 2 := by
  have hr : ab (p / z) ≤ 1 + 1 / 1024 := by
    have e : p / z * z = p := Rat.div_mul_cancel (by grind)
    generalize p / z = r at e
    apply ab_le
    · by_cases h : r ≤ 1 + 1 / 1024
      · exact h
      · exfalso
        have := Rat.mul_pos (show 0 < r - (1 + 1 / 1024) by grind) hz
        have := le_ab p
        grind
    · by_cases h : -r ≤ 1 + 1 / 1024
      · exact h
      · exfalso
        have := Rat.mul_pos (show 0 < -r - (1 + 1 / 1024) by grind) hz
        have := le_ab p
        grind
  have hbig : (2 : Rat) ≤ p2 999 := by
    have h1 : p2 1 ≤ p2 999 := p2_mono (by omega)
    have h2 : p2 1 = 2 := by have := p2_nat 1; simpa using this
    rw [h2] at h1; exact h1
  obtain ⟨ub, u, h1, h2, h3⟩ := div_spec hx hm (by grind) (by grind)
  obtain ⟨_, k48, k50, k53, k1000, k1075⟩ := small_pows
  obtain ⟨f1, f2⟩ := h3
  unfold l2 at f1 f2
  rw [k50] at f1 f2
  have e : FloatKind.f64.format = double := rfl
  refine ⟨u, by unfold fdiv; rw [e, fop_some h1]; exact h2, ab_le (by grind) (by grind), ?_⟩
  have := le_ab (p / z)
  exact ab_le (by grind) (by grind)

/-- What is told of the quotient's bits where the number is not nought. -/
theorem unit_law {x y : Nat} {p q : Rat} (hx : val x = some p) (hy : val y = some q) {T : Rat} (hT : T ≤ p2 400) (hp : ab p ≤ T) (hq : ab q ≤ T) (hne : p ≠ 0 ∨ q ≠ 0) :
    ∃ a b z u v, val (usc x y x) = some a ∧ val (usc x y y) = some b ∧ val (ubase x y) = some z ∧ 0 < z ∧ val (uRe x y) = some u ∧ val (uIm x y) = some v ∧
      (p2 (-900) ≤ ab a ∨ p2 (-900) ≤ ab b) ∧ (p2 (-900) ≤ ab p ∨ p2 (-900) ≤ ab q → usc x y x = x ∧ usc x y y = y) ∧
      z * z ≤ (a * a + b * b) + p2 (-44) * (a * a + b * b) ∧ a * a + b * b ≤ z * z + p2 (-44) * (a * a + b * b) ∧
      ab (u - a / z) ≤ 1 / 281474976710656 ∧ ab (v - b / z) ≤ 1 / 281474976710656 ∧ ab u ≤ 2 ∧ ab v ≤ 2 := by
  have hT9 : T ≤ p2 900 := Rat.le_trans hT (p2_mono (by omega))
  have hx' := aB_val hx
  have hy' := aB_val hy
  obtain ⟨hM, hMv⟩ := fmax_ok hx' hy'
  have hm : ∃ m, val (fmax (aB x) (aB y)) = some m := by
    rcases hM with e | e <;> rw [e]
    · exact ⟨_, hx'⟩
    · exact ⟨_, hy'⟩
  obtain ⟨m, hm⟩ := hm
  obtain ⟨m1, m2, m3⟩ := hMv m hm
  have hp0 := ab_nonneg p
  have hq0 := ab_nonneg q
  obtain ⟨o1, o2, o3⟩ := order_num hm small_bits
  have e : FloatKind.f64.format = double := rfl
  have h900 := p2_pos (-900)
  -- scaled or not
  have key : ∃ a b S, val (usc x y x) = some a ∧ val (usc x y y) = some b ∧ ab a ≤ S ∧ ab b ≤ S ∧ S ≤ p2 900 ∧ (p2 (-900) ≤ ab a ∨ p2 (-900) ≤ ab b) ∧ (p2 (-900) ≤ ab p ∨ p2 (-900) ≤ ab q → usc x y x = x ∧ usc x y y = y) := by
    by_cases hs : m < p2 (-900)
    · have hc : cmpB .lss (fmax (aB x) (aB y)) 553942754166571008 = true := by
        unfold cmpB; rw [e, o1 hs]; rfl
      -- each part
      have part : ∀ {k : Nat} {r : Rat}, val k = some r → ab r ≤ m → ∃ a, val (fmul 5507902344274116608 k) = some a ∧ ab a ≤ 2 ∧ (r ≠ 0 → p2 (-900) ≤ ab a) := fun {k r} hk hr => by
        have hw : ab (p2 200 * r) ≤ 1 := by
          rw [ab_mul, ab_of_nonneg (Rat.le_of_lt (p2_pos 200))]
          have a1 := Rat.mul_le_mul_of_nonneg_left (show ab r ≤ p2 (-900) by grind) (Rat.le_of_lt (p2_pos 200))
          have a2 : p2 200 * p2 (-900) = p2 (-700) := by rw [← p2_add]; rfl
          have a3 : p2 (-700) ≤ p2 0 := p2_mono (by omega)
          rw [p2_zero] at a3
          rw [a2] at a1
          exact Rat.le_trans a1 a3
        have h1000 : (1 : Rat) ≤ p2 1000 := by
          have := p2_mono (show (0 : Int) ≤ 1000 by omega)
          rw [p2_zero] at this; exact this
        obtain ⟨rb, Z, g1, g2, g3⟩ := mul_spec great_bits hk (Rat.le_trans hw h1000)
        refine ⟨Z, by unfold fmul; rw [e, fop_some g1]; exact g2, ?_, fun hr0 => ?_⟩
        · obtain ⟨_, k48, k50, k53, k1000, k1075⟩ := small_pows
          obtain ⟨f1, f2⟩ := g3
          unfold loss at f1 f2
          rw [k53] at f1 f2
          have := le_ab (p2 200 * r)
          exact ab_le (by grind) (by grind)
        · have hl := least hk hr0
          have a1 := Rat.mul_le_mul_of_nonneg_left hl (Rat.le_of_lt (p2_pos 200))
          have a2 : p2 200 * p2 (-1074) = p2 (-874) := by rw [← p2_add]; rfl
          rw [a2] at a1
          have a3 : ab (p2 200 * r) = p2 200 * ab r := by rw [ab_mul, ab_of_nonneg (Rat.le_of_lt (p2_pos 200))]
          obtain ⟨f1, f2⟩ := g3
          unfold loss at f1 f2
          have b1 : p2 (-53) ≤ p2 (-2) := p2_mono (by omega)
          have b2 : p2 (-1075) ≤ p2 (-876) := p2_mono (by omega)
          have b3 : p2 (-2) = 1 / 4 := two_pow_neg 2
          have b4 : p2 (-874) = 2 * p2 (-875) := half (-874)
          have b5 : p2 (-875) = 2 * p2 (-876) := half (-875)
          have b6 : p2 (-900) ≤ p2 (-876) := p2_mono (by omega)
          have b7 := p2_pos (-876)
          rw [b3] at b1
          have hab := ab_nonneg (p2 200 * r)
          have c1 := Rat.mul_le_mul_of_nonneg_right b1 hab
          rw [← a3] at a1
          generalize p2 200 * r = W at *
          generalize p2 (-876) = D at *
          generalize p2 (-900) = D9 at *
          generalize p2 (-1075) = D1 at *
          generalize p2 (-53) = D5 at *
          have z1 := le_ab Z
          have hW : ab W ≤ ab Z + (1 / 4 * ab W + D) := by
            exact ab_le (by grind) (by grind)
          grind
      obtain ⟨a, ha1, ha2, ha3⟩ := part hx m1
      obtain ⟨b, hb1, hb2, hb3⟩ := part hy m2
      have h2 : (2 : Rat) ≤ p2 900 := by
        have h1 : p2 1 ≤ p2 900 := p2_mono (by omega)
        have h2 : p2 1 = 2 := by have := p2_nat 1; simpa using this
        rw [h2] at h1; exact h1
      refine ⟨a, b, 2, by unfold usc; rw [hc]; exact ha1, by unfold usc; rw [hc]; exact hb1, ha2, hb2, h2, ?_, fun h => by exfalso; rcases h with h | h <;> grind⟩
      rcases hne with h | h
      · exact .inl (ha3 h)
      · exact .inr (hb3 h)
    · have hc : cmpB .lss (fmax (aB x) (aB y)) 553942754166571008 = false := by
        unfold cmpB; rw [e]
        by_cases heq : m = p2 (-900)
        · rw [o2 heq]; rfl
        · rw [o3 (by grind)]; rfl
      refine ⟨p, q, T, by unfold usc; rw [hc]; exact hx, by unfold usc; rw [hc]; exact hy, hp, hq, hT9, ?_, fun _ => ⟨by unfold usc; rw [hc]; rfl, by unfold usc; rw [hc]; rfl⟩⟩
      rcases m3 with f | f
      · exact .inl (by grind)
      · exact .inr (by grind)
  obtain ⟨a, b, S, ha, hb, haS, hbS, hS, hbig, hsame⟩ := key
  obtain ⟨z, hz1, hz2, _, hz4, hz5⟩ := absB_law ha hb hS haS hbS
  obtain ⟨s1, s2⟩ := hz5 hbig
  have hzp : 0 < z := by
    have : z ≠ 0 := hz4 (by
      rcases hbig with h | h
      · left; intro h0; rw [h0, ab_zero] at h; grind
      · right; intro h0; rw [h0, ab_zero] at h; grind)
    grind
  have e44 : p2 (-44) = 1 / 17592186044416 := two_pow_neg 44
  have haa : a * a = ab a * ab a := by unfold ab; split <;> grind
  have hbb : b * b = ab b * ab b := by unfold ab; split <;> grind
  have ha0 := ab_nonneg a
  have hb0 := ab_nonneg b
  have bound : ∀ {k : Rat}, 0 ≤ k → k * k ≤ a * a + b * b → k ≤ z + 1 / 1024 * z := fun {k} hk0 hk => by
    by_cases h : k ≤ z + 1 / 1024 * z
    · exact h
    · exfalso
      rw [e44] at s2
      have g1 := Rat.mul_le_mul_of_nonneg_right (show z + 1 / 1024 * z ≤ k by grind) (show 0 ≤ z + 1 / 1024 * z by grind)
      have g2 := Rat.mul_le_mul_of_nonneg_left (show z + 1 / 1024 * z ≤ k by grind) hk0
      have g3 := Rat.mul_pos hzp hzp
      grind
  have bsq : 0 ≤ ab a * ab a ∧ 0 ≤ ab b * ab b := ⟨Rat.mul_nonneg ha0 ha0, Rat.mul_nonneg hb0 hb0⟩
  have la := bound ha0 (by rw [haa, hbb]; grind)
  have lb := bound hb0 (by rw [haa, hbb]; grind)
  obtain ⟨u, u1, u2, u3⟩ := unit_part ha hz1 hzp la
  obtain ⟨v, v1, v2, v3⟩ := unit_part hb hz1 hzp lb
  exact ⟨a, b, z, u, v, ha, hb, hz1, hzp, u1, v1, hbig, hsame, s1, s2, u2, v2, u3, v3⟩

end Go.Sv
