/- What is known of floats that are not known. No conditions.
-/
import Derived.Test.YtepeiijjldpcpaaGreatSvA
import Derived.Test.YtepeiijjldpcpaaGreatFl
set_option linter.all false
namespace Go.Sv
open Go.Fl Ieee

/-- The sum of so many of them from one on. -/
def psum (v : Nat → Rat) : Nat → Nat → Rat
  | 0, _ => 0
  | k + 1, j => v j + psum v k (j + 1)

/-- What a run stands against: names' bits, numbers that forms speak of, a bound of them, how many of them are parts, slices and whole numbers that came in, the memory at the start. -/
structure Ctx where
  nm : Nat → Nat
  vq : Nat → Rat
  M : Rat
  np : Nat
  mm : Rat
  fv : Nat → Value
  ia : Nat → Int
  fs : Nat → Nat × Nat × Nat
  fe : Nat → Nat → Int
  fo : Nat → Obj
  h0 : Array Obj
  lim : Nat
  M1 : 1 ≤ M
  M2 : M ≤ p2 400
  M3 : np ≠ 0 → M ≤ p2 60
  M4 : 2 ≤ np → M ≤ p2 20
  v0 : vq 0 = 1
  vb : ∀ j, ab (vq j) ≤ M
  vp : ∀ j, 1 ≤ j → j < np → 0 ≤ vq j
  vs : 2 ≤ np → M ≤ 8 * psum vq (np - 1) 1
  fok : ∀ j, 0 < (fs j).2.1 → ∃ (arr : Array Value) (e : TypeId) (fz : Nat × Nat), fo j = .cells arr e fz ∧ ∀ i, i < 48 → arr[(fs j).1 + i % (fs j).2.1]? = some (.int .i16 (fe j i)) ∧ (-32768 ≤ fe j i ∧ fe j i < 32768) ∧ (i + 3 ≤ j → (fe j i).tmod 50 = 0)

theorem fz_eq {α : Type} (n : Nat) (k : Nat → α) : fz n k = k n := by cases n <;> rfl
theorem fzLI_eq {α : Type} : ∀ (x : List Int) (k : List Int → α), fzLI x k = k x
  | [], _ => rfl
  | x :: r, k => by
    have h : ∀ (n : Int) (k : Int → α), fzI n k = k n := fun n k => by cases n <;> simp [fzI, fz_eq]
    simp [fzLI, h, fzLI_eq r]
theorem fzM_eq {α : Type} (F : Fm) (k : Fm → α) : fzM F k = k F := by
  obtain ⟨i, n, p, b, m, l, q⟩ := F
  have h : ∀ (x : Option Nat) (k : Option Nat → α), fzO x k = k x := fun x k => by cases x <;> simp [fzO, fz_eq]
  cases m with
  | none => cases p <;> simp [fzM, fz_eq, h]
  | some c => obtain ⟨cs, e⟩ := c; cases p <;> simp [fzM, fz_eq, h, fzLI_eq]

def U : Rat := p2 100

/-- A form's number. -/
def lin (v : Nat → Rat) : List Int → Nat → Rat
  | [], _ => 0
  | c :: r, j => (c : Rat) * v j + lin v r (j + 1)

def nonneg (n : Nat) : Prop :=
  match double.read n with
  | .number s m _ => s = false ∨ m = 0
  | .infinity s => s = false
  | .nan .. => False

structure Fact (X : Ctx) (F : Fm) (n : Nat) : Prop where
  id : F.id ≠ 0 → n = X.nm F.id
  np : F.np ≠ 0 → F.np = X.np
  nn : (double.read n).isNaN = false
  pos : F.pos = true → nonneg n
  bd : ∀ b, F.bd = some b → ∃ q, val n = some q ∧ ab q * U ≤ (b : Rat) * X.M
  fm : ∀ cs e, F.fm = some (cs, e) → ∃ q, val n = some q ∧ ab (q * U - lin X.vq cs 0) ≤ (e : Rat) * X.M
  lw : F.lw ≠ 0 → ∃ q, val n = some q ∧ q ≠ 0 ∧ (F.lw = 2 → p2 (-1) ≤ q)
  mm : F.mm ≠ 0 → ∃ q, val n = some q ∧ (F.mm = 1 → X.mm ≤ q) ∧ (F.mm = 2 → q ≤ X.mm) ∧ (F.mm = 3 → ab q = X.mm) ∧ (F.mm = 4 → q = X.mm) ∧ (F.mm = 5 → q = 0) ∧ (F.mm = 6 → ab q ≤ 64) ∧ (F.mm = 7 → 0 < q) ∧ (F.mm = 8 → q < 0)

def TgOK (X : Ctx) (n : Int) : Tg → Prop
  | .no => True
  | .lev j => X.nm j = FloatKind.f64.nearest n ∧ ∃ q, val (X.nm j) = some q ∧ ab q ≤ p2 10
  | .md m r => 0 ≤ n ∧ n ≤ 255 ∧ n % (m : Int) = (r : Int)
  | .at j => n = X.ia j
  | .ln j => n = ((X.fs j).2.1 : Int) ∧ 0 < (X.fs j).2.1
  | .ix j i => n = ((i % (X.fs j).2.1 : Nat) : Int) ∧ 0 < (X.fs j).2.1
  | .el => -32768 ≤ n ∧ n < 32768
  | .el0 => (-32768 ≤ n ∧ n < 32768) ∧ n.tmod 50 = 0
  | .er => -49 ≤ n ∧ n ≤ 49
  | .st => 0 ≤ n ∧ n ≤ 64
  | .byt => 0 ≤ n ∧ n ≤ 255

def RF (X : Ctx) : AF → Nat → Prop
  | .f b, n => n = b
  | .nan, n => (FloatKind.f64.decode n).isNaN = true
  | .s k F, n => n = k ∧ Fact X F k

end Go.Sv

namespace Go.Sv
open Go.Fl Ieee

theorem U_pos : 0 < U := p2_pos 100

theorem ab_add (x y : Rat) : ab (x + y) ≤ ab x + ab y := by
  have h1 := le_ab x
  have h2 := le_ab y
  exact ab_le (by grind) (by grind)
theorem ab_neg (x : Rat) : ab (-x) = ab x := by
  unfold ab
  by_cases h : 0 ≤ x
  · by_cases h' : 0 ≤ -x
    · simp [h, h']; grind
    · simp [h, h']
  · have h' : 0 ≤ -x := by grind
    simp [h, h']
theorem ab_zero : ab 0 = 0 := by unfold ab; simp
theorem ab_of_nonneg {x : Rat} (h : 0 ≤ x) : ab x = x := by unfold ab; simp [h]

theorem cast_lt {x y : Nat} (h : x < y) : (x : Rat) < (y : Rat) := by exact_mod_cast h
theorem cast_add (x y : Nat) : ((x + y : Nat) : Rat) = (x : Rat) + (y : Rat) := Rat.natCast_add x y
theorem cast_mul (x y : Nat) : ((x * y : Nat) : Rat) = (x : Rat) * (y : Rat) := Rat.natCast_mul x y
theorem cast_nonneg (x : Nat) : (0 : Rat) ≤ (x : Rat) := cast_le (Nat.zero_le x)
theorem cast_one : ((1 : Nat) : Rat) = 1 := rfl

theorem p2_zero : p2 0 = 1 := by have := p2_nat 0; simpa using this

theorem p2_inv (a : Int) : p2 a * p2 (-a) = 1 := by
  rw [← p2_add]
  have : a + -a = 0 := by omega
  rw [this, p2_zero]

theorem shr_le (b k : Nat) : (b : Rat) * p2 (-(k : Int)) ≤ ((b >>> k : Nat) : Rat) + 1 := by
  have h1 : b < (b / 2 ^ k + 1) * 2 ^ k := by
    have hg : 0 < 2 ^ k := Nat.two_pow_pos k
    have h := Nat.div_add_mod b (2 ^ k)
    have h2 := Nat.mod_lt b hg
    rw [Nat.add_mul, Nat.mul_comm (b / 2 ^ k)]
    omega
  rw [Nat.shiftRight_eq_div_pow]
  have h2 : (b : Rat) ≤ (((b / 2 ^ k : Nat) : Rat) + 1) * ((2 ^ k : Nat) : Rat) := by
    have := cast_le (Nat.le_of_lt h1)
    rw [cast_mul, cast_add, cast_one] at this
    exact this
  have h3 := Rat.mul_le_mul_of_nonneg_right h2 (Rat.le_of_lt (p2_pos (-(k : Int))))
  rw [Rat.mul_assoc, ← p2_nat, p2_inv] at h3
  grind

theorem le_shr (b k : Nat) : ((b >>> k : Nat) : Rat) ≤ (b : Rat) * p2 (-(k : Int)) := by
  rw [Nat.shiftRight_eq_div_pow]
  have h1 : b / 2 ^ k * 2 ^ k ≤ b := Nat.div_mul_le_self b (2 ^ k)
  have h2 := cast_le h1
  rw [cast_mul, ← p2_nat] at h2
  have h3 := Rat.mul_le_mul_of_nonneg_right h2 (Rat.le_of_lt (p2_pos (-(k : Int))))
  rw [Rat.mul_assoc, p2_inv] at h3
  grind

theorem rnd_ok {z w M : Rat} {b : Nat} (hM : 1 ≤ M) (hN : Nr z w) (hb : ab w * U ≤ (b : Rat) * M) : ab (z - w) * U ≤ ((rnd b : Nat) : Rat) * M := by
  obtain ⟨h1, h2⟩ := hN
  have hl : ab (z - w) ≤ l2 (ab w) := ab_le (by grind) (by grind)
  have h3 := Rat.mul_le_mul_of_nonneg_right hl (Rat.le_of_lt U_pos)
  have h4 : l2 (ab w) * U = p2 (-50) * (ab w * U) + p2 (-900) := by
    unfold l2 U
    have : p2 (-900) = p2 (-1000) * p2 100 := by rw [← p2_add]; rfl
    rw [this]
    grind
  have h5 : p2 (-50) * (ab w * U) ≤ p2 (-50) * ((b : Rat) * M) := Rat.mul_le_mul_of_nonneg_left hb (Rat.le_of_lt (p2_pos _))
  have h6 := shr_le b 50
  have e50 : (-((50 : Nat) : Int)) = -50 := rfl
  rw [e50] at h6
  have h7 := Rat.mul_le_mul_of_nonneg_right h6 (show (0 : Rat) ≤ M by grind)
  have h8 : p2 (-900) ≤ 1 := by
    have := p2_mono (show (-900 : Int) ≤ 0 by omega)
    rw [p2_zero] at this
    exact this
  have h9 : ((rnd b : Nat) : Rat) = ((b >>> 50 : Nat) : Rat) + 2 := by
    show ((b >>> 50 + 2 : Nat) : Rat) = _
    rw [cast_add]; rfl
  rw [h9]
  rw [h4] at h3
  grind

theorem shl_cast (n : Nat) : ((Nat.shiftLeft 1 n : Nat) : Rat) = p2 (n : Int) := by
  rw [p2_nat]
  apply congrArg Nat.cast
  show 1 <<< n = 2 ^ n
  rw [Nat.shiftLeft_eq, Nat.one_mul]

theorem top_cast : ((top : Nat) : Rat) = p2 500 := shl_cast 500

theorem top_ok {w M : Rat} {b : Nat} (hM : 1 ≤ M) (hM2 : M ≤ p2 400) (hb : ab w * U ≤ (b : Rat) * M) (ht : b ≤ top) : ab w ≤ p2 800 := by
  have h1 : (b : Rat) * M ≤ p2 500 * p2 400 := by
    have ha : (b : Rat) * M ≤ p2 500 * M := Rat.mul_le_mul_of_nonneg_right (by rw [← top_cast]; exact cast_le ht) (by grind)
    have hb : p2 500 * M ≤ p2 500 * p2 400 := Rat.mul_le_mul_of_nonneg_left hM2 (Rat.le_of_lt (p2_pos _))
    grind
  have h2 := Rat.mul_le_mul_of_nonneg_right (show ab w * U ≤ p2 500 * p2 400 by grind) (Rat.le_of_lt (p2_pos (-100)))
  have e1 : ab w * U * p2 (-100) = ab w := by
    unfold U
    rw [Rat.mul_assoc, p2_inv]
    grind
  have e2 : p2 500 * p2 400 * p2 (-100) = p2 800 := by
    rw [← p2_add, ← p2_add]
    rfl
  rw [e1, e2] at h2
  exact h2

theorem le_800 : p2 800 ≤ p2 1000 ∧ p2 800 ≤ p2 999 := ⟨p2_mono (by omega), p2_mono (by omega)⟩

/- ### Forms -/

theorem lin_nil (v : Nat → Rat) (j : Nat) : lin v [] j = 0 := rfl

theorem lin_add (v : Nat → Rat) : ∀ (c d : List Int) (j : Nat), lin v (addL c d) j = lin v c j + lin v d j
  | [], d, j => by simp only [addL, lin]; grind
  | a :: c, [], j => by simp only [addL, lin]; grind
  | a :: c, b :: d, j => by
    have e : ((Int.add a b : Int) : Rat) = (a : Rat) + (b : Rat) := Rat.intCast_add a b
    simp only [addL, lin, lin_add v c d (j + 1), e]
    grind

theorem lin_neg (v : Nat → Rat) : ∀ (c : List Int) (j : Nat), lin v (negL c) j = -lin v c j
  | [], j => by simp [negL, lin]
  | a :: c, j => by
    have e : ((Int.neg a : Int) : Rat) = -(a : Rat) := Rat.intCast_neg a
    simp only [negL, lin, lin_neg v c (j + 1), e]
    grind

/-- What cutting makes of a whole number: within one of the exact. -/
def CutOK (g : Nat → Nat) (r : Rat) : Prop := 0 ≤ r ∧ ∀ x : Nat, ((g x : Nat) : Rat) ≤ (x : Rat) * r ∧ (x : Rat) * r ≤ ((g x : Nat) : Rat) + 1

theorem intc (x : Nat) : (((Int.ofNat x : Int)) : Rat) = (x : Rat) := rfl

theorem sgI_ok {g : Nat → Nat} {r : Rat} (hg : CutOK g r) (neg : Bool) (c : Int) : ab ((sgI neg g c : Int) - (c : Rat) * (sg neg * r)) ≤ 1 := by
  have key : ∀ x : Nat, ((g x : Nat) : Rat) ≤ (x : Rat) * r ∧ (x : Rat) * r ≤ ((g x : Nat) : Rat) + 1 := hg.2
  cases c with
  | ofNat x =>
    obtain ⟨h1, h2⟩ := key x
    cases neg
    · simp only [sgI, cond_false, intc, sg, Bool.false_eq_true, if_false]
      exact ab_le (by grind) (by grind)
    · have e : ((Int.neg (Int.ofNat (g x)) : Int) : Rat) = -((g x : Nat) : Rat) := Rat.intCast_neg (Int.ofNat (g x))
      simp only [sgI, cond_true, e, intc, sg, if_true]
      exact ab_le (by grind) (by grind)
  | negSucc x =>
    obtain ⟨h1, h2⟩ := key (Nat.succ x)
    have en : ((Int.negSucc x : Int) : Rat) = -((Nat.succ x : Nat) : Rat) := Rat.intCast_neg (Int.ofNat (Nat.succ x))
    cases neg
    · have e : ((Int.neg (Int.ofNat (g (Nat.succ x))) : Int) : Rat) = -((g (Nat.succ x) : Nat) : Rat) := Rat.intCast_neg (Int.ofNat (g (Nat.succ x)))
      simp only [sgI, cond_false, e, en, sg, Bool.false_eq_true, if_false]
      exact ab_le (by grind) (by grind)
    · simp only [sgI, cond_true, intc, en, sg, if_true]
      exact ab_le (by grind) (by grind)

theorem lin_scl {g : Nat → Nat} {r : Rat} (hg : CutOK g r) (neg : Bool) {v : Nat → Rat} {M : Rat} (hv : ∀ j, ab (v j) ≤ M) : ∀ (c : List Int) (j : Nat),
    ab (lin v (mapI (sgI neg g) c) j - lin v c j * (sg neg * r)) ≤ (c.length : Rat) * M
  | [], j => by
    have e : (0 : Rat) - 0 * (sg neg * r) = 0 := by grind
    have e2 : (((([] : List Int).length : Nat)) : Rat) * M = 0 := by show (0 : Rat) * M = 0; grind
    simp only [mapI, lin]
    rw [e, ab_zero, e2]
    exact Rat.le_refl
  | a :: c, j => by
    have ih := lin_scl hg neg hv c (j + 1)
    have h1 := sgI_ok hg neg a
    have h2 := hv j
    have h3 := ab_mul ((sgI neg g a : Int) - (a : Rat) * (sg neg * r)) (v j)
    have h4 : ab (((sgI neg g a : Int) - (a : Rat) * (sg neg * r)) * v j) ≤ M := by
      rw [h3]
      have := Rat.mul_le_mul_of_nonneg_right h1 (ab_nonneg (v j))
      grind
    have e : lin v (mapI (sgI neg g) (a :: c)) j - lin v (a :: c) j * (sg neg * r) = ((sgI neg g a : Int) - (a : Rat) * (sg neg * r)) * v j + (lin v (mapI (sgI neg g) c) (j + 1) - lin v c (j + 1) * (sg neg * r)) := by
      simp only [mapI, lin]
      grind
    rw [e]
    have h5 := ab_add (((sgI neg g a : Int) - (a : Rat) * (sg neg * r)) * v j) (lin v (mapI (sgI neg g) c) (j + 1) - lin v c (j + 1) * (sg neg * r))
    have h6 : (((a :: c).length : Nat) : Rat) = (c.length : Rat) + 1 := by rw [List.length_cons, cast_add]; rfl
    rw [h6]
    grind

end Go.Sv

namespace Go.Sv
open Go.Fl Ieee

theorem read_sign (neg : Bool) (R : Nat) (hR : R ≤ 2047 * 2 ^ 52) :
    (∃ m p, double.read (double.word neg R) = .number neg m p ∧ (R = 0 → m = 0)) ∨ double.read (double.word neg R) = .infinity neg := by
  obtain ⟨c1, c2, c3, c4, c5⟩ := consts
  have hneg : ((double.word neg R) / 2 ^ 63 % 2 == 1) = neg ∧ (double.word neg R) % 2 ^ 63 = R := by
    unfold Format.word
    rw [c5]
    cases neg
    · simp only [Bool.false_eq_true, if_false]
      have : R / 2 ^ 63 = 0 := Nat.div_eq_of_lt (by omega)
      rw [this]
      exact ⟨rfl, Nat.mod_eq_of_lt (by omega)⟩
    · simp only [if_true]
      have : (2 ^ 63 + R) / 2 ^ 63 = 1 := by omega
      rw [this]
      exact ⟨rfl, by omega⟩
  unfold Format.read
  simp only [c2, c3, c4, c5, hneg.1, hneg.2]
  by_cases h1 : R < 2 ^ 52
  · rw [if_pos h1]; exact .inl ⟨_, _, rfl, fun h => h⟩
  · rw [if_neg h1]
    by_cases h2 : R < 2047 * 2 ^ 52
    · rw [if_pos h2]; exact .inl ⟨_, _, rfl, fun h => by omega⟩
    · rw [if_neg h2, if_pos (by omega)]; exact .inr rfl

theorem write_sign (neg : Bool) (mag : Nat) (place : Int) :
    (∃ m p, double.read (double.write (.number neg mag place)) = .number neg m p ∧ (mag = 0 → m = 0)) ∨ double.read (double.write (.number neg mag place)) = .infinity neg := by
  obtain ⟨c1, c2, c3, c4, c5⟩ := consts
  show (∃ m p, double.read (double.nearest neg mag place) = .number neg m p ∧ (mag = 0 → m = 0)) ∨ double.read (double.nearest neg mag place) = .infinity neg
  unfold Format.nearest
  by_cases hm : mag = 0
  · rw [if_pos hm]
    rcases read_sign neg 0 (by omega) with ⟨m, p, h1, h2⟩ | h
    · exact .inl ⟨m, p, h1, fun _ => h2 rfl⟩
    · exact .inr h
  · rw [if_neg hm]
    simp only [c4]
    generalize hR : min _ (2047 * 2 ^ 52) = R
    rcases read_sign neg R (by omega) with ⟨m, p, h1, h2⟩ | h
    · exact .inl ⟨m, p, h1, fun h => absurd h hm⟩
    · exact .inr h

theorem nn_of {n : Nat} {q : Rat} (h : val n = some q) : (double.read n).isNaN = false := by
  obtain ⟨s, m, p, h1, _⟩ := val_of h
  rw [h1]; rfl

theorem sg_true : sg true = -1 := rfl
theorem sg_false : sg false = 1 := rfl

theorem nonneg_of {n : Nat} {q : Rat} (h : val n = some q) (hq : 0 ≤ q) : nonneg n := by
  obtain ⟨s, m, p, h1, h2⟩ := val_of h
  unfold nonneg
  rw [h1]
  simp only []
  cases s
  · exact .inl rfl
  · refine .inr ?_
    rcases Nat.eq_zero_or_pos m with h0 | h0
    · exact h0
    · exfalso
      have h3 : (0 : Rat) < (m : Rat) := cast_lt h0
      have h4 := Rat.mul_pos h3 (p2_pos p)
      rw [sg_true] at h2
      grind

theorem le_of_nonneg {n : Nat} {q : Rat} (h : val n = some q) (hn : nonneg n) : 0 ≤ q := by
  obtain ⟨s, m, p, h1, h2⟩ := val_of h
  unfold nonneg at hn
  rw [h1] at hn
  simp only [] at hn
  rw [h2]
  rcases hn with rfl | rfl
  · rw [sg_false]
    have := Rat.mul_nonneg (cast_nonneg m) (Rat.le_of_lt (p2_pos p))
    grind
  · have e : ((0 : Nat) : Rat) = 0 := rfl
    rw [e]; grind

theorem nonneg_write {neg : Bool} {mag : Nat} {place : Int} (h : neg = false ∨ mag = 0) : nonneg (double.write (.number neg mag place)) := by
  unfold nonneg
  rcases write_sign neg mag place with ⟨m, p, h1, h2⟩ | h1
  · rw [h1]
    rcases h with h | h
    · exact .inl h
    · exact .inr (h2 h)
  · rw [h1]
    rcases h with h | h
    · exact h
    · exfalso
      subst h
      have := read_sign neg 0 (by omega)
      have e : double.write (.number neg 0 place) = double.word neg 0 := rfl
      rw [e] at h1
      obtain ⟨c1, c2, c3, c4, c5⟩ := consts
      have hh : val (double.word neg 0) = some _ := read_word neg 0 0 (by omega) (by omega) (by omega)
      unfold val at hh
      rw [h1] at hh
      cases hh

theorem sum_nonneg {x y r : Nat} {X Y : Rat} (hx : val x = some X) (hy : val y = some Y) (h0 : 0 ≤ X + Y) (hr : double.add x y = some r) : nonneg r := by
  obtain ⟨s, m, i, h1, h2⟩ := val_of hx
  obtain ⟨t, n, j, h3, h4⟩ := val_of hy
  unfold Format.add at hr
  rw [h1, h3] at hr
  simp only [Datum.sum, Option.map_some, Option.some.injEq] at hr
  subst hr
  generalize hbase : min i j = base
  have e1 : i = base + ((i - base).toNat : Int) := by omega
  have e2 : j = base + ((j - base).toNat : Int) := by omega
  generalize (i - base).toNat = u at *
  generalize (j - base).toNat = v at *
  have hsum : (((signed s m u + signed t n v : Int)) : Rat) * p2 base = X + Y := by
    rw [Rat.intCast_add, signed_val, signed_val, h2, h4, e1, e2, p2_add, p2_add, p2_nat, p2_nat]
    generalize p2 base = pb
    generalize ((2 ^ u : Nat) : Rat) = A
    generalize ((2 ^ v : Nat) : Rat) = B
    grind
  generalize signed s m u + signed t n v = tot at *
  apply nonneg_write
  by_cases ht : tot = 0
  · subst ht; exact .inr rfl
  · rw [if_neg ht]
    refine .inl ?_
    have : ¬ tot < 0 := fun hn => by
      have h5 : (tot : Rat) ≤ -1 := by
        have h8 : tot ≤ -1 := by omega
        have h9 : (tot : Rat) ≤ ((-1 : Int) : Rat) := Rat.intCast_le_intCast.2 h8
        exact h9
      have h6 := Rat.mul_le_mul_of_nonneg_right h5 (Rat.le_of_lt (p2_pos base))
      have h7 := p2_pos base
      grind
    simp [this]

variable {X : Ctx}

theorem M0 (X : Ctx) : 0 ≤ X.M := by have := X.M1; grind

theorem max2N_or (a b : Nat) : max2N a b = a ∨ max2N a b = b := by
  unfold max2N
  cases Nat.ble a b <;> simp

theorem np_max {F G : Fm} {n m : Nat} (hF : Fact X F n) (hG : Fact X G m) (h : max2N F.np G.np ≠ 0) : max2N F.np G.np = X.np := by
  rcases max2N_or F.np G.np with e | e <;> rw [e] at h ⊢
  · exact hF.np h
  · exact hG.np h

theorem le_top {c : Nat} {f : Nat → Option Fm} {K : Fm} (h : lim c f = some K) : c ≤ top ∧ f c = some K := by
  unfold lim at h
  cases hb : Nat.ble c top
  · rw [hb] at h; cases h
  · rw [hb] at h; exact ⟨Nat.le_of_ble_eq_true hb, h⟩

/-- What a rounded number is known by. -/
theorem bd_round {Z W : Rat} {c : Nat} (hN : Nr Z W) (hc : ab W * U ≤ (c : Rat) * X.M) : ab Z * U ≤ ((Nat.add c (rnd c) : Nat) : Rat) * X.M := by
  have h1 := rnd_ok X.M1 hN hc
  have h2 := ab_add (Z - W) W
  have e : Z - W + W = Z := by grind
  rw [e] at h2
  have h3 := Rat.mul_le_mul_of_nonneg_right h2 (Rat.le_of_lt U_pos)
  have e2 : ((Nat.add c (rnd c) : Nat) : Rat) = (c : Rat) + (rnd c : Rat) := cast_add _ _
  rw [e2]
  grind

theorem fm_round {Z W L : Rat} {c e : Nat} (hN : Nr Z W) (hc : ab W * U ≤ (c : Rat) * X.M) (he : ab (W * U - L) ≤ (e : Rat) * X.M) : ab (Z * U - L) ≤ ((Nat.add e (rnd c) : Nat) : Rat) * X.M := by
  have h1 := rnd_ok X.M1 hN hc
  have h2 := ab_add ((Z - W) * U) (W * U - L)
  have e1 : (Z - W) * U + (W * U - L) = Z * U - L := by grind
  rw [e1, ab_mul, ab_of_nonneg (Rat.le_of_lt U_pos)] at h2
  have e2 : ((Nat.add e (rnd c) : Nat) : Rat) = (e : Rat) + (rnd c : Rat) := cast_add _ _
  rw [e2]
  grind

theorem addF_ok {F G K : Fm} {n m : Nat} (hF : Fact X F n) (hG : Fact X G m) (h : addF F G = some K) : ∃ r, double.add n m = some r ∧ Fact X K r := by
  unfold addF at h
  split at h
  · rename_i a b ha hb
    obtain ⟨ht, h⟩ := le_top h
    simp only [Option.some.injEq] at h
    obtain ⟨p, hp, hpb⟩ := hF.bd a ha
    obtain ⟨q, hq, hqb⟩ := hG.bd b hb
    have hc : ab (p + q) * U ≤ ((Nat.add a b : Nat) : Rat) * X.M := by
      have h1 := Rat.mul_le_mul_of_nonneg_right (ab_add p q) (Rat.le_of_lt U_pos)
      have e : ((Nat.add a b : Nat) : Rat) = (a : Rat) + (b : Rat) := cast_add _ _
      rw [e]; grind
    obtain ⟨r, Z, hr, hZ, hN⟩ := add_spec hp hq (Rat.le_trans (top_ok X.M1 X.M2 hc ht) le_800.1)
    refine ⟨r, hr, ?_⟩
    subst h
    refine ⟨fun h => absurd rfl h, fun h => np_max hF hG h, nn_of hZ, fun h => ?_, fun b' hb' => ?_, fun cs e hcs => ?_, fun h => absurd rfl h, fun h => absurd rfl h⟩
    · simp only [Bool.and_eq_true] at h
      have h1 := le_of_nonneg hp (hF.pos h.1)
      have h2 := le_of_nonneg hq (hG.pos h.2)
      exact sum_nonneg hp hq (by grind) hr
    · simp only [Option.some.injEq] at hb'
      subst hb'
      exact ⟨Z, hZ, bd_round hN.nr hc⟩
    · simp only [] at hcs
      split at hcs
      · rename_i c1 e1 d1 f1 hc1 hd1
        simp only [Option.some.injEq, Prod.mk.injEq] at hcs
        obtain ⟨rfl, rfl⟩ := hcs
        obtain ⟨p', hp', h1⟩ := hF.fm c1 e1 hc1
        obtain ⟨q', hq', h2⟩ := hG.fm d1 f1 hd1
        rw [hp] at hp'; rw [hq] at hq'
        simp only [Option.some.injEq] at hp' hq'
        subst hp'; subst hq'
        refine ⟨Z, hZ, fm_round hN.nr hc ?_⟩
        rw [lin_add]
        have h3 := ab_add (p * U - lin X.vq c1 0) (q * U - lin X.vq d1 0)
        have e3 : (p * U - lin X.vq c1 0) + (q * U - lin X.vq d1 0) = (p + q) * U - (lin X.vq c1 0 + lin X.vq d1 0) := by grind
        have e4 : ((Nat.add e1 f1 : Nat) : Rat) = (e1 : Rat) + (f1 : Rat) := cast_add _ _
        rw [e3] at h3
        rw [e4]
        grind
      · cases hcs
  · cases h
end Go.Sv

namespace Go.Sv
open Go.Fl Ieee

variable {X : Ctx}

theorem read_neg (n : Nat) : double.read (fneg n) = (double.read n).opposite := by
  obtain ⟨c1, c2, c3, c4, c5⟩ := consts
  have e : fneg n = n ^^^ 2 ^ 63 := rfl
  have h1 : (n ^^^ 2 ^ 63) % 2 ^ 63 = n % 2 ^ 63 := by
    rw [Nat.xor_mod_two_pow, Nat.mod_self, Nat.xor_zero]
  have h2 : ((n ^^^ 2 ^ 63) / 2 ^ 63 % 2 == 1) = !(n / 2 ^ 63 % 2 == 1) := by
    rw [Nat.xor_div_two_pow, Nat.div_self (Nat.two_pow_pos 63)]
    have h3 := Nat.xor_mod_two_pow (a := n / 2 ^ 63) (b := 1) (n := 1)
    simp only [Nat.pow_one] at h3
    rw [h3]
    rcases Nat.mod_two_eq_zero_or_one (n / 2 ^ 63) with h | h <;> rw [h] <;> rfl
  unfold Format.read
  simp only [c2, c3, c4, c5, e, h1, h2]
  generalize (n / 2 ^ 63 % 2 == 1) = s
  repeat' split
  all_goals rfl

theorem val_neg {n : Nat} {q : Rat} (h : val n = some q) : val (fneg n) = some (-q) := by
  obtain ⟨s, m, p, h1, h2⟩ := val_of h
  unfold val
  rw [read_neg, h1]
  simp only [Datum.opposite]
  apply congrArg some
  rw [h2]
  cases s <;> simp [sg] <;> grind

theorem read_abs (n : Nat) : double.read (n % 2 ^ 63) = match double.read n with | .number _ m p => .number false m p | .infinity _ => .infinity false | .nan _ f => .nan false f := by
  obtain ⟨c1, c2, c3, c4, c5⟩ := consts
  have h1 : n % 2 ^ 63 % 2 ^ 63 = n % 2 ^ 63 := Nat.mod_mod _ _
  have h2 : (n % 2 ^ 63 / 2 ^ 63 % 2 == 1) = false := by
    have : n % 2 ^ 63 / 2 ^ 63 = 0 := Nat.div_eq_of_lt (Nat.mod_lt _ (Nat.two_pow_pos 63))
    rw [this]; rfl
  unfold Format.read
  simp only [c2, c3, c4, c5, h1, h2]
  generalize (n / 2 ^ 63 % 2 == 1) = s
  generalize n % 2 ^ 63 = R
  by_cases g1 : R < 2 ^ 52
  · simp only [g1, if_true]
  · by_cases g2 : R < 2047 * 2 ^ 52
    · simp only [g1, g2, if_true, if_false]
    · by_cases g3 : R = 2047 * 2 ^ 52
      · subst g3
        rfl
      · simp only [g1, g2, g3, if_false]

theorem val_abs {n : Nat} {q : Rat} (h : val n = some q) : val (n % 2 ^ 63) = some (ab q) := by
  obtain ⟨s, m, p, h1, h2⟩ := val_of h
  have hr : double.read (n % 2 ^ 63) = .number false m p := by rw [read_abs, h1]
  unfold val
  rw [hr]
  simp only []
  apply congrArg some
  have h3 := Rat.mul_nonneg (cast_nonneg m) (Rat.le_of_lt (p2_pos p))
  have e : q = sg s * ((m : Rat) * p2 p) := by rw [h2, Rat.mul_assoc]
  have e1 : ab (sg s) = 1 := by cases s <;> simp [ab, sg] <;> decide
  rw [e, ab_mul, ab_of_nonneg h3, e1]
  simp

theorem scl_cut (m : Nat) (p : Int) : CutOK (scl m p) ((m : Rat) * p2 p) := by
  refine ⟨Rat.mul_nonneg (cast_nonneg m) (Rat.le_of_lt (p2_pos p)), fun x => ?_⟩
  cases p with
  | ofNat k =>
    have e : ((scl m (Int.ofNat k) x : Nat) : Rat) = (x : Rat) * ((m : Rat) * p2 (Int.ofNat k)) := by
      show (((x * m) <<< k : Nat) : Rat) = _
      rw [Nat.shiftLeft_eq, cast_mul, cast_mul]
      have : p2 (Int.ofNat k) = ((2 ^ k : Nat) : Rat) := p2_nat k
      rw [this]
      grind
    rw [e]
    exact ⟨Rat.le_refl, by grind⟩
  | negSucc k =>
    have h1 := shr_le (x * m) (k + 1)
    have h2 := le_shr (x * m) (k + 1)
    have e : -(((k + 1 : Nat) : Int)) = Int.negSucc k := rfl
    rw [e, cast_mul] at h1 h2
    have e2 : scl m (Int.negSucc k) x = (x * m) >>> (k + 1) := rfl
    rw [e2]
    exact ⟨by grind, by grind⟩

theorem div_cut (x m : Nat) (hm : m ≠ 0) : ((x / m : Nat) : Rat) * (m : Rat) ≤ (x : Rat) ∧ (x : Rat) ≤ (((x / m : Nat) : Rat) + 1) * (m : Rat) := by
  have hg : 0 < m := Nat.pos_of_ne_zero hm
  have h := Nat.div_add_mod x m
  have h2 := Nat.mod_lt x hg
  have h1 : x / m * m ≤ x := Nat.div_mul_le_self x m
  have h3 : x ≤ (x / m + 1) * m := by
    rw [Nat.add_mul, Nat.mul_comm (x / m)]
    omega
  have c1 := cast_le h1
  have c2 := cast_le h3
  rw [cast_mul] at c1
  rw [cast_mul, cast_add, cast_one] at c2
  exact ⟨c1, c2⟩

theorem dvd_cut (m : Nat) (p : Int) (hm : m ≠ 0) : CutOK (dvd m p) (1 / ((m : Rat) * p2 p)) := by
  have hm0 : (0 : Rat) < (m : Rat) := cast_lt (Nat.pos_of_ne_zero hm)
  have hd : 0 < (m : Rat) * p2 p := Rat.mul_pos hm0 (p2_pos p)
  generalize hr : 1 / ((m : Rat) * p2 p) = r
  have h1 : r * ((m : Rat) * p2 p) = 1 := by
    rw [← hr]
    exact Rat.div_mul_cancel (by grind)
  have hr0 : 0 ≤ r := by
    by_cases h : 0 ≤ r
    · exact h
    · exfalso
      have h2 : r * ((m : Rat) * p2 p) ≤ 0 * ((m : Rat) * p2 p) := Rat.mul_le_mul_of_nonneg_right (by grind) (Rat.le_of_lt hd)
      grind
  refine ⟨hr0, fun x => ?_⟩
  have key : ∀ (g : Rat), g * ((m : Rat) * p2 p) ≤ (x : Rat) → (x : Rat) ≤ (g + 1) * ((m : Rat) * p2 p) → g ≤ (x : Rat) * r ∧ (x : Rat) * r ≤ g + 1 := fun g g1 g2 => by
    have a1 := Rat.mul_le_mul_of_nonneg_right g1 hr0
    have a2 := Rat.mul_le_mul_of_nonneg_right g2 hr0
    have e1 : g * ((m : Rat) * p2 p) * r = g := by rw [Rat.mul_assoc, Rat.mul_comm _ r, h1]; grind
    have e2 : (g + 1) * ((m : Rat) * p2 p) * r = g + 1 := by rw [Rat.mul_assoc, Rat.mul_comm _ r, h1]; grind
    rw [e1] at a1
    rw [e2] at a2
    exact ⟨a1, a2⟩
  apply key
  · cases p with
    | ofNat k =>
      have e : dvd m (Int.ofNat k) x = x / (m * 2 ^ k) := by
        show x / (m <<< k) = _
        rw [Nat.shiftLeft_eq]
      have h2 := (div_cut x (m * 2 ^ k) (by have := Nat.two_pow_pos k; have := Nat.mul_pos (Nat.pos_of_ne_zero hm) this; omega)).1
      have h3 : p2 (Int.ofNat k) = ((2 ^ k : Nat) : Rat) := p2_nat k
      rw [e, h3, ← cast_mul]
      exact h2
    | negSucc k =>
      have e : dvd m (Int.negSucc k) x = (x * 2 ^ (k + 1)) / m := by
        show (x <<< (k + 1)) / m = _
        rw [Nat.shiftLeft_eq]
      have h2 := (div_cut (x * 2 ^ (k + 1)) m hm).1
      rw [cast_mul, ← p2_nat] at h2
      have h3 := p2_inv (((k + 1 : Nat)) : Int)
      have e3 : -(((k + 1 : Nat)) : Int) = Int.negSucc k := rfl
      rw [e3] at h3
      rw [e]
      have h4 := Rat.mul_le_mul_of_nonneg_right h2 (Rat.le_of_lt (p2_pos (Int.negSucc k)))
      have e4 : (x : Rat) * p2 (((k + 1 : Nat)) : Int) * p2 (Int.negSucc k) = x := by rw [Rat.mul_assoc, h3]; grind
      rw [e4] at h4
      grind
  · cases p with
    | ofNat k =>
      have e : dvd m (Int.ofNat k) x = x / (m * 2 ^ k) := by
        show x / (m <<< k) = _
        rw [Nat.shiftLeft_eq]
      have h2 := (div_cut x (m * 2 ^ k) (by have := Nat.two_pow_pos k; have := Nat.mul_pos (Nat.pos_of_ne_zero hm) this; omega)).2
      have h3 : p2 (Int.ofNat k) = ((2 ^ k : Nat) : Rat) := p2_nat k
      rw [e, h3, ← cast_mul]
      exact h2
    | negSucc k =>
      have e : dvd m (Int.negSucc k) x = (x * 2 ^ (k + 1)) / m := by
        show (x <<< (k + 1)) / m = _
        rw [Nat.shiftLeft_eq]
      have h2 := (div_cut (x * 2 ^ (k + 1)) m hm).2
      rw [cast_mul, ← p2_nat] at h2
      have h3 := p2_inv (((k + 1 : Nat)) : Int)
      have e3 : -(((k + 1 : Nat)) : Int) = Int.negSucc k := rfl
      rw [e3] at h3
      rw [e]
      have h4 := Rat.mul_le_mul_of_nonneg_right h2 (Rat.le_of_lt (p2_pos (Int.negSucc k)))
      have e4 : (x : Rat) * p2 (((k + 1 : Nat)) : Int) * p2 (Int.negSucc k) = x := by rw [Rat.mul_assoc, h3]; grind
      rw [e4] at h4
      grind

theorem sclF_ok {neg : Bool} {g : Nat → Nat} {r : Rat} (hg : CutOK g r) {F K : Fm} {n : Nat} (hF : Fact X F n) (h : sclF neg g F = some K) {op : Nat → Option Nat}
    (hop : ∀ q, val n = some q → ab (q * (sg neg * r)) ≤ p2 800 → ∃ y Z, op n = some y ∧ val y = some Z ∧ Nr Z (q * (sg neg * r))) : ∃ y, op n = some y ∧ Fact X K y := by
  unfold sclF at h
  split at h
  · rename_i a ha
    obtain ⟨ht, h⟩ := le_top h
    simp only [Option.some.injEq] at h
    obtain ⟨q, hq, hqb⟩ := hF.bd a ha
    have hr0 := hg.1
    have hsg : ab (sg neg * r) = r := by
      cases neg
      · rw [sg_false, Rat.one_mul, ab_of_nonneg hr0]
      · have e : sg true * r = -r := by rw [sg_true]; grind
        rw [e, ab_neg, ab_of_nonneg hr0]
    have hc : ab (q * (sg neg * r)) * U ≤ ((Nat.succ (g a) : Nat) : Rat) * X.M := by
      rw [ab_mul, hsg]
      have h1 := Rat.mul_le_mul_of_nonneg_right hqb hr0
      have h2 := Rat.mul_le_mul_of_nonneg_right (hg.2 a).2 (M0 X)
      have e : ((Nat.succ (g a) : Nat) : Rat) = ((g a : Nat) : Rat) + 1 := cast_add (g a) 1
      rw [e]
      grind
    obtain ⟨y, Z, hy, hZ, hN⟩ := hop q hq (top_ok X.M1 X.M2 hc ht)
    refine ⟨y, hy, ?_⟩
    subst h
    refine ⟨fun h => absurd rfl h, fun h => hF.np h, nn_of hZ, fun h => by simp at h, fun b' hb' => ?_, fun cs e hcs => ?_, fun h => absurd rfl h, fun h => absurd rfl h⟩
    · simp only [Option.some.injEq] at hb'
      subst hb'
      exact ⟨Z, hZ, bd_round hN hc⟩
    · simp only [] at hcs
      split at hcs
      · rename_i c1 e1 hc1
        simp only [Option.some.injEq, Prod.mk.injEq] at hcs
        obtain ⟨rfl, rfl⟩ := hcs
        obtain ⟨q', hq', h1⟩ := hF.fm c1 e1 hc1
        rw [hq] at hq'
        simp only [Option.some.injEq] at hq'
        subst hq'
        refine ⟨Z, hZ, fm_round hN hc ?_⟩
        have h2 := lin_scl hg neg X.vb c1 0
        have h3 := ab_add ((q * U - lin X.vq c1 0) * (sg neg * r)) (-(lin X.vq (mapI (sgI neg g) c1) 0 - lin X.vq c1 0 * (sg neg * r)))
        have e3 : (q * U - lin X.vq c1 0) * (sg neg * r) + -(lin X.vq (mapI (sgI neg g) c1) 0 - lin X.vq c1 0 * (sg neg * r)) = q * (sg neg * r) * U - lin X.vq (mapI (sgI neg g) c1) 0 := by grind
        rw [e3, ab_neg, ab_mul, hsg] at h3
        have h4 := Rat.mul_le_mul_of_nonneg_right h1 hr0
        have h5 := Rat.mul_le_mul_of_nonneg_right (hg.2 e1).2 (M0 X)
        have e4 : ((Nat.add (Nat.succ (g e1)) c1.length : Nat) : Rat) = ((g e1 : Nat) : Rat) + 1 + (c1.length : Rat) := by
          show ((g e1 + 1 + c1.length : Nat) : Rat) = _
          rw [cast_add, cast_add]; rfl
        rw [e4]
        grind
      · cases hcs
  · cases h
theorem cst_read {c : Nat} {s : Bool} {m : Nat} {p : Int} (h : cst c = some (s, m, p)) : val c = some (sg s * ((m : Rat) * p2 p)) ∧ double.read c = .number s m p := by
  have e : FloatKind.f64.format = double := rfl
  unfold cst at h
  rw [e] at h
  split at h
  · rename_i s' m' p' hr
    simp only [Option.some.injEq, Prod.mk.injEq] at h
    obtain ⟨rfl, rfl, rfl⟩ := h
    refine ⟨?_, hr⟩
    unfold val
    rw [hr]
    simp only []
    apply congrArg some
    unfold sg
    rw [Rat.mul_assoc]
  · cases h

theorem mulc_ok {F K : Fm} {n c : Nat} {s : Bool} {m : Nat} {p : Int} (hc : cst c = some (s, m, p)) (hF : Fact X F n) (h : sclF s (scl m p) F = some K) : (∃ y, double.mul n c = some y ∧ Fact X K y) ∧ ∃ y, double.mul c n = some y ∧ Fact X K y := by
  obtain ⟨hv, _⟩ := cst_read hc
  refine ⟨sclF_ok (scl_cut m p) hF h (op := fun n => double.mul n c) fun q hq hb => ?_, sclF_ok (scl_cut m p) hF h (op := fun n => double.mul c n) fun q hq hb => ?_⟩
  · obtain ⟨r, Z, h1, h2, h3⟩ := mul_spec hq hv (Rat.le_trans hb le_800.1)
    exact ⟨r, Z, h1, h2, h3.nr⟩
  · have e : sg s * ((m : Rat) * p2 p) * q = q * (sg s * ((m : Rat) * p2 p)) := Rat.mul_comm _ _
    obtain ⟨r, Z, h1, h2, h3⟩ := mul_spec hv hq (by rw [e]; exact Rat.le_trans hb le_800.1)
    rw [e] at h3
    exact ⟨r, Z, h1, h2, h3.nr⟩

theorem quoc_ok {F K : Fm} {n c : Nat} {s : Bool} {m : Nat} {p : Int} (hc : cst c = some (s, m, p)) (hm : m ≠ 0) (hF : Fact X F n) (h : sclF s (dvd m p) F = some K) : ∃ y, double.div n c = some y ∧ Fact X K y := by
  obtain ⟨hv, _⟩ := cst_read hc
  have hm0 : (0 : Rat) < (m : Rat) := cast_lt (Nat.pos_of_ne_zero hm)
  have hd : 0 < (m : Rat) * p2 p := Rat.mul_pos hm0 (p2_pos p)
  refine sclF_ok (dvd_cut m p hm) hF h (op := fun n => double.div n c) fun q hq hb => ?_
  generalize hD : (m : Rat) * p2 p = D at *
  have e : q / (sg s * D) = q * (sg s * (1 / D)) := by
    cases s
    · rw [sg_false]; grind
    · rw [sg_true]; grind
  have h0 : sg s * D ≠ 0 := by cases s <;> simp only [sg_true, sg_false] <;> grind
  obtain ⟨r, Z, h1, h2, h3⟩ := div_spec hq hv h0 (by rw [e]; exact Rat.le_trans hb le_800.2)
  rw [e] at h3
  exact ⟨r, Z, h1, h2, h3⟩

theorem mul_nonneg {x y r : Nat} (hx : nonneg x) (hy : nonneg y) {p q : Rat} (hp : val x = some p) (hq : val y = some q) (hr : double.mul x y = some r) : nonneg r := by
  obtain ⟨s, m, i, h1, _⟩ := val_of hp
  obtain ⟨t, n, j, h3, _⟩ := val_of hq
  unfold nonneg at hx hy
  rw [h1] at hx
  rw [h3] at hy
  unfold Format.mul at hr
  rw [h1, h3] at hr
  simp only [Datum.product, Option.map_some, Option.some.injEq] at hr
  subst hr
  apply nonneg_write
  simp only [] at hx hy
  rcases hx with rfl | rfl
  · rcases hy with rfl | rfl
    · exact .inl rfl
    · exact .inr (Nat.mul_zero _)
  · exact .inr (Nat.zero_mul _)

theorem mulF_ok {F G K : Fm} {n m : Nat} (hF : Fact X F n) (hG : Fact X G m) (h : mulF F G = some K) : ∃ r, double.mul n m = some r ∧ Fact X K r := by
  unfold mulF at h
  split at h
  · rename_i a b ha hb
    cases hnp : Nat.ble (max2N F.np G.np) 1
    case true => rw [hnp] at h; cases h
    rw [hnp, cond_false] at h
    have hnp2 : 2 ≤ max2N F.np G.np := by
      by_cases h2 : max2N F.np G.np ≤ 1
      · rw [Nat.ble_eq_true_of_le h2] at hnp; cases hnp
      · omega
    have hnp0 : max2N F.np G.np ≠ 0 := by omega
    have hMs : X.M ≤ p2 20 := X.M4 (np_max hF hG hnp0 ▸ hnp2)
    obtain ⟨ht, h⟩ := le_top h
    simp only [Option.some.injEq] at h
    obtain ⟨p, hp, hpb⟩ := hF.bd a ha
    obtain ⟨q, hq, hqb⟩ := hG.bd b hb
    have hM0 := M0 X
    have hc : ab (p * q) * U ≤ ((Nat.succ (Nat.shiftRight (Nat.mul a b) 80) : Nat) : Rat) * X.M := by
      have e : ((Nat.succ (Nat.shiftRight (Nat.mul a b) 80) : Nat) : Rat) = (((a * b) >>> 80 : Nat) : Rat) + 1 := cast_add _ 1
      have hs := shr_le (a * b) 80
      have e80 : (-((80 : Nat) : Int)) = -80 := rfl
      rw [e80, cast_mul] at hs
      have h1 : ab p * U * (ab q * U) ≤ (a : Rat) * X.M * ((b : Rat) * X.M) := by
        have g1 := Rat.mul_le_mul_of_nonneg_right hpb (Rat.mul_nonneg (ab_nonneg q) (Rat.le_of_lt U_pos))
        have g2 := Rat.mul_le_mul_of_nonneg_left hqb (Rat.mul_nonneg (cast_nonneg a) hM0)
        exact Rat.le_trans g1 g2
      have h2 : (a : Rat) * X.M * ((b : Rat) * X.M) ≤ (a : Rat) * X.M * ((b : Rat) * p2 20) :=
        Rat.mul_le_mul_of_nonneg_left (Rat.mul_le_mul_of_nonneg_left hMs (cast_nonneg b)) (Rat.mul_nonneg (cast_nonneg a) hM0)
      have h3 := Rat.mul_le_mul_of_nonneg_right (Rat.le_trans h1 h2) (Rat.le_of_lt (p2_pos (-100)))
      have e1 : ab p * U * (ab q * U) * p2 (-100) = ab p * ab q * U * (U * p2 (-100)) := by grind
      have e2 : U * p2 (-100) = 1 := p2_inv 100
      have e3 : (a : Rat) * X.M * ((b : Rat) * p2 20) * p2 (-100) = (a : Rat) * (b : Rat) * (p2 20 * p2 (-100)) * X.M := by grind
      have e4 : p2 20 * p2 (-100) = p2 (-80) := by rw [← p2_add]; rfl
      rw [e1, e2, e3, e4] at h3
      have h4 := Rat.mul_le_mul_of_nonneg_right hs hM0
      rw [e, ab_mul]
      grind
    obtain ⟨r, Z, hr, hZ, hN⟩ := mul_spec hp hq (Rat.le_trans (top_ok X.M1 X.M2 hc ht) le_800.1)
    refine ⟨r, hr, ?_⟩
    subst h
    refine ⟨fun h => absurd rfl h, fun h => np_max hF hG h, nn_of hZ, fun h => ?_, fun b' hb' => ?_, fun cs e hcs => (by simp at hcs), fun h => absurd rfl h, fun h => absurd rfl h⟩
    · simp only [Bool.and_eq_true] at h
      exact mul_nonneg (hF.pos h.1) (hG.pos h.2) hp hq hr
    simp only [Option.some.injEq] at hb'
    subst hb'
    exact ⟨Z, hZ, bd_round hN.nr hc⟩
  · cases h

theorem negF_ok {F : Fm} {n : Nat} (hF : Fact X F n) {b : Nat} (hb : F.bd = some b) : Fact X (negF F) (fneg n) := by
  obtain ⟨q, hq, hqb⟩ := hF.bd b hb
  have hv := val_neg hq
  refine ⟨fun h => absurd rfl h, fun h => hF.np h, nn_of hv, fun h => by simp [negF] at h, fun b' hb' => ?_, fun cs e hcs => ?_, fun h => absurd rfl h, fun h => ?_⟩
  rotate_left 2
  · simp only [negF] at h ⊢
    cases h7 : Nat.beq F.mm 7
    · cases h8 : Nat.beq F.mm 8
      rotate_left
      · have e8 := Nat.eq_of_beq_eq_true h8
        obtain ⟨q', hq', _, _, _, _, _, _, _, k8⟩ := hF.mm (by rw [e8]; decide)
        rw [hq] at hq'
        simp only [Option.some.injEq] at hq'
        subst hq'
        refine ⟨-q, hv, fun e => (by cases e), fun e => (by cases e), fun e => (by cases e), fun e => (by cases e), fun e => (by cases e), fun e => (by cases e), fun _ => ?_, fun e => (by cases e)⟩
        have := k8 e8
        grind
      cases h5 : Nat.beq F.mm 5
      · rw [h7, h8, h5] at h; exact absurd rfl h
      · have e5 := Nat.eq_of_beq_eq_true h5
        obtain ⟨q', hq', _, _, _, _, k5, _⟩ := hF.mm (by rw [e5]; decide)
        rw [hq] at hq'
        simp only [Option.some.injEq] at hq'
        subst hq'
        refine ⟨-q, hv, fun e => (by cases e), fun e => (by cases e), fun e => (by cases e), fun e => (by cases e), fun _ => ?_, fun e => (by cases e), fun e => (by cases e), fun e => (by cases e)⟩
        have := k5 e5
        grind
    · have e7 := Nat.eq_of_beq_eq_true h7
      obtain ⟨q', hq', _, _, _, _, _, _, k7, _⟩ := hF.mm (by rw [e7]; decide)
      rw [hq] at hq'
      simp only [Option.some.injEq] at hq'
      subst hq'
      refine ⟨-q, hv, fun e => (by cases e), fun e => (by cases e), fun e => (by cases e), fun e => (by cases e), fun e => (by cases e), fun e => (by cases e), fun e => (by cases e), fun _ => ?_⟩
      have := k7 e7
      grind
  · have hb2 : F.bd = some b' := hb'
    obtain ⟨q', hq', h1⟩ := hF.bd b' hb2
    rw [hq] at hq'
    simp only [Option.some.injEq] at hq'
    subst hq'
    exact ⟨-q, hv, by rw [ab_neg]; exact h1⟩
  · simp only [negF] at hcs
    split at hcs
    · rename_i c1 e1 hc1
      simp only [Option.some.injEq, Prod.mk.injEq] at hcs
      obtain ⟨rfl, rfl⟩ := hcs
      obtain ⟨q', hq', h1⟩ := hF.fm c1 e1 hc1
      rw [hq] at hq'
      simp only [Option.some.injEq] at hq'
      subst hq'
      refine ⟨-q, hv, ?_⟩
      rw [lin_neg]
      have e : -q * U - -lin X.vq c1 0 = -(q * U - lin X.vq c1 0) := by grind
      rw [e, ab_neg]
      exact h1
    · cases hcs

theorem sub_is_add {n m : Nat} : double.sub n m = double.add n (fneg m) := by
  unfold Format.sub Format.add
  rw [read_neg]

theorem subF_ok {F G K : Fm} {n m : Nat} (hF : Fact X F n) (hG : Fact X G m) (h : subF F G = some K) : ∃ r, double.sub n m = some r ∧ Fact X K r := by
  rw [sub_is_add]
  have hb : ∃ b, G.bd = some b := by
    unfold subF addF at h
    split at h
    · rename_i a b ha hb; exact ⟨b, hb⟩
    · cases h
  obtain ⟨b, hb⟩ := hb
  have hF' : Fact X { F with pos := false } n := ⟨hF.id, hF.np, hF.nn, fun h => (by cases h), hF.bd, hF.fm, hF.lw, hF.mm⟩
  exact addF_ok hF' (negF_ok hG hb) h

theorem sub_same {n : Nat} {q : Rat} (h : val n = some q) : double.sub n n = some 0 := by
  obtain ⟨s, m, p, h1, _⟩ := val_of h
  unfold Format.sub
  rw [h1]
  have hs : signed s m (p - min p p).toNat + signed (!s) m (p - min p p).toNat = 0 := by
    unfold signed
    cases s <;> simp <;> omega
  simp only [Datum.opposite, Datum.sum, hs, if_true]
  cases s <;> rfl

theorem absF_ok {F : Fm} {n : Nat} (hF : Fact X F n) {b : Nat} (hb : F.bd = some b) : Fact X (absF F) (n % 2 ^ 63) := by
  obtain ⟨q, hq, hqb⟩ := hF.bd b hb
  have hv := val_abs hq
  refine ⟨fun h => absurd rfl h, fun h => hF.np h, nn_of hv, fun _ => nonneg_of hv (ab_nonneg q), fun b' hb' => ?_, fun cs e hcs => (by simp [absF] at hcs), fun h => ?_, fun h => ?_⟩
  · have hb2 : F.bd = some b' := hb'
    obtain ⟨q', hq', h1⟩ := hF.bd b' hb2
    rw [hq] at hq'
    simp only [Option.some.injEq] at hq'
    subst hq'
    exact ⟨ab q, hv, by rw [ab_of_nonneg (ab_nonneg q)]; exact h1⟩
  · have hl : F.lw ≠ 0 := fun e => by simp [absF, e] at h
    obtain ⟨q', hq', h1, _⟩ := hF.lw hl
    rw [hq] at hq'
    simp only [Option.some.injEq] at hq'
    subst hq'
    refine ⟨ab q, hv, fun e => h1 ?_, fun h2 => ?_⟩
    · have := le_ab q
      grind
    · simp only [absF] at h2
      cases hb0 : Nat.beq F.lw 0 <;> rw [hb0] at h2 <;> simp at h2
  · have hm : F.mm = 3 := by
      simp only [absF] at h
      cases hb0 : Nat.beq F.mm 3
      · rw [hb0] at h; exact absurd rfl h
      · exact Nat.eq_of_beq_eq_true hb0
    obtain ⟨q', hq', _, _, h3, _⟩ := hF.mm (by rw [hm]; decide)
    rw [hq] at hq'
    simp only [Option.some.injEq] at hq'
    subst hq'
    have e4 : (absF F).mm = 4 := by simp [absF, hm]
    refine ⟨ab q, hv, fun e => ?_, fun e => ?_, fun e => ?_, fun _ => h3 hm, fun e => ?_, fun e => ?_, fun e => ?_, fun e => ?_⟩ <;> (rw [e4] at e; cases e)

theorem fabs_eq (n : Nat) : fabs n = ((n % 2 ^ 63 : Nat) : Int) := by
  have h1 : (BitVec.ofInt 64 (n : Int) &&& ~~~BitVec.ofInt 64 (2 ^ 63)).toNat = n % 2 ^ 63 := by
    have e1 : (~~~BitVec.ofInt 64 (2 ^ 63)).toNat = 2 ^ 63 - 1 := by decide
    have e2 : (BitVec.ofInt 64 (n : Int)).toNat = n % 2 ^ 64 := by simp
    rw [BitVec.toNat_and, e1, e2, Nat.and_two_pow_sub_one_eq_mod]
    omega
  unfold fabs
  rw [h1]
  have h2 : n % 2 ^ 63 < 2 ^ 63 := Nat.mod_lt _ (Nat.two_pow_pos 63)
  generalize n % 2 ^ 63 = k at *
  simp only [IntKind.wrap, IntKind.signed, IntKind.bits]
  simp
  omega
end Go.Sv

namespace Go.Sv
open Go.Fl Ieee

variable {X : Ctx}

theorem order_num {x y : Nat} {P Q : Rat} (hx : val x = some P) (hy : val y = some Q) : (P < Q → double.order x y = some .lt) ∧ (P = Q → double.order x y = some .eq) ∧ (Q < P → double.order x y = some .gt) := by
  obtain ⟨s, m, i, h1, h2⟩ := val_of hx
  obtain ⟨t, n, j, h3, h4⟩ := val_of hy
  unfold Format.order
  rw [h1, h3]
  simp only [Datum.order]
  generalize hbase : min i j = base
  have e1 : i = base + ((i - base).toNat : Int) := by omega
  have e2 : j = base + ((j - base).toNat : Int) := by omega
  generalize (i - base).toNat = u at *
  generalize (j - base).toNat = v at *
  have a1 : ((signed s m u : Int) : Rat) * p2 base = P := by
    rw [signed_val, h2, e1, p2_add, p2_nat]; grind
  have a2 : ((signed t n v : Int) : Rat) * p2 base = Q := by
    rw [signed_val, h4, e2, p2_add, p2_nat]; grind
  generalize signed s m u = a at *
  generalize signed t n v = b at *
  have hp := p2_pos base
  have le : a ≤ b → P ≤ Q := fun h => by
    rw [← a1, ← a2]
    exact Rat.mul_le_mul_of_nonneg_right (Rat.intCast_le_intCast.2 h) (Rat.le_of_lt hp)
  have ge : b ≤ a → Q ≤ P := fun h => by
    rw [← a1, ← a2]
    exact Rat.mul_le_mul_of_nonneg_right (Rat.intCast_le_intCast.2 h) (Rat.le_of_lt hp)
  have lt' : a < b → P < Q := fun h => by
    have h5 : ((a + 1 : Int) : Rat) ≤ (b : Rat) := Rat.intCast_le_intCast.2 (by omega)
    have h6 := Rat.mul_le_mul_of_nonneg_right h5 (Rat.le_of_lt hp)
    rw [Rat.intCast_add] at h6
    have e : ((1 : Int) : Rat) = 1 := rfl
    rw [e] at h6
    grind
  have gt' : b < a → Q < P := fun h => by
    have h5 : ((b + 1 : Int) : Rat) ≤ (a : Rat) := Rat.intCast_le_intCast.2 (by omega)
    have h6 := Rat.mul_le_mul_of_nonneg_right h5 (Rat.le_of_lt hp)
    rw [Rat.intCast_add] at h6
    have e : ((1 : Int) : Rat) = 1 := rfl
    rw [e] at h6
    grind
  refine ⟨fun h => ?_, fun h => ?_, fun h => ?_⟩
  · have : a < b := by
      by_cases g : a < b
      · exact g
      · have := ge (by omega); grind
    simp [compare, compareOfLessAndEq, this]
  · have : a = b := by
      rcases Int.lt_trichotomy a b with g | g | g
      · have := lt' g; grind
      · exact g
      · have := gt' g; grind
    subst this
    simp [compare, compareOfLessAndEq]
  · have : b < a := by
      by_cases g : b < a
      · exact g
      · have := le (by omega); grind
    have h1 : ¬ a < b := by omega
    have h2 : ¬ a = b := by omega
    simp [compare, compareOfLessAndEq, h1, h2]

theorem toS_ok {x : AF} {n k : Nat} {F : Fm} (hx : RF X x n) (h : toS x = some (k, F)) : k = n ∧ Fact X F n := by
  cases x with
  | f c =>
    simp only [toS] at h
    split at h
    · rename_i s m p hc
      simp only [Option.some.injEq, Prod.mk.injEq] at h
      obtain ⟨rfl, rfl⟩ := h
      have hx' : n = c := hx
      subst hx'
      obtain ⟨hv, hr⟩ := cst_read hc
      have h3 := Rat.mul_nonneg (cast_nonneg m) (Rat.le_of_lt (p2_pos p))
      have hM := X.M1
      have hcut := (scl_cut m p).2 (2 ^ 100)
      have e100 : ((2 ^ 100 : Nat) : Rat) = U := (p2_nat 100).symm
      rw [e100] at hcut
      generalize hD : (m : Rat) * p2 p = D at *
      have hab : ab (sg s * D) = D := by
        cases s
        · rw [sg_false, Rat.one_mul, ab_of_nonneg h3]
        · have e : sg true * D = -D := by rw [sg_true]; grind
          rw [e, ab_neg, ab_of_nonneg h3]
      refine ⟨rfl, fun h => absurd rfl h, fun h => absurd rfl h, nn_of hv, fun h => ?_, fun b hb => ?_, fun cs e hcs => ?_, fun h => absurd rfl h, fun h => absurd rfl h⟩
      · have hs : s = false := by simpa [cstF] using h
        subst hs
        exact nonneg_of hv (by rw [sg_false]; grind)
      · simp only [cstF, Option.some.injEq] at hb
        subst hb
        refine ⟨_, hv, ?_⟩
        rw [hab]
        have e : ((Nat.succ (scl m p (2 ^ 100)) : Nat) : Rat) = ((scl m p (2 ^ 100) : Nat) : Rat) + 1 := cast_add (scl m p (2 ^ 100)) 1
        rw [e]
        have g := cast_nonneg (scl m p (2 ^ 100))
        have h5 := Rat.mul_le_mul_of_nonneg_left hM (show (0 : Rat) ≤ ((scl m p (2 ^ 100) : Nat) : Rat) + 1 by grind)
        grind
      · simp only [cstF, Option.some.injEq, Prod.mk.injEq] at hcs
        obtain ⟨rfl, rfl⟩ := hcs
        refine ⟨_, hv, ?_⟩
        have h6 := sgI_ok (scl_cut m p) s (2 ^ 100)
        rw [hD] at h6
        have e2 : ((2 ^ 100 : Int) : Rat) = U := e100
        rw [e2] at h6
        have e3 : sg s * D * U - lin X.vq [sgI s (scl m p) (2 ^ 100)] 0 = -(((sgI s (scl m p) (2 ^ 100) : Int) : Rat) - U * (sg s * D)) := by
          simp only [lin, X.v0]
          grind
        rw [e3, ab_neg]
        have e4 : ((1 : Nat) : Rat) = 1 := rfl
        rw [e4]
        grind
    · cases h
  | nan => cases h
  | s k' F' =>
    simp only [toS, Option.some.injEq, Prod.mk.injEq] at h
    obtain ⟨rfl, rfl⟩ := h
    obtain ⟨rfl, h2⟩ := hx
    exact ⟨rfl, h2⟩

theorem posL_ok {v : Nat → Rat} {e : Nat} : ∀ (k : Nat) (c : List Int) (j : Nat), (∀ i, j ≤ i → i < j + k → 0 ≤ v i) → posL e k c = true → (8 * (e : Rat) + 1) * psum v k j ≤ lin v c j
  | 0, [], j, _, _ => by simp only [psum, lin]; grind
  | 0, c :: r, j, hv, h => by
    simp only [posL, Bool.and_eq_true] at h
    have ih := posL_ok (v := v) 0 r (j + 1) (fun i h1 h2 => by omega) h.2
    have hc : c = 0 := by
      cases c with
      | ofNat x => cases x with
        | zero => rfl
        | succ x => exact Bool.noConfusion (show false = true from h.1)
      | negSucc x => exact Bool.noConfusion (show false = true from h.1)
    subst hc
    simp only [psum, lin] at ih ⊢
    have e0 : ((0 : Int) : Rat) = 0 := rfl
    rw [e0]
    grind
  | k + 1, [], j, _, h => by simp [posL] at h
  | k + 1, c :: r, j, hv, h => by
    simp only [posL, Bool.and_eq_true] at h
    have ih := posL_ok (v := v) k r (j + 1) (fun i h1 h2 => hv i (by omega) (by omega)) h.2
    have h0 := hv j (Nat.le_refl _) (by omega)
    have hc : 8 * (e : Rat) + 1 ≤ (c : Rat) := by
      cases c with
      | ofNat x =>
        have h1 := cast_le (Nat.le_of_ble_eq_true h.1)
        have e1 : ((Nat.succ (Nat.mul 8 e) : Nat) : Rat) = 8 * (e : Rat) + 1 := by
          show ((8 * e + 1 : Nat) : Rat) = _
          rw [cast_add, cast_mul]; rfl
        rw [e1] at h1
        exact h1
      | negSucc x => simp at h
    have := Rat.mul_le_mul_of_nonneg_right hc h0
    simp only [psum, lin]
    grind

theorem posF_ok {e : Nat} {cs : List Int} (h : posF X.np e cs = true) : (e : Rat) * X.M < lin X.vq cs 0 := by
  unfold posF at h
  split at h
  · rename_i k c r hnp
    simp only [Bool.and_eq_true] at h
    have hk : 1 ≤ k := Nat.le_of_ble_eq_true h.1.2
    have h1 := posL_ok (v := X.vq) k r 1 (fun i h1 h2 => X.vp i h1 (by omega)) h.2
    have h2 := X.vs (by omega)
    have ek : X.np - 1 = k := by omega
    rw [ek] at h2
    have h0 : (0 : Rat) ≤ (c : Rat) := by
      have h3 := h.1.1
      cases c with
      | ofNat x => exact cast_nonneg x
      | negSucc x => simp at h3
    simp only [lin, X.v0]
    have hM := X.M1
    have he := cast_nonneg e
    generalize psum X.vq k 1 = S at *
    have h4 := Rat.mul_le_mul_of_nonneg_left h2 he
    grind
  · cases h

theorem lessF_ok {F G : Fm} {n m : Nat} (hF : Fact X F n) (hG : Fact X G m) (h : lessF F G = true) : ∃ p q, val n = some p ∧ val m = some q ∧ p < q := by
  unfold lessF at h
  split at h
  · rename_i cs e ds d hc hd
    obtain ⟨p, hp, h1⟩ := hF.fm cs e hc
    obtain ⟨q, hq, h2⟩ := hG.fm ds d hd
    refine ⟨p, q, hp, hq, ?_⟩
    have hnp : max2N F.np G.np = X.np := by
      apply np_max hF hG
      intro h0
      rw [h0] at h
      simp [posF] at h
    rw [hnp] at h
    have h3 := posF_ok h
    rw [lin_add, lin_neg] at h3
    have e1 : ((Nat.add e d : Nat) : Rat) = (e : Rat) + (d : Rat) := cast_add _ _
    rw [e1] at h3
    have g1 := le_ab (p * U - lin X.vq cs 0)
    have g2 := le_ab (q * U - lin X.vq ds 0)
    have h4 : 0 < (q - p) * U := by grind
    by_cases h5 : p < q
    · exact h5
    · exfalso
      have := Rat.mul_le_mul_of_nonneg_right (show q ≤ p by grind) (Rat.le_of_lt U_pos)
      grind
  · cases h

theorem within_ok {F : Fm} {n : Nat} (hF : Fact X F n) {m : Nat} {p : Int} (h : within F m p = true) : ∃ q, val n = some q ∧ ab q < (m : Rat) * p2 p := by
  unfold within at h
  split at h
  · rename_i b hb
    obtain ⟨q, hq, h1⟩ := hF.bd b hb
    refine ⟨q, hq, ?_⟩
    simp only [Bool.and_eq_true] at h
    have hnp2 : 2 ≤ F.np := by
      by_cases h2 : F.np ≤ 1
      · rw [Nat.ble_eq_true_of_le h2] at h; simp at h
      · omega
    have hnp0 : F.np ≠ 0 := by omega
    have hMs : X.M ≤ p2 20 := X.M4 (hF.np hnp0 ▸ hnp2)
    have h2 := cast_le (Nat.le_of_ble_eq_true h.2)
    have h3 := ((scl_cut m p).2 (2 ^ 100)).1
    have e100 : ((2 ^ 100 : Nat) : Rat) = U := (p2_nat 100).symm
    rw [e100] at h3
    have e1 : ((Nat.succ (Nat.shiftLeft b 20) : Nat) : Rat) = (b : Rat) * p2 20 + 1 := by
      have : ((Nat.succ (Nat.shiftLeft b 20) : Nat) : Rat) = ((b <<< 20 : Nat) : Rat) + 1 := cast_add (b <<< 20) 1
      rw [this, Nat.shiftLeft_eq, cast_mul]
      have e : p2 20 = ((2 ^ 20 : Nat) : Rat) := p2_nat 20
      rw [e]
    rw [e1] at h2
    have h4 := Rat.mul_le_mul_of_nonneg_left hMs (cast_nonneg b)
    generalize (m : Rat) * p2 p = D at *
    have h5 : ab q * U < D * U := by grind
    by_cases h6 : ab q < D
    · exact h6
    · exfalso
      have := Rat.mul_le_mul_of_nonneg_right (show D ≤ ab q by grind) (Rat.le_of_lt U_pos)
      grind
  · cases h

theorem lessS_ok {x y : AF} {n m : Nat} (hx : RF X x n) (hy : RF X y m) (h : lessS x y = true) : ∃ p q, val n = some p ∧ val m = some q ∧ p < q := by
  cases x with
  | nan => cases y <;> simp [lessS] at h
  | f c =>
    cases y with
    | nan => simp [lessS] at h
    | f d => simp [lessS] at h
    | s k G =>
      obtain ⟨rfl, hG⟩ := hy
      have hx' : n = c := hx
      subst hx'
      simp only [lessS] at h
      split at h
      · rename_i s mm p hc
        obtain ⟨hv, _⟩ := cst_read hc
        simp only [Bool.or_eq_true, Bool.and_eq_true] at h
        rcases h with ((⟨hs, hw⟩ | ⟨⟨hm, hp⟩, hl⟩) | ⟨hs, hm6, h65⟩) | h
        · obtain ⟨q, hq, h1⟩ := within_ok hG hw
          refine ⟨_, q, hv, hq, ?_⟩
          subst hs
          rw [sg_true]
          have := le_ab q
          grind
        · have hm0 := Nat.eq_of_beq_eq_true hm
          subst hm0
          obtain ⟨q, hq, h1, _⟩ := hG.lw (fun e => by rw [e] at hl; cases hl)
          have h2 := le_of_nonneg hq (hG.pos hp)
          refine ⟨_, q, hv, hq, ?_⟩
          have e0 : ((0 : Nat) : Rat) = 0 := rfl
          rw [e0]
          have e1 : sg s * (0 * p2 p) = 0 := by grind
          rw [e1]
          grind
        · have h6 := Nat.eq_of_beq_eq_true hm6
          obtain ⟨q, hq, _, _, _, _, _, hq6, _⟩ := hG.mm (by rw [h6]; decide)
          refine ⟨_, q, hv, hq, ?_⟩
          subst hs
          rw [sg_true]
          have h7 := hq6 h6
          have h8 := ((scl_cut mm p).2 1).1
          have h9 := cast_le (Nat.le_of_ble_eq_true h65)
          have e65 : ((65 : Nat) : Rat) = 65 := rfl
          have e1 : ((1 : Nat) : Rat) = 1 := rfl
          rw [e65] at h9
          rw [e1] at h8
          have h10 := le_ab q
          generalize (mm : Rat) * p2 p = D at *
          grind
        · exact lessF_ok (toS_ok (X := X) (x := .f n) (k := n) rfl (by simp only [toS, hc])).2 hG h
      · cases h
  | s k F =>
    obtain ⟨rfl, hF⟩ := hx
    cases y with
    | nan => simp [lessS] at h
    | f c =>
      have hy' : m = c := hy
      subst hy'
      simp only [lessS] at h
      split at h
      · rename_i s mm p hc
        obtain ⟨hv, _⟩ := cst_read hc
        simp only [Bool.or_eq_true, Bool.and_eq_true] at h
        rcases h with ⟨hs, hw⟩ | h
        · obtain ⟨q, hq, h1⟩ := within_ok hF hw
          refine ⟨q, _, hq, hv, ?_⟩
          have hs' : s = false := by simpa using hs
          subst hs'
          rw [sg_false]
          have := le_ab q
          grind
        · exact lessF_ok hF (toS_ok (X := X) (x := .f m) (k := m) rfl (by simp only [toS, hc])).2 h
      · cases h
    | s k' G =>
      obtain ⟨rfl, hG⟩ := hy
      exact lessF_ok hF hG h

theorem order_self {n : Nat} (h : (double.read n).isNaN = false) : double.order n n = some .eq := by
  cases hr : double.read n with
  | number s m p =>
    have hv : val n = some ((if s then -1 else 1) * (m : Rat) * p2 p) := by unfold val; rw [hr]
    exact (order_num hv hv).2.1 rfl
  | infinity s => unfold Format.order; rw [hr]; cases s <;> rfl
  | nan s f => rw [hr] at h; cases h

theorem sameId_ok {F G : Fm} {n m : Nat} (hF : Fact X F n) (hG : Fact X G m) (h : sameId F G = true) : n = m := by
  unfold sameId at h
  simp only [Bool.and_eq_true] at h
  have h1 : F.id = G.id := Nat.eq_of_beq_eq_true h.1
  have h2 : F.id ≠ 0 := fun e => by rw [e] at h; simp at h
  rw [hF.id h2, hG.id (h1 ▸ h2), h1]

theorem geS_ok {x y : AF} {n m : Nat} (hx : RF X x n) (hy : RF X y m) (h : geS x y = true) : (double.order n m = some .eq ∧ double.order m n = some .eq) ∨ (double.order n m = some .gt ∧ double.order m n = some .lt) := by
  cases x with
  | nan => cases y <;> simp [geS] at h
  | f c => cases y <;> simp [geS] at h
  | s k F =>
    obtain ⟨rfl, hF⟩ := hx
    cases y with
    | nan => simp [geS] at h
    | s k' G =>
      obtain ⟨rfl, hG⟩ := hy
      simp only [geS] at h
      have := sameId_ok hF hG h
      subst this
      have := order_self hF.nn
      exact .inl ⟨this, this⟩
    | f c =>
      have hy' : m = c := hy
      subst hy'
      simp only [geS] at h
      split at h
      · rename_i s mm p hc
        obtain ⟨hv, hrc⟩ := cst_read hc
        simp only [Bool.and_eq_true] at h
        have hm := Nat.eq_of_beq_eq_true h.2
        subst hm
        have e0 : sg s * (((0 : Nat) : Rat) * p2 p) = 0 := by
          have : ((0 : Nat) : Rat) = 0 := rfl
          rw [this]; grind
        rw [e0] at hv
        have hn := hF.pos h.1
        cases hr : double.read n with
        | number t k j =>
          have hv2 : val n = some ((if t then -1 else 1) * (k : Rat) * p2 j) := by unfold val; rw [hr]
          have hq := le_of_nonneg hv2 hn
          generalize (if t then -1 else 1) * (k : Rat) * p2 j = Q at *
          obtain ⟨a1, a2, a3⟩ := order_num hv2 hv
          obtain ⟨b1, b2, b3⟩ := order_num hv hv2
          by_cases hz : Q = 0
          · exact .inl ⟨a2 hz, b2 hz.symm⟩
          · exact .inr ⟨a3 (by grind), b1 (by grind)⟩
        | infinity t =>
          have ht : t = false := by unfold nonneg at hn; rw [hr] at hn; exact hn
          subst ht
          refine .inr ⟨?_, ?_⟩ <;> (unfold Format.order; rw [hr, hrc]; rfl)
        | nan t f => have := hF.nn; rw [hr] at this; cases this
      · cases h

theorem less_orders {x y : AF} {n m : Nat} (hx : RF X x n) (hy : RF X y m) (h : lessS x y = true) : double.order n m = some .lt ∧ double.order m n = some .gt := by
  obtain ⟨p, q, h1, h2, h3⟩ := lessS_ok hx hy h
  exact ⟨(order_num h1 h2).1 h3, (order_num h2 h1).2.2 h3⟩

theorem eqS_ok {x y : AF} {n m : Nat} (hx : RF X x n) (hy : RF X y m) (h : eqS x y = true) : double.order n m = some .eq := by
  cases x with
  | s k F =>
    cases y with
    | s k' G =>
      obtain ⟨rfl, hF⟩ := hx
      obtain ⟨rfl, hG⟩ := hy
      have := sameId_ok hF hG h
      subst this
      exact order_self hF.nn
    | _ => simp [eqS] at h
  | _ => simp [eqS] at h

theorem fcmpS_ok {op : BinOp} {x y : AF} {n m : Nat} {b : Bool} (hx : RF X x n) (hy : RF X y m) (h : fcmpS op x y = some b) : fcmp op (double.order n m) = some b := by
  have L1 := fun h => (less_orders hx hy h).1
  have L2 := fun h => (less_orders hy hx h).2
  have G1 := fun h => geS_ok hx hy h
  have G2 := fun h => geS_ok hy hx h
  have E1 := fun h => eqS_ok hx hy h
  unfold fcmpS at h
  generalize lessS x y = a at *
  generalize lessS y x = c at *
  generalize geS x y = d at *
  generalize geS y x = e at *
  generalize eqS x y = f at *
  cases op <;> simp only [] at h <;> first | (cases h; done) | skip
  all_goals
    cases a <;> cases c <;> simp only [cond_true, cond_false, Bool.or_true, Bool.true_or, Bool.false_or, Bool.or_false] at h
  all_goals first
    | (have g := L1 rfl; rw [g]; cases h; rfl)
    | (have g := L2 rfl; rw [g]; cases h; rfl)
    | skip
  · cases f <;> simp only [cond_true, cond_false] at h
    · cases h
    · have g := E1 rfl; rw [g]; cases h; rfl
  · cases f <;> simp only [cond_true, cond_false] at h
    · cases h
    · have g := E1 rfl; rw [g]; cases h; rfl
  · cases d <;> simp only [cond_true, cond_false] at h
    · cases h
    · rcases G1 rfl with ⟨g, _⟩ | ⟨g, _⟩ <;> rw [g] <;> cases h <;> rfl
  · cases e <;> simp only [cond_true, cond_false] at h
    · cases h
    · rcases G2 rfl with ⟨_, g⟩ | ⟨_, g⟩ <;> rw [g] <;> cases h <;> rfl
  · cases e <;> simp only [cond_true, cond_false] at h
    · cases h
    · rcases G2 rfl with ⟨_, g⟩ | ⟨_, g⟩ <;> rw [g] <;> cases h <;> rfl
  · cases d <;> simp only [cond_true, cond_false] at h
    · cases h
    · rcases G1 rfl with ⟨g, _⟩ | ⟨g, _⟩ <;> rw [g] <;> cases h <;> rfl

theorem val_zero : val 0 = some 0 := by
  have hz : double.read 0 = .number false 0 (-1074) := by decide
  unfold val
  rw [hz]
  simp

theorem div_pos_ok {n m : Nat} {p q : Rat} (hp : val n = some p) (hq : val m = some q) (hq0 : 0 < q) : ∃ r, double.div n m = some r ∧ (double.read r).isNaN = false ∧ (nonneg n → nonneg r) ∧ (n = 0 → r = 0) := by
  obtain ⟨s, a, i, h1, h2⟩ := val_of hp
  obtain ⟨t, b, j, h3, h4⟩ := val_of hq
  have hb : b ≠ 0 := fun e => by
    subst e
    have e0 : ((0 : Nat) : Rat) = 0 := rfl
    rw [h4, e0] at hq0
    grind
  have ht : t = false := by
    cases t
    · rfl
    · exfalso
      have := Rat.mul_pos (cast_lt (Nat.pos_of_ne_zero hb)) (p2_pos j)
      rw [sg_true] at h4
      grind
  subst ht
  unfold Format.div
  rw [h1, h3]
  simp only [Datum.quotient, if_neg hb, Option.map_some]
  refine ⟨_, rfl, ?_, fun hpn => ?_, fun h0 => ?_⟩
  · rcases write_sign (s ^^ false) (2 * (a <<< (double.fractionBits + 2 + b.log2 - a.log2) / b) + (a <<< (double.fractionBits + 2 + b.log2 - a.log2) % b != 0).toNat) (i - j - (double.fractionBits + 2 + b.log2 - a.log2 : Nat) - 1) with ⟨m', p', g, _⟩ | g <;> rw [g] <;> rfl
  · have hsa : s = false ∨ a = 0 := by unfold nonneg at hpn; rw [h1] at hpn; exact hpn
    apply nonneg_write
    rcases hsa with rfl | rfl
    · exact .inl rfl
    · refine .inr ?_
      simp
  · subst h0
    have hz : double.read 0 = .number false 0 (-1074) := by decide
    rw [hz] at h1
    simp only [Datum.number.injEq] at h1
    obtain ⟨rfl, rfl, rfl⟩ := h1
    simp [Format.write, Format.nearest]
    rfl

theorem Fact.setLw {K : Fm} {n : Nat} (h : Fact X K n) {l : Nat} (hl : l ≠ 0 → ∃ q, val n = some q ∧ q ≠ 0 ∧ (l = 2 → p2 (-1) ≤ q)) : Fact X { K with lw := l } n :=
  ⟨h.id, h.np, h.nn, h.pos, h.bd, h.fm, hl, h.mm⟩

theorem nr_half {Z W : Rat} (h : Near Z W) (hW : 1 ≤ W) : p2 (-1) ≤ Z := by
  obtain ⟨_, h2⟩ := h
  have hab : ab W = W := ab_of_nonneg (by grind)
  rw [hab] at h2
  unfold loss at h2
  have a1 : p2 (-53) ≤ p2 (-2) := p2_mono (by omega)
  have a2 : p2 (-1075) ≤ p2 (-2) := p2_mono (by omega)
  have e1 : p2 (-1) = 2 * p2 (-2) := half (-1)
  have e2 : p2 0 = 2 * p2 (-1) := half 0
  rw [p2_zero] at e2
  have e3 : p2 (-2) = 1 / 4 := by grind
  have e4 : p2 (-1) = 1 / 2 := by grind
  rw [e3] at a1 a2
  have a3 := Rat.mul_le_mul_of_nonneg_right a1 (show (0 : Rat) ≤ W by grind)
  rw [e4]
  grind

theorem one_bits : val 0x3ff0000000000000 = some 1 := by
  have h : double.read 0x3ff0000000000000 = .number false (2 ^ 52) (-52) := by decide
  unfold val
  rw [h]
  simp only []
  apply congrArg some
  have e : ((2 ^ 52 : Nat) : Rat) = p2 52 := (p2_nat 52).symm
  rw [e]
  have := p2_inv 52
  simp
  exact this

theorem oneAnd_ok {x : AF} {n m r : Nat} {G : Fm} (hx : RF X x n) (hG : Fact X G m) {b : Nat} (hb : G.bd = some b) (ht : b ≤ top) (hr : double.add n m = some r) : oneAnd x G ≠ 0 → ∃ q, val r = some q ∧ q ≠ 0 ∧ (oneAnd x G = 2 → p2 (-1) ≤ q) := fun h => by
  cases x with
  | f c =>
    simp only [oneAnd] at h ⊢
    cases hc : Nat.beq c 0x3ff0000000000000 && G.pos
    · rw [hc] at h; exact absurd rfl h
    · rw [cond_true]
      simp only [Bool.and_eq_true] at hc
      have hc1 := Nat.eq_of_beq_eq_true hc.1
      have hx' : n = c := hx
      subst hx'
      subst hc1
      obtain ⟨q, hq, hqb⟩ := hG.bd b hb
      have hq0 := le_of_nonneg hq (hG.pos hc.2)
      have hqt := top_ok X.M1 X.M2 hqb ht
      have hW : ab (1 + q) ≤ p2 1000 := by
        rw [ab_of_nonneg (by grind)]
        have h1 := le_ab q
        have e1 : p2 801 = 2 * p2 800 := half 801
        have e2 : p2 801 ≤ p2 1000 := p2_mono (by omega)
        have e3 : p2 0 ≤ p2 800 := p2_mono (by omega)
        rw [p2_zero] at e3
        grind
      obtain ⟨r', Z, h1, h2, h3⟩ := add_spec one_bits hq hW
      rw [hr] at h1
      simp only [Option.some.injEq] at h1
      subst h1
      have h4 := nr_half h3 (by grind)
      have := p2_pos (-1)
      exact ⟨Z, h2, by grind, fun _ => h4⟩
  | nan => exact absurd rfl h
  | s k F => exact absurd rfl h

/-- A number that is not nought is not too small. -/
theorem least {n : Nat} {q : Rat} (h : val n = some q) (h0 : q ≠ 0) : p2 (-1074) ≤ ab q := by
  obtain ⟨s, m, p, h1, h2⟩ := val_of h
  have hp : -1074 ≤ p := by
    obtain ⟨c1, c2, c3, c4, c5⟩ := consts
    unfold Format.read at h1
    simp only [c2, c3, c4, c5] at h1
    split at h1
    · simp only [Datum.number.injEq] at h1; omega
    · split at h1
      · simp only [Datum.number.injEq] at h1; omega
      · split at h1 <;> cases h1
  have hm : m ≠ 0 := fun e => h0 (by rw [h2, e]; have e0 : ((0 : Nat) : Rat) = 0 := rfl; rw [e0]; grind)
  have hm1 : (1 : Rat) ≤ (m : Rat) := cast_le (Nat.pos_of_ne_zero hm)
  have hpp := p2_mono hp
  have h3 := Rat.mul_nonneg (cast_nonneg m) (Rat.le_of_lt (p2_pos p))
  have e : ab q = (m : Rat) * p2 p := by
    rw [h2, Rat.mul_assoc, ab_mul, ab_of_nonneg h3]
    have : ab (sg s) = 1 := by cases s <;> simp [ab, sg] <;> decide
    rw [this]; grind
  rw [e]
  have := Rat.mul_le_mul_of_nonneg_right hm1 (Rat.le_of_lt (p2_pos p))
  grind

theorem keepLw_ok {F K : Fm} {n c r : Nat} {s : Bool} {m : Nat} {p : Int} (hc : cst c = some (s, m, p)) (hF : Fact X F n) (hK : sclF s (scl m p) F = some K) (hr : double.mul n c = some r ∨ double.mul c n = some r) :
    keepLw F m p ≠ 0 → ∃ q, val r = some q ∧ q ≠ 0 ∧ (keepLw F m p = 2 → p2 (-1) ≤ q) := fun h => by
  unfold keepLw at h ⊢
  cases hb : Nat.beq F.lw 0 || Nat.beq m 0
  · rw [hb, cond_false] at h
    rw [cond_false]
    simp only [Bool.or_eq_false_iff] at hb
    cases p with
    | negSucc k => exact absurd rfl h
    | ofNat k =>
      simp only [] at h ⊢
      cases hk : Nat.ble 140 k
      · rw [hk] at h; exact absurd rfl h
      · rw [cond_true]
        have hk' := Nat.le_of_ble_eq_true hk
        have hm : m ≠ 0 := fun e => by rw [e] at hb; simp at hb
        obtain ⟨q, hq, hq0, _⟩ := hF.lw (fun e => by rw [e] at hb; simp at hb)
        obtain ⟨hv, _⟩ := cst_read hc
        have hl := least hq hq0
        have hbd : ∃ a, F.bd = some a := by
          unfold sclF at hK
          split at hK
          · rename_i a ha; exact ⟨a, ha⟩
          · cases hK
        -- the product
        have hW : p2 (-934) ≤ ab (q * (sg s * ((m : Rat) * p2 (Int.ofNat k)))) := by
          have h3 := Rat.mul_nonneg (cast_nonneg m) (Rat.le_of_lt (p2_pos (Int.ofNat k)))
          have e : ab (sg s * ((m : Rat) * p2 (Int.ofNat k))) = (m : Rat) * p2 (Int.ofNat k) := by
            rw [ab_mul, ab_of_nonneg h3]
            have : ab (sg s) = 1 := by cases s <;> simp [ab, sg] <;> decide
            rw [this]; grind
          rw [ab_mul, e]
          have hm1 : (1 : Rat) ≤ (m : Rat) := cast_le (Nat.pos_of_ne_zero hm)
          have hpk : p2 140 ≤ p2 (Int.ofNat k) := p2_mono (by have : (Int.ofNat k : Int) = (k : Int) := rfl; omega)
          have e1 : p2 (-934) = p2 (-1074) * p2 140 := by rw [← p2_add]; rfl
          have e2 : p2 140 ≤ (m : Rat) * p2 (Int.ofNat k) := by
            have := Rat.mul_le_mul_of_nonneg_right hm1 (Rat.le_of_lt (p2_pos (Int.ofNat k)))
            grind
          have g1 := Rat.mul_le_mul_of_nonneg_right hl (Rat.le_of_lt (p2_pos 140))
          have g2 := Rat.mul_le_mul_of_nonneg_left e2 (ab_nonneg q)
          rw [e1]; grind
        have fin : ∀ Z W : Rat, val r = some Z → Near Z W → p2 (-934) ≤ ab W → ∃ q, val r = some q ∧ q ≠ 0 ∧ ((1 : Nat) = 2 → p2 (-1) ≤ q) := fun Z W hZ hN hW' => by
          refine ⟨Z, hZ, fun e => ?_, fun h => absurd h (by decide)⟩
          obtain ⟨g1, g2⟩ := hN
          subst e
          have h53 : p2 (-53) ≤ p2 (-2) := p2_mono (by omega)
          have h75 : p2 (-1075) ≤ p2 (-936) := p2_mono (by omega)
          have e1 : p2 (-934) = 2 * p2 (-935) := half (-934)
          have e2 : p2 (-935) = 2 * p2 (-936) := half (-935)
          have e3 : p2 0 = 2 * p2 (-1) := half 0
          have e4 : p2 (-1) = 2 * p2 (-2) := half (-1)
          rw [p2_zero] at e3
          have e5 : p2 (-2) = 1 / 4 := by grind
          rw [e5] at h53
          have h6 := Rat.mul_le_mul_of_nonneg_right h53 (ab_nonneg W)
          have h7 := p2_pos (-936)
          unfold loss at g1 g2
          have h8 : W ≤ ab W / 4 + p2 (-936) ∧ -W ≤ ab W / 4 + p2 (-936) := by constructor <;> grind
          have h9 := ab_le h8.1 h8.2
          grind
        obtain ⟨a, ha⟩ := hbd
        have hbnd : ab (q * (sg s * ((m : Rat) * p2 (Int.ofNat k)))) ≤ p2 1000 := by
          unfold sclF at hK
          rw [ha] at hK
          obtain ⟨ht, _⟩ := le_top hK
          obtain ⟨q', hq', hqb⟩ := hF.bd a ha
          rw [hq] at hq'
          simp only [Option.some.injEq] at hq'
          subst hq'
          have hcut := scl_cut m (Int.ofNat k)
          have hr0 := hcut.1
          have e : ab (sg s * ((m : Rat) * p2 (Int.ofNat k))) = (m : Rat) * p2 (Int.ofNat k) := by
            rw [ab_mul, ab_of_nonneg hr0]
            have : ab (sg s) = 1 := by cases s <;> simp [ab, sg] <;> decide
            rw [this]; grind
          have hcc : ab (q * (sg s * ((m : Rat) * p2 (Int.ofNat k)))) * U ≤ ((Nat.succ (scl m (Int.ofNat k) a) : Nat) : Rat) * X.M := by
            rw [ab_mul, e]
            have h1 := Rat.mul_le_mul_of_nonneg_right hqb hr0
            have h2 := Rat.mul_le_mul_of_nonneg_right (hcut.2 a).2 (M0 X)
            have e : ((Nat.succ (scl m (Int.ofNat k) a) : Nat) : Rat) = ((scl m (Int.ofNat k) a : Nat) : Rat) + 1 := cast_add _ 1
            rw [e]
            grind
          exact Rat.le_trans (top_ok X.M1 X.M2 hcc ht) le_800.1
        rcases hr with hr | hr
        · obtain ⟨r', Z, h1, h2, h3⟩ := mul_spec hq hv hbnd
          rw [hr] at h1
          simp only [Option.some.injEq] at h1
          subst h1
          exact fin Z _ h2 h3 hW
        · have ec : sg s * ((m : Rat) * p2 (Int.ofNat k)) * q = q * (sg s * ((m : Rat) * p2 (Int.ofNat k))) := Rat.mul_comm _ _
          obtain ⟨r', Z, h1, h2, h3⟩ := mul_spec hv hq (by rw [ec]; exact hbnd)
          rw [hr] at h1
          simp only [Option.some.injEq] at h1
          subst h1
          rw [ec] at h3
          exact fin Z _ h2 h3 hW
  · rw [hb] at h; exact absurd rfl h

theorem addF_bd {F G K : Fm} (h : addF F G = some K) : ∃ b, G.bd = some b ∧ b ≤ top := by
  unfold addF at h
  split at h
  · rename_i a b ha hb
    obtain ⟨ht, _⟩ := le_top h
    exact ⟨b, hb, Nat.le_trans (Nat.le_add_left b a) ht⟩
  · cases h

theorem farithS_ok {op : BinOp} {x y z : AF} {n m : Nat} (hx : RF X x n) (hy : RF X y m) (h : farithS op x y = some z) :
    ∃ r, RF X z r ∧ (match op with | .add => double.add n m | .sub => double.sub n m | .mul => double.mul n m | .quo => double.div n m | _ => none) = some r ∧ (op = .add ∨ op = .sub ∨ op = .mul ∨ op = .quo) := by
  have fin : ∀ {o : Option Nat} {K : Fm} {r : Nat}, o = some r → Fact X K r → RF X (.s (fop o) K) r := fun e hK => by subst e; exact ⟨rfl, hK⟩
  cases op <;> simp only [farithS] at h <;> first | (cases h; done) | skip
  · split at h
    · rename_i n' F m' G h1 h2
      obtain ⟨rfl, hF⟩ := toS_ok hx h1
      obtain ⟨rfl, hG⟩ := toS_ok hy h2
      split at h
      · rename_i K hK
        rw [fzM_eq] at h
        simp only [Option.some.injEq] at h
        subst h
        obtain ⟨r, hr, hf⟩ := addF_ok hF hG hK
        obtain ⟨b, hb, hbt⟩ := addF_bd hK
        exact ⟨r, fin hr (hf.setLw (oneAnd_ok hx hG hb hbt hr)), hr, .inl rfl⟩
      · cases h
    · cases h
  · split at h
    · rename_i n' F m' G h1 h2
      obtain ⟨rfl, hF⟩ := toS_ok hx h1
      obtain ⟨rfl, hG⟩ := toS_ok hy h2
      cases hs : sameId F G
      · rw [hs, cond_false] at h
        split at h
        · rename_i K hK
          rw [fzM_eq] at h
          simp only [Option.some.injEq] at h
          subst h
          obtain ⟨r, hr, hf⟩ := subF_ok hF hG hK
          exact ⟨r, fin hr hf, hr, .inr (.inl rfl)⟩
        · cases h
      · rw [hs, cond_true] at h
        split at h
        · rename_i b hb
          simp only [Option.some.injEq] at h
          subst h
          have := sameId_ok hF hG hs
          subst this
          obtain ⟨q, hq, _⟩ := hF.bd b hb
          exact ⟨0, rfl, sub_same hq, .inr (.inl rfl)⟩
        · cases h
    · cases h
  · cases x <;> cases y <;> simp only [] at h <;> first | (cases h; done) | skip
    · rename_i c k F
      obtain ⟨rfl, hF⟩ := hy
      have hx' : n = c := hx
      subst hx'
      split at h
      · rename_i s mm p hc
        split at h
        · rename_i K hK
          rw [fzM_eq] at h
          simp only [Option.some.injEq] at h
          subst h
          obtain ⟨r, hr, hf⟩ := (mulc_ok hc hF hK).2
          exact ⟨r, fin hr (hf.setLw (keepLw_ok hc hF hK (.inr hr))), hr, .inr (.inr (.inl rfl))⟩
        · cases h
      · cases h
    · rename_i k F c
      obtain ⟨rfl, hF⟩ := hx
      have hy' : m = c := hy
      subst hy'
      split at h
      · rename_i s mm p hc
        split at h
        · rename_i K hK
          rw [fzM_eq] at h
          simp only [Option.some.injEq] at h
          subst h
          obtain ⟨r, hr, hf⟩ := (mulc_ok hc hF hK).1
          exact ⟨r, fin hr (hf.setLw (keepLw_ok hc hF hK (.inl hr))), hr, .inr (.inr (.inl rfl))⟩
        · cases h
      · cases h
    · rename_i k F k' G
      obtain ⟨rfl, hF⟩ := hx
      obtain ⟨rfl, hG⟩ := hy
      split at h
      · rename_i K hK
        rw [fzM_eq] at h
        simp only [Option.some.injEq] at h
        subst h
        obtain ⟨r, hr, hf⟩ := mulF_ok hF hG hK
        exact ⟨r, fin hr hf, hr, .inr (.inr (.inl rfl))⟩
      · cases h
  · cases x <;> cases y <;> simp only [] at h <;> first | (cases h; done) | skip
    · rename_i c k G
      have hy0 := hy
      obtain ⟨rfl, hG⟩ := hy
      have hx' : n = c := hx
      subst hx'
      cases hb : Nat.beq n 0 && lessS (.f 0) (.s m G)
      · rw [hb] at h; cases h
      · rw [hb, cond_true] at h
        simp only [Option.some.injEq] at h
        subst h
        simp only [Bool.and_eq_true] at hb
        have hn := Nat.eq_of_beq_eq_true hb.1
        subst hn
        obtain ⟨p, q, h1, h2, h3⟩ := lessS_ok (X := X) (x := .f 0) (n := 0) rfl hy0 hb.2
        have hz := val_zero
        rw [hz] at h1
        simp only [Option.some.injEq] at h1
        subst h1
        obtain ⟨r, g1, _, _, g2⟩ := div_pos_ok hz h2 h3
        have := g2 rfl
        subst this
        exact ⟨0, rfl, g1, .inr (.inr (.inr rfl))⟩
    · rename_i k F c
      obtain ⟨rfl, hF⟩ := hx
      have hy' : m = c := hy
      subst hy'
      split at h
      · rename_i s mm p hc
        cases hm : Nat.beq mm 0
        · rw [hm, cond_false] at h
          split at h
          · rename_i K hK
            rw [fzM_eq] at h
            simp only [Option.some.injEq] at h
            subst h
            obtain ⟨r, hr, hf⟩ := quoc_ok hc (fun e => by rw [e] at hm; cases hm) hF hK
            exact ⟨r, fin hr hf, hr, .inr (.inr (.inr rfl))⟩
          · cases h
        · rw [hm] at h; cases h
      · cases h
    · rename_i k F k' G
      have hy0 := hy
      obtain ⟨rfl, hF⟩ := hx
      obtain ⟨rfl, hG⟩ := hy
      cases hb : lessS (.f 0) (.s m G)
      · rw [hb] at h; cases h
      · rw [hb, cond_true] at h
        split at h
        · rename_i b hbd
          obtain ⟨p0, q, h1, h2, h3⟩ := lessS_ok (X := X) (x := .f 0) (n := 0) rfl hy0 hb
          have hz := val_zero
          rw [hz] at h1
          simp only [Option.some.injEq] at h1
          subst h1
          obtain ⟨p, hp, _⟩ := hF.bd b hbd
          obtain ⟨r, g1, g2, g3, _⟩ := div_pos_ok hp h2 h3
          cases hpos : F.pos
          · rw [hpos, cond_false] at h
            simp only [Option.some.injEq] at h
            subst h
            exact ⟨r, fin g1 ⟨fun h => absurd rfl h, fun h => np_max hF hG h, g2, fun h => (by cases h), fun b h => (by cases h), fun cs e h => (by cases h), fun h => absurd rfl h, fun h => absurd rfl h⟩, g1, .inr (.inr (.inr rfl))⟩
          · rw [hpos, cond_true] at h
            have g3' := g3 (hF.pos hpos)
            cases hmm : Nat.beq F.mm 2 && Nat.beq G.mm 1
            · rw [hmm, cond_false] at h
              simp only [Option.some.injEq] at h
              subst h
              exact ⟨r, fin g1 ⟨fun h => absurd rfl h, fun h => np_max hF hG h, g2, fun _ => g3', fun b h => (by cases h), fun cs e h => (by cases h), fun h => absurd rfl h, fun h => absurd rfl h⟩, g1, .inr (.inr (.inr rfl))⟩
            · rw [hmm, cond_true] at h
              simp only [Option.some.injEq] at h
              subst h
              simp only [Bool.and_eq_true] at hmm
              have m1 := Nat.eq_of_beq_eq_true hmm.1
              have m2 := Nat.eq_of_beq_eq_true hmm.2
              obtain ⟨p', hp', _, k2, _⟩ := hF.mm (by rw [m1]; decide)
              obtain ⟨q', hq', k1, _⟩ := hG.mm (by rw [m2]; decide)
              rw [hp] at hp'
              rw [h2] at hq'
              simp only [Option.some.injEq] at hp' hq'
              subst hp'; subst hq'
              have hle : p ≤ q := Rat.le_trans (k2 m1) (k1 m2)
              have hp0 := le_of_nonneg hp (hF.pos hpos)
              have hd : 0 ≤ p / q ∧ p / q ≤ 1 := by
                have e : p / q * q = p := Rat.div_mul_cancel (by grind)
                constructor
                · by_cases hn : 0 ≤ p / q
                  · exact hn
                  · have := Rat.mul_le_mul_of_nonneg_right (show p / q ≤ 0 by grind) (show (0 : Rat) ≤ q by grind)
                    have h9 : p = 0 := by grind
                    rw [h9, Rat.div_def, Rat.zero_mul]
                    exact Rat.le_refl
                · by_cases hn : p / q ≤ 1
                  · exact hn
                  · exfalso
                    have h8 : 0 < (p / q - 1) * q := Rat.mul_pos (by grind) h3
                    grind
              have hab : ab (p / q) = p / q := ab_of_nonneg hd.1
              have h999 : p2 0 ≤ p2 999 := p2_mono (by omega)
              rw [p2_zero] at h999
              obtain ⟨r', Z, e1, e2, e3⟩ := div_spec hp h2 (by grind) (by rw [hab]; grind)
              rw [g1] at e1
              simp only [Option.some.injEq] at e1
              subst e1
              have hZ2 : ab Z ≤ 2 := by
                obtain ⟨f1, f2⟩ := e3
                rw [hab] at f1 f2
                unfold l2 at f1 f2
                have a1 : p2 (-50) ≤ p2 (-2) := p2_mono (by omega)
                have a2 : p2 (-1000) ≤ p2 (-2) := p2_mono (by omega)
                have b1 : p2 (-1) = 2 * p2 (-2) := half (-1)
                have b2 : p2 0 = 2 * p2 (-1) := half 0
                rw [p2_zero] at b2
                have b3 : p2 (-2) = 1 / 4 := by grind
                rw [b3] at a1 a2
                have a3 := Rat.mul_le_mul_of_nonneg_right a1 hd.1
                exact ab_le (by grind) (by grind)
              refine ⟨r, fin g1 ⟨fun h => absurd rfl h, fun h => np_max hF hG h, g2, fun _ => g3', fun b h => ?_, fun cs e h => (by cases h), fun h => absurd rfl h, fun h => absurd rfl h⟩, g1, .inr (.inr (.inr rfl))⟩
              simp only [Option.some.injEq] at h
              subst h
              refine ⟨Z, e2, ?_⟩
              have c1 : ((2 ^ 101 : Nat) : Rat) = p2 101 := (p2_nat 101).symm
              have c2 : p2 101 = 2 * p2 100 := half 101
              rw [c1, c2]
              have c3 := Rat.mul_le_mul_of_nonneg_right hZ2 (Rat.le_of_lt U_pos)
              have c4 := Rat.mul_le_mul_of_nonneg_left X.M1 (show (0 : Rat) ≤ 2 * p2 100 by have := p2_pos 100; grind)
              unfold U at c3 ⊢
              grind
        · cases h

theorem max2N_ge (a b : Nat) : a ≤ max2N a b ∧ b ≤ max2N a b := by
  unfold max2N
  cases hl : Nat.ble a b
  · have : ¬ a ≤ b := fun h => by rw [Nat.ble_eq_true_of_le h] at hl; cases hl
    rw [cond_false]; omega
  · have := Nat.le_of_ble_eq_true hl
    rw [cond_true]; omega

theorem np_join {F G K : Fm} {n : Nat} (hK : Fact X K n) (hFG : K = F ∨ K = G) (h : (bif Nat.beq F.np G.np then F.np else 0) ≠ 0) : (bif Nat.beq F.np G.np then F.np else 0) = X.np := by
  cases hb : Nat.beq F.np G.np
  · rw [hb] at h; exact absurd rfl h
  · rw [hb, cond_true] at h
    rw [cond_true]
    have e := Nat.eq_of_beq_eq_true hb
    rcases hFG with rfl | rfl
    · exact hK.np h
    · rw [e] at h ⊢; exact hK.np h

theorem lw_join {F G K : Fm} {n : Nat} (hK : Fact X K n) (hFG : K = F ∨ K = G) (h : (bif Nat.beq F.lw 0 || Nat.beq G.lw 0 then 0 else 1) ≠ 0) : ∃ q, val n = some q ∧ q ≠ 0 ∧ ((bif Nat.beq F.lw 0 || Nat.beq G.lw 0 then 0 else 1) = 2 → p2 (-1) ≤ q) := by
  cases hb : Nat.beq F.lw 0 || Nat.beq G.lw 0
  · simp only [Bool.or_eq_false_iff] at hb
    have h0 : K.lw ≠ 0 := fun e => by
      rcases hFG with rfl | rfl <;> rw [e] at hb <;> simp at hb
    obtain ⟨q, h1, h2, _⟩ := hK.lw h0
    exact ⟨q, h1, h2, fun e => by rw [cond_false] at e; cases e⟩
  · rw [hb] at h; exact absurd rfl h

theorem joinF_ok {q : Bool} {x y z : AF} {n m : Nat} (hx : RF X x n) (hy : RF X y m) (h : joinF q x y = some z) : RF X z (if q then n else m) := by
  unfold joinF at h
  split at h
  · rename_i n' F m' G h1 h2
    obtain ⟨rfl, hF⟩ := toS_ok hx h1
    obtain ⟨rfl, hG⟩ := toS_ok hy h2
    split at h
    · rename_i a b ha hb
      rw [fzM_eq] at h
      simp only [Option.some.injEq] at h
      subst h
      have hmax : ∀ c, c = a ∨ c = b → c ≤ max2N a b := fun c hc => by
        unfold max2N
        cases hl : Nat.ble a b
        · have : ¬ a ≤ b := fun h => by rw [Nat.ble_eq_true_of_le h] at hl; cases hl
          rw [cond_false]; omega
        · have := Nat.le_of_ble_eq_true hl
          rw [cond_true]; omega
      have hM := M0 X
      have up : ∀ {c : Nat} {v : Rat}, ab v * U ≤ (c : Rat) * X.M → (c = a ∨ c = b) → ab v * U ≤ ((max2N a b : Nat) : Rat) * X.M := fun h1 h2 => by
        have := Rat.mul_le_mul_of_nonneg_right (cast_le (hmax _ h2)) hM
        grind
      cases q
      · refine ⟨rfl, fun h => absurd rfl h, fun h => np_join hG (.inr rfl) h, hG.nn, fun h => ?_, fun c hc => ?_, fun cs e h => (by cases h), fun h => lw_join hG (.inr rfl) h, fun h => absurd rfl h⟩
        · simp only [Bool.and_eq_true] at h; exact hG.pos h.2
        · simp only [Option.some.injEq] at hc
          subst hc
          obtain ⟨v, h3, h4⟩ := hG.bd b hb
          exact ⟨v, h3, up h4 (.inr rfl)⟩
      · refine ⟨rfl, fun h => absurd rfl h, fun h => np_join hF (.inl rfl) h, hF.nn, fun h => ?_, fun c hc => ?_, fun cs e h => (by cases h), fun h => lw_join hF (.inl rfl) h, fun h => absurd rfl h⟩
        · simp only [Bool.and_eq_true] at h; exact hF.pos h.1
        · simp only [Option.some.injEq] at hc
          subst hc
          obtain ⟨v, h3, h4⟩ := hF.bd a ha
          exact ⟨v, h3, up h4 (.inl rfl)⟩
    · cases h
  · cases h

/-- Which of the two it is. -/
theorem fmax_ok {n m : Nat} {p q : Rat} (hp : val n = some p) (hq : val m = some q) : (fmax n m = n ∨ fmax n m = m) ∧ ∀ z, val (fmax n m) = some z → p ≤ z ∧ q ≤ z ∧ (z = p ∨ z = q) := by
  have e : FloatKind.f64.format = double := rfl
  obtain ⟨h1, h2, h3⟩ := order_num hp hq
  unfold fmax
  rw [e]
  by_cases hlt : p < q
  · rw [h1 hlt]
    refine ⟨.inr rfl, fun z hz => ?_⟩
    rw [hq] at hz
    simp only [Option.some.injEq] at hz
    subst hz
    exact ⟨by grind, Rat.le_refl, .inr rfl⟩
  · by_cases heq : p = q
    · rw [h2 heq]
      simp only []
      split
      · refine ⟨.inr rfl, fun z hz => ?_⟩
        rw [hq] at hz
        simp only [Option.some.injEq] at hz
        subst hz
        exact ⟨by grind, Rat.le_refl, .inr rfl⟩
      · refine ⟨.inl rfl, fun z hz => ?_⟩
        rw [hp] at hz
        simp only [Option.some.injEq] at hz
        subst hz
        exact ⟨Rat.le_refl, by grind, .inl rfl⟩
    · rw [h3 (by grind)]
      refine ⟨.inl rfl, fun z hz => ?_⟩
      rw [hp] at hz
      simp only [Option.some.injEq] at hz
      subst hz
      exact ⟨Rat.le_refl, by grind, .inl rfl⟩

theorem fmin_ok {n m : Nat} {p q : Rat} (hp : val n = some p) (hq : val m = some q) : (fmin n m = n ∨ fmin n m = m) ∧ ∀ z, val (fmin n m) = some z → z ≤ p ∧ z ≤ q ∧ (z = p ∨ z = q) := by
  have e : FloatKind.f64.format = double := rfl
  obtain ⟨h1, h2, h3⟩ := order_num hp hq
  unfold fmin
  rw [e]
  by_cases hlt : p < q
  · rw [h1 hlt]
    refine ⟨.inl rfl, fun z hz => ?_⟩
    rw [hp] at hz
    simp only [Option.some.injEq] at hz
    subst hz
    exact ⟨Rat.le_refl, by grind, .inl rfl⟩
  · by_cases heq : p = q
    · rw [h2 heq]
      simp only []
      split
      · refine ⟨.inl rfl, fun z hz => ?_⟩
        rw [hp] at hz
        simp only [Option.some.injEq] at hz
        subst hz
        exact ⟨Rat.le_refl, by grind, .inl rfl⟩
      · refine ⟨.inr rfl, fun z hz => ?_⟩
        rw [hq] at hz
        simp only [Option.some.injEq] at hz
        subst hz
        exact ⟨by grind, Rat.le_refl, .inr rfl⟩
    · rw [h3 (by grind)]
      refine ⟨.inr rfl, fun z hz => ?_⟩
      rw [hq] at hz
      simp only [Option.some.injEq] at hz
      subst hz
      exact ⟨by grind, Rat.le_refl, .inr rfl⟩

/-- One of two, with what both have. -/
theorem two_ok {F G K : Fm} {n m r a b : Nat} (hF : Fact X F n) (hG : Fact X G m) (ha : F.bd = some a) (hb : G.bd = some b) (hr : r = n ∨ r = m)
    (hid : K.id = 0) (hnp : K.np = max2N F.np G.np) (hpos : K.pos = (F.pos && G.pos)) (hbd : K.bd = some (max2N a b)) (hfm : K.fm = none)
    (hlw : K.lw ≠ 0 → ∃ q, val r = some q ∧ q ≠ 0 ∧ (K.lw = 2 → p2 (-1) ≤ q))
    (hmm : K.mm ≠ 0 → ∃ q, val r = some q ∧ (K.mm = 1 → X.mm ≤ q) ∧ (K.mm = 2 → q ≤ X.mm) ∧ (K.mm = 3 → ab q = X.mm) ∧ (K.mm = 4 → q = X.mm) ∧ (K.mm = 5 → q = 0) ∧ (K.mm = 6 → ab q ≤ 64) ∧ (K.mm = 7 → 0 < q) ∧ (K.mm = 8 → q < 0)) : Fact X K r := by
  have hM := M0 X
  have up : ∀ {c : Nat} {v : Rat}, ab v * U ≤ (c : Rat) * X.M → c ≤ max2N a b → ab v * U ≤ ((max2N a b : Nat) : Rat) * X.M := fun h1 h2 => by
    have := Rat.mul_le_mul_of_nonneg_right (cast_le h2) hM
    grind
  refine ⟨fun h => absurd hid h, fun h => (by rw [hnp] at h ⊢; exact np_max hF hG h), ?_, fun h => ?_, fun c hc => ?_, fun cs e h => (by rw [hfm] at h; cases h), hlw, hmm⟩
  · rcases hr with rfl | rfl
    · exact hF.nn
    · exact hG.nn
  · rw [hpos] at h
    simp only [Bool.and_eq_true] at h
    rcases hr with rfl | rfl
    · exact hF.pos h.1
    · exact hG.pos h.2
  · rw [hbd] at hc
    simp only [Option.some.injEq] at hc
    subst hc
    rcases hr with rfl | rfl
    · obtain ⟨v, h3, h4⟩ := hF.bd a ha
      exact ⟨v, h3, up h4 (max2N_ge a b).1⟩
    · obtain ⟨v, h3, h4⟩ := hG.bd b hb
      exact ⟨v, h3, up h4 (max2N_ge a b).2⟩

theorem maxS_ok {x y : AF} {z : AC} {n m : Nat} (hx : RF X x n) (hy : RF X y m) (h : maxS x y = some z) : ∃ K, z = .flt (.s (fmax n m) K) ∧ Fact X K (fmax n m) := by
  cases x <;> cases y <;> simp only [maxS] at h <;> first | (cases h; done) | skip
  rename_i k F k' G
  obtain ⟨rfl, hF⟩ := hx
  obtain ⟨rfl, hG⟩ := hy
  split at h
  · rename_i a b ha hb
    rw [fzM_eq] at h
    simp only [Option.some.injEq] at h
    subst h
    obtain ⟨p, hp, _⟩ := hF.bd a ha
    obtain ⟨q, hq, _⟩ := hG.bd b hb
    obtain ⟨hr, hv⟩ := fmax_ok hp hq
    have hz : ∃ z, val (fmax n m) = some z := by
      rcases hr with e | e <;> rw [e]
      · exact ⟨p, hp⟩
      · exact ⟨q, hq⟩
    obtain ⟨z, hz⟩ := hz
    obtain ⟨v1, v2, v3⟩ := hv z hz
    refine ⟨_, rfl, two_ok hF hG ha hb hr rfl rfl rfl rfl rfl (fun hl => ?_) (fun hm => ?_)⟩
    · simp only [lwMax] at hl ⊢
      cases hc : F.pos && G.pos && !(Nat.beq F.lw 0 && Nat.beq G.lw 0)
      · rw [hc] at hl; exact absurd rfl hl
      · rw [cond_true]
        simp only [Bool.and_eq_true] at hc
        refine ⟨z, hz, fun e => ?_, fun e => absurd e (by decide)⟩
        have hp0 := le_of_nonneg hp (hF.pos hc.1.1)
        have hq0 := le_of_nonneg hq (hG.pos hc.1.2)
        subst e
        have ep : p = 0 := by grind
        have eq : q = 0 := by grind
        have hc2 := hc.2
        cases hf : Nat.beq F.lw 0
        · obtain ⟨p', hp', h1, _⟩ := hF.lw (fun e => by rw [e] at hf; cases hf)
          rw [hp] at hp'; simp only [Option.some.injEq] at hp'; exact h1 (hp' ▸ ep)
        · cases hg : Nat.beq G.lw 0
          · obtain ⟨q', hq', h1, _⟩ := hG.lw (fun e => by rw [e] at hg; cases hg)
            rw [hq] at hq'; simp only [Option.some.injEq] at hq'; exact h1 (hq' ▸ eq)
          · rw [hf, hg] at hc2; cases hc2
    · cases hc : Nat.beq F.mm 4
      · simp only [hc] at hm; exact absurd rfl hm
      · have h4 := Nat.eq_of_beq_eq_true hc
        obtain ⟨p', hp', _, _, _, k4, _⟩ := hF.mm (by rw [h4]; decide)
        rw [hp] at hp'
        simp only [Option.some.injEq] at hp'
        subst hp'
        have e4 := k4 h4
        simp only [hc, cond_true]
        exact ⟨z, hz, fun _ => by grind, fun e => absurd e (by decide), fun e => absurd e (by decide), fun e => absurd e (by decide), fun e => absurd e (by decide), fun e => absurd e (by decide), fun e => absurd e (by decide), fun e => absurd e (by decide)⟩
  · cases h

theorem minS_ok {x y : AF} {z : AC} {n m : Nat} (hx : RF X x n) (hy : RF X y m) (h : minS x y = some z) : ∃ K, z = .flt (.s (fmin n m) K) ∧ Fact X K (fmin n m) := by
  cases x <;> cases y <;> simp only [minS] at h <;> first | (cases h; done) | skip
  rename_i k F k' G
  obtain ⟨rfl, hF⟩ := hx
  obtain ⟨rfl, hG⟩ := hy
  split at h
  · rename_i a b ha hb
    rw [fzM_eq] at h
    simp only [Option.some.injEq] at h
    subst h
    obtain ⟨p, hp, _⟩ := hF.bd a ha
    obtain ⟨q, hq, _⟩ := hG.bd b hb
    obtain ⟨hr, hv⟩ := fmin_ok hp hq
    have hz : ∃ z, val (fmin n m) = some z := by
      rcases hr with e | e <;> rw [e]
      · exact ⟨p, hp⟩
      · exact ⟨q, hq⟩
    obtain ⟨z, hz⟩ := hz
    obtain ⟨v1, v2, v3⟩ := hv z hz
    refine ⟨_, rfl, two_ok hF hG ha hb hr rfl rfl rfl rfl rfl (fun hl => absurd rfl hl) (fun hm => ?_)⟩
    cases hc : Nat.beq F.mm 4
    · simp only [hc] at hm; exact absurd rfl hm
    · have h4 := Nat.eq_of_beq_eq_true hc
      obtain ⟨p', hp', _, _, _, k4, _⟩ := hF.mm (by rw [h4]; decide)
      rw [hp] at hp'
      simp only [Option.some.injEq] at hp'
      subst hp'
      have e4 := k4 h4
      simp only [hc, cond_true]
      exact ⟨z, hz, fun e => absurd e (by decide), fun _ => by grind, fun e => absurd e (by decide), fun e => absurd e (by decide), fun e => absurd e (by decide), fun e => absurd e (by decide), fun e => absurd e (by decide), fun e => absurd e (by decide)⟩
  · cases h

theorem sqrtS_ok {F : Fm} {n b : Nat} (hF : Fact X F n) (hb : F.bd = some b) (hl : F.lw = 2) (ht : b ≤ top) :
    double.sqrt n = some (fsqrt n) ∧ Fact X { id := 0, np := F.np, pos := true, bd := some (Nat.mul 2 b), fm := none } (fsqrt n) := by
  obtain ⟨q, hq, hqb⟩ := hF.bd b hb
  obtain ⟨q', hq', _, h2⟩ := hF.lw (by rw [hl]; decide)
  rw [hq] at hq'
  simp only [Option.some.injEq] at hq'
  subst hq'
  have hh := h2 hl
  have hq2 : p2 (-2) ≤ q := Rat.le_trans (p2_mono (by omega)) hh
  have hp := p2_pos (-2)
  have hab : ab q = q := ab_of_nonneg (by grind)
  have htop := top_ok X.M1 X.M2 hqb ht
  obtain ⟨r, Z, h3, h4, h5, h6, h7⟩ := sqrt_spec hq hq2 (by rw [← hab]; exact Rat.le_trans htop le_800.1)
  have er : fsqrt n = r := by
    unfold fsqrt
    have e : FloatKind.f64.format = double := rfl
    rw [e, h3]; rfl
  rw [er]
  refine ⟨h3, fun h => absurd rfl h, fun h => hF.np h, nn_of h4, fun _ => nonneg_of h4 h5, fun c hc => ?_, fun cs e h => (by cases h), fun h => absurd rfl h, fun h => absurd rfl h⟩
  simp only [Option.some.injEq] at hc
  subst hc
  refine ⟨Z, h4, ?_⟩
  have hZ : Z ≤ 2 * q := by
    by_cases hc : Z ≤ 2 * q
    · exact hc
    · exfalso
      have a1 : (2 * q) * (2 * q) ≤ Z * Z := by
        have g1 := Rat.mul_le_mul_of_nonneg_right (show 2 * q ≤ Z by grind) (show (0 : Rat) ≤ 2 * q by grind)
        have g2 := Rat.mul_le_mul_of_nonneg_left (show 2 * q ≤ Z by grind) h5
        exact Rat.le_trans g1 g2
      have a2 : p2 (-48) ≤ p2 (-1) := p2_mono (by omega)
      have b2 : p2 0 = 2 * p2 (-1) := half 0
      rw [p2_zero] at b2
      have b3 : p2 (-1) = 1 / 2 := by grind
      rw [b3] at a2 hh
      have a3 := Rat.mul_le_mul_of_nonneg_right a2 (show (0 : Rat) ≤ q by grind)
      have a4 := Rat.mul_le_mul_of_nonneg_right hh (show (0 : Rat) ≤ q by grind)
      have a5 : 0 < q := by grind
      have a6 : ¬ Z * Z = (2 * q) * (2 * q) := fun e => by grind
      grind
  rw [ab_of_nonneg h5]
  have e : ((Nat.mul 2 b : Nat) : Rat) = 2 * (b : Rat) := cast_mul 2 b
  rw [e]
  rw [hab] at hqb
  have := Rat.mul_le_mul_of_nonneg_right hZ (Rat.le_of_lt U_pos)
  grind

theorem notZ_ok {x y : AF} {n m : Nat} (hx : RF X x n) (hy : RF X y m) (h : notZ x y = true) : double.order n m = some .lt ∨ double.order n m = some .gt := by
  unfold notZ at h
  split at h
  · rename_i k F
    obtain ⟨rfl, hF⟩ := hx
    have hm : m = 0 := hy
    subst hm
    obtain ⟨q, hq, h1, _⟩ := hF.lw (fun e => by rw [e] at h; cases h)
    obtain ⟨a1, _, a3⟩ := order_num hq val_zero
    by_cases hl : q < 0
    · exact .inl (a1 hl)
    · exact .inr (a3 (by grind))
  · rename_i k F k' G
    obtain ⟨rfl, hF⟩ := hx
    obtain ⟨rfl, hG⟩ := hy
    simp only [Bool.or_eq_true, Bool.and_eq_true] at h
    rcases h with ⟨h1, h2⟩ | ⟨h1, h2⟩ <;> have h1 := Nat.eq_of_beq_eq_true h1 <;> have h2 := Nat.eq_of_beq_eq_true h2
    · obtain ⟨p, hp, _, _, _, _, _, _, p7, _⟩ := hF.mm (by rw [h1]; decide)
      obtain ⟨q, hq, _, _, _, _, _, _, _, q8⟩ := hG.mm (by rw [h2]; decide)
      have a := p7 h1
      have b := q8 h2
      exact .inr ((order_num hp hq).2.2 (by grind))
    · obtain ⟨p, hp, _, _, _, _, _, _, _, p8⟩ := hF.mm (by rw [h1]; decide)
      obtain ⟨q, hq, _, _, _, _, _, _, q7, _⟩ := hG.mm (by rw [h2]; decide)
      have a := p8 h1
      have b := q7 h2
      exact .inl ((order_num hp hq).1 (by grind))
  · cases h

theorem isZ_ok {x y : AF} {n m : Nat} (hx : RF X x n) (hy : RF X y m) (h : isZ x y = true) : double.order n m = some .eq := by
  unfold isZ at h
  split at h
  · rename_i k F
    obtain ⟨rfl, hF⟩ := hx
    have hm : m = 0 := hy
    subst hm
    have h5 := Nat.eq_of_beq_eq_true h
    obtain ⟨q, hq, _, _, _, _, hq5, _⟩ := hF.mm (by rw [h5]; decide)
    exact (order_num hq val_zero).2.1 (hq5 h5)
  · rename_i k F k' G
    obtain ⟨rfl, hF⟩ := hx
    obtain ⟨rfl, hG⟩ := hy
    cases hs : sameId F G
    · rw [hs] at h
      simp only [Bool.or_false, Bool.and_eq_true] at h
      obtain ⟨h1, h2⟩ := h
      have h1 := Nat.eq_of_beq_eq_true h1
      have h2 := Nat.eq_of_beq_eq_true h2
      obtain ⟨p, hp, _, _, _, _, p5, _⟩ := hF.mm (by rw [h1]; decide)
      obtain ⟨q, hq, _, _, _, _, q5, _⟩ := hG.mm (by rw [h2]; decide)
      exact (order_num hp hq).2.1 (by rw [p5 h1, q5 h2])
    · have e := sameId_ok hF hG hs
      subst e
      exact order_self hF.nn
  · cases h

/-- Nought's bits, but for the sign. -/
theorem abs_zero {n : Nat} (h : val n = some 0) : n % 2 ^ 63 = 0 := by
  have hk := val_abs h
  rw [ab_zero] at hk
  obtain ⟨s, m', i, h1, h2⟩ := val_of hk
  have hm' : m' = 0 := by
    rcases Nat.eq_zero_or_pos m' with h | h
    · exact h
    · exfalso
      have h3 := Rat.mul_pos (cast_lt h) (p2_pos i)
      have e0 : ((0 : Nat) : Rat) = 0 := rfl
      cases s
      · rw [sg_false] at h2; grind
      · rw [sg_true] at h2; grind
  subst hm'
  obtain ⟨c1, c2, c3, c4, c5⟩ := consts
  unfold Format.read at h1
  simp only [c2, c3, c4, c5] at h1
  have hmm : n % 2 ^ 63 % 2 ^ 63 = n % 2 ^ 63 := Nat.mod_mod _ _
  rw [hmm] at h1
  split at h1
  · simp only [Datum.number.injEq] at h1; exact h1.2.1
  · split at h1
    · simp only [Datum.number.injEq] at h1; omega
    · split at h1 <;> cases h1

/-- A whole number within 49, as a float. -/
theorem small_val (n : Int) (h1 : -49 ≤ n) (h2 : n ≤ 49) : ∃ q, val (FloatKind.f64.nearest n) = some q ∧ ab q ≤ p2 6 := by
  have hb : ((n.natAbs : Nat) : Rat) * p2 0 ≤ p2 5 + p2 5 := by
    rw [p2_zero]
    have h3 : n.natAbs ≤ 64 := by omega
    have h4 := cast_le h3
    have e : ((64 : Nat) : Rat) = p2 6 := (p2_nat 6).symm
    have e2 : p2 6 = 2 * p2 5 := half 6
    grind
  have e6 : p2 6 = 2 * p2 5 := half 6
  obtain ⟨Z, hZ, hN⟩ := write_spec (decide (n < 0)) n.natAbs 0 (W := sg (decide (n < 0)) * ((n.natAbs : Nat) : Rat) * p2 0) rfl (by
    have h0 := Rat.mul_nonneg (cast_nonneg n.natAbs) (Rat.le_of_lt (p2_pos 0))
    rw [Rat.mul_assoc, ab_mul, ab_of_nonneg h0]
    have : ab (sg (decide (n < 0))) = 1 := by cases decide (n < 0) <;> simp [ab, sg] <;> decide
    rw [this]
    have h5 : p2 6 ≤ p2 1000 := p2_mono (by omega)
    grind)
  refine ⟨Z, hZ, ?_⟩
  have h0 := Rat.mul_nonneg (cast_nonneg n.natAbs) (Rat.le_of_lt (p2_pos 0))
  have habW : ab (sg (decide (n < 0)) * ((n.natAbs : Nat) : Rat) * p2 0) = ((n.natAbs : Nat) : Rat) * p2 0 := by
    rw [Rat.mul_assoc, ab_mul, ab_of_nonneg h0]
    have : ab (sg (decide (n < 0))) = 1 := by cases decide (n < 0) <;> simp [ab, sg] <;> decide
    rw [this]; grind
  have hW2 : ((n.natAbs : Nat) : Rat) * p2 0 ≤ 49 := by
    rw [p2_zero]
    have h3 : n.natAbs ≤ 49 := by omega
    have h4 := cast_le h3
    have e : ((49 : Nat) : Rat) = 49 := rfl
    grind
  obtain ⟨g1, g2⟩ := hN
  rw [habW] at g1 g2
  generalize sg (decide (n < 0)) * ((n.natAbs : Nat) : Rat) * p2 0 = W at *
  generalize ((n.natAbs : Nat) : Rat) * p2 0 = V at *
  unfold loss at g1 g2
  have a1 : p2 (-53) ≤ p2 (-4) := p2_mono (by omega)
  have a2 : p2 (-1075) ≤ p2 (-4) := p2_mono (by omega)
  have c0 : p2 0 = 2 * p2 (-1) := half 0
  have c1 : p2 (-1) = 2 * p2 (-2) := half (-1)
  have c2 : p2 (-2) = 2 * p2 (-3) := half (-2)
  have c3 : p2 (-3) = 2 * p2 (-4) := half (-3)
  rw [p2_zero] at c0
  have c4 : p2 (-4) = 1 / 16 := by grind
  rw [c4] at a1 a2
  have a3 := Rat.mul_le_mul_of_nonneg_right a1 h0
  have d6 : p2 6 = 64 := by
    have : p2 6 = ((2 ^ 6 : Nat) : Rat) := p2_nat 6
    rw [this]; rfl
  rw [d6]
  have hl := le_ab W
  rw [habW] at hl
  exact ab_le (by grind) (by grind)

end Go.Sv
