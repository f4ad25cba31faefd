/- Rows of small functions. No conditions.
-/
import Derived.Test.YtepeiijjldpcpaaGreatSvM
import Derived.Test.YtepeiijjldpcpaaGreatSvQ1
import Derived.Test.YtepeiijjldpcpaaGreatSvLa
set_option linter.all false
namespace Go.Sv
variable [gi : GoodC]

/-- Each number that a tree holds, where it holds it. -/
def Tr.each {α : Type} (p : Nat → α → Prop) : Tr α → Nat → Nat → Prop
  | .nil, _, _ => True
  | .node none l r, o, s => l.each p (o + s) (2 * s) ∧ r.each p (o + 2 * s) (2 * s)
  | .node (some x) l r, o, s => p o x ∧ l.each p (o + s) (2 * s) ∧ r.each p (o + 2 * s) (2 * s)

theorem Tr.each_get {α : Type} {p : Nat → α → Prop} : ∀ (t : Tr α) (o s : Nat), t.each p o s → ∀ i x, t.get i = some x → p (o + s * i) x
  | .nil, _, _, _, i, x, h => by simp [Tr.get] at h
  | .node v l r, o, s, he, i, x, h => by
    have hl : l.each p (o + s) (2 * s) := by
      cases v with
      | none => exact he.1
      | some y => exact he.2.1
    have hr : r.each p (o + 2 * s) (2 * s) := by
      cases v with
      | none => exact he.2
      | some y => exact he.2.2
    cases i with
    | zero =>
      have hv : v = some x := by simpa [Tr.get] using h
      subst hv
      exact he.1
    | succ i =>
      have hm : i = 2 * (i / 2) + i % 2 := (Nat.div_add_mod i 2).symm
      simp only [Tr.get] at h
      cases hb : Nat.beq (Nat.mod i 2) 0
      · rw [hb, cond_false] at h
        have hne : i % 2 ≠ 0 := fun e => by
          have e' : Nat.mod i 2 = 0 := e
          rw [e'] at hb
          cases hb
        have := Tr.each_get r _ _ hr (i / 2) x h
        have e : o + s * (i + 1) = o + 2 * s + 2 * s * (i / 2) := by
          have h1 : i % 2 = 1 := by omega
          have h2 : s * (i + 1) = s * (2 * (i / 2) + 2) := by congr 1; omega
          rw [h2, Nat.mul_add, ← Nat.mul_assoc, Nat.mul_comm s 2]
          omega
        rw [e]
        exact this
      · rw [hb, cond_true] at h
        have h0 : i % 2 = 0 := Nat.eq_of_beq_eq_true hb
        have := Tr.each_get l _ _ hl (i / 2) x h
        have e : o + s * (i + 1) = o + s + 2 * s * (i / 2) := by
          have h2 : s * (i + 1) = s * (2 * (i / 2) + 1) := by congr 1; omega
          rw [h2, Nat.mul_add, ← Nat.mul_assoc, Nat.mul_comm s 2]
          omega
        rw [e]
        exact this

end Go.Sv

namespace Go.Sv.C
open Go.Sv Go.Proofs
variable [gi : GoodC]


theorem mixed : Tryz.prog.follows .mixedOrders = true := by kernel_rfl

theorem table_each : table.each (fun f q => ∃ fn, Tryz.prog.funcs[f]? = some fn ∧ (cFun Tryz.prog fn).map toQF = some q) 0 1 :=
  ⟨⟨⟨⟨_, Tryz.func3, q3_is⟩, ⟨⟨_, Tryz.func7, q7_is⟩, ⟨⟨_, Tryz.func15, q15_is⟩, ⟨⟨_, Tryz.func31, q31_is⟩, ⟨⟨_, Tryz.func63, q63_is⟩, trivial, trivial⟩, ⟨⟨_, Tryz.func95,
    q95_is⟩, trivial, trivial⟩⟩, ⟨⟨_, Tryz.func47, q47_is⟩, ⟨⟨_, Tryz.func79, q79_is⟩, trivial, trivial⟩, ⟨⟨_, Tryz.func111, q111_is⟩, trivial, trivial⟩⟩⟩, ⟨⟨_, Tryz.func23,
    q23_is⟩, ⟨⟨_, Tryz.func39, q39_is⟩, ⟨⟨_, Tryz.func71, q71_is⟩, trivial, trivial⟩, ⟨⟨_, Tryz.func103, q103_is⟩, trivial, trivial⟩⟩, ⟨⟨_, Tryz.func55, q55_is⟩, ⟨⟨_,
    Tryz.func87, q87_is⟩, trivial, trivial⟩, ⟨⟨_, Tryz.func119, q119_is⟩, trivial, trivial⟩⟩⟩⟩, ⟨⟨_, Tryz.func11, q11_is⟩, ⟨⟨_, Tryz.func19, q19_is⟩, ⟨⟨_, Tryz.func35,
    q35_is⟩, ⟨⟨_, Tryz.func67, q67_is⟩, trivial, trivial⟩, ⟨⟨_, Tryz.func99, q99_is⟩, trivial, trivial⟩⟩, ⟨⟨_, Tryz.func51, q51_is⟩, ⟨⟨_, Tryz.func83, q83_is⟩, trivial,
    trivial⟩, ⟨⟨_, Tryz.func115, q115_is⟩, trivial, trivial⟩⟩⟩, ⟨⟨_, Tryz.func27, q27_is⟩, ⟨⟨_, Tryz.func43, q43_is⟩, ⟨⟨_, Tryz.func75, q75_is⟩, trivial, trivial⟩, ⟨⟨_,
    Tryz.func107, q107_is⟩, trivial, trivial⟩⟩, ⟨⟨_, Tryz.func59, q59_is⟩, ⟨⟨_, Tryz.func91, q91_is⟩, trivial, trivial⟩, ⟨⟨_, Tryz.func123, q123_is⟩, trivial, trivial⟩⟩⟩⟩⟩,
    ⟨⟨_, Tryz.func5, q5_is⟩, ⟨⟨_, Tryz.func9, q9_is⟩, ⟨⟨_, Tryz.func17, q17_is⟩, ⟨⟨_, Tryz.func33, q33_is⟩, ⟨⟨_, Tryz.func65, q65_is⟩, trivial, trivial⟩, ⟨⟨_, Tryz.func97,
    q97_is⟩, trivial, trivial⟩⟩, ⟨⟨_, Tryz.func49, q49_is⟩, ⟨⟨_, Tryz.func81, q81_is⟩, trivial, trivial⟩, ⟨⟨_, Tryz.func113, q113_is⟩, trivial, trivial⟩⟩⟩, ⟨⟨⟨_, Tryz.func41,
    q41_is⟩, ⟨⟨_, Tryz.func73, q73_is⟩, trivial, trivial⟩, ⟨⟨_, Tryz.func105, q105_is⟩, trivial, trivial⟩⟩, ⟨⟨_, Tryz.func57, q57_is⟩, ⟨⟨_, Tryz.func89, q89_is⟩, trivial,
    trivial⟩, ⟨⟨_, Tryz.func121, q121_is⟩, trivial, trivial⟩⟩⟩⟩, ⟨⟨_, Tryz.func13, q13_is⟩, ⟨⟨_, Tryz.func21, q21_is⟩, ⟨⟨⟨_, Tryz.func69, q69_is⟩, trivial, trivial⟩, ⟨⟨_,
    Tryz.func101, q101_is⟩, trivial, trivial⟩⟩, ⟨⟨_, Tryz.func53, q53_is⟩, ⟨⟨_, Tryz.func85, q85_is⟩, trivial, trivial⟩, ⟨⟨_, Tryz.func117, q117_is⟩, trivial, trivial⟩⟩⟩,
    ⟨⟨_, Tryz.func29, q29_is⟩, ⟨⟨_, Tryz.func45, q45_is⟩, ⟨⟨_, Tryz.func77, q77_is⟩, trivial, trivial⟩, ⟨⟨_, Tryz.func109, q109_is⟩, trivial, trivial⟩⟩, ⟨⟨_, Tryz.func61,
    q61_is⟩, ⟨⟨_, Tryz.func93, q93_is⟩, trivial, trivial⟩, trivial⟩⟩⟩⟩⟩, ⟨⟨⟨_, Tryz.func4, q4_is⟩, ⟨⟨_, Tryz.func8, q8_is⟩, ⟨⟨_, Tryz.func16, q16_is⟩, ⟨⟨_, Tryz.func32,
    q32_is⟩, ⟨⟨_, Tryz.func64, q64_is⟩, trivial, trivial⟩, ⟨⟨_, Tryz.func96, q96_is⟩, trivial, trivial⟩⟩, ⟨⟨_, Tryz.func48, q48_is⟩, ⟨⟨_, Tryz.func80, q80_is⟩, trivial,
    trivial⟩, ⟨⟨_, Tryz.func112, q112_is⟩, trivial, trivial⟩⟩⟩, ⟨⟨_, Tryz.func24, q24_is⟩, ⟨⟨_, Tryz.func40, q40_is⟩, ⟨⟨_, Tryz.func72, q72_is⟩, trivial, trivial⟩, ⟨⟨_,
    Tryz.func104, q104_is⟩, trivial, trivial⟩⟩, ⟨⟨_, Tryz.func56, q56_is⟩, ⟨⟨_, Tryz.func88, q88_is⟩, trivial, trivial⟩, ⟨⟨_, Tryz.func120, q120_is⟩, trivial, trivial⟩⟩⟩⟩,
    ⟨⟨_, Tryz.func12, q12_is⟩, ⟨⟨_, Tryz.func20, q20_is⟩, ⟨⟨⟨_, Tryz.func68, q68_is⟩, trivial, trivial⟩, ⟨⟨_, Tryz.func100, q100_is⟩, trivial, trivial⟩⟩, ⟨⟨_, Tryz.func52,
    q52_is⟩, ⟨⟨_, Tryz.func84, q84_is⟩, trivial, trivial⟩, ⟨⟨_, Tryz.func116, q116_is⟩, trivial, trivial⟩⟩⟩, ⟨⟨_, Tryz.func28, q28_is⟩, ⟨⟨_, Tryz.func44, q44_is⟩, ⟨⟨_,
    Tryz.func76, q76_is⟩, trivial, trivial⟩, ⟨⟨_, Tryz.func108, q108_is⟩, trivial, trivial⟩⟩, ⟨⟨_, Tryz.func60, q60_is⟩, ⟨⟨_, Tryz.func92, q92_is⟩, trivial, trivial⟩, ⟨⟨_,
    Tryz.func124, q124_is⟩, trivial, trivial⟩⟩⟩⟩⟩, ⟨⟨_, Tryz.func6, q6_is⟩, ⟨⟨_, Tryz.func10, q10_is⟩, ⟨⟨_, Tryz.func18, q18_is⟩, ⟨⟨_, Tryz.func34, q34_is⟩, ⟨⟨_, Tryz.func66,
    q66_is⟩, trivial, trivial⟩, ⟨⟨_, Tryz.func98, q98_is⟩, trivial, trivial⟩⟩, ⟨⟨_, Tryz.func50, q50_is⟩, ⟨⟨_, Tryz.func82, q82_is⟩, trivial, trivial⟩, ⟨⟨_, Tryz.func114,
    q114_is⟩, trivial, trivial⟩⟩⟩, ⟨⟨_, Tryz.func26, q26_is⟩, ⟨⟨_, Tryz.func42, q42_is⟩, ⟨⟨_, Tryz.func74, q74_is⟩, trivial, trivial⟩, ⟨⟨_, Tryz.func106, q106_is⟩, trivial,
    trivial⟩⟩, ⟨⟨_, Tryz.func58, q58_is⟩, ⟨⟨_, Tryz.func90, q90_is⟩, trivial, trivial⟩, ⟨⟨_, Tryz.func122, q122_is⟩, trivial, trivial⟩⟩⟩⟩, ⟨⟨_, Tryz.func14, q14_is⟩, ⟨⟨_,
    Tryz.func22, q22_is⟩, ⟨⟨_, Tryz.func38, q38_is⟩, ⟨⟨_, Tryz.func70, q70_is⟩, trivial, trivial⟩, ⟨⟨_, Tryz.func102, q102_is⟩, trivial, trivial⟩⟩, ⟨⟨_, Tryz.func54, q54_is⟩,
    ⟨⟨_, Tryz.func86, q86_is⟩, trivial, trivial⟩, ⟨⟨_, Tryz.func118, q118_is⟩, trivial, trivial⟩⟩⟩, ⟨⟨_, Tryz.func30, q30_is⟩, ⟨⟨_, Tryz.func46, q46_is⟩, ⟨⟨_, Tryz.func78,
    q78_is⟩, trivial, trivial⟩, ⟨⟨_, Tryz.func110, q110_is⟩, trivial, trivial⟩⟩, ⟨⟨_, Tryz.func62, q62_is⟩, ⟨⟨_, Tryz.func94, q94_is⟩, trivial, trivial⟩, trivial⟩⟩⟩⟩⟩⟩

/-- The functions' code. -/
noncomputable def envA (f : Nat) : Option AFun :=
  match table.get f with
  | some _ => (Tryz.prog.funcs[f]?).bind (cFun Tryz.prog)
  | none => none

noncomputable def envQ : Nat → Option QFun := table.get

theorem known {f : Nat} {q : QFun} (h : envQ f = some q) : ∃ fn, Tryz.prog.funcs[f]? = some fn ∧ (cFun Tryz.prog fn).map toQF = some q := by
  have := Tr.each_get table 0 1 table_each f q h
  rw [Nat.zero_add, Nat.one_mul] at this
  exact this

theorem envQ_eq (f : Nat) : envQ f = (envA f).map toQF := by
  unfold envA
  cases h : table.get f with
  | none => exact h
  | some q =>
    obtain ⟨fn, h1, h2⟩ := known h
    have h' : envQ f = some q := h
    rw [h', h1]
    exact h2.symm

theorem env_ok : EnvOK Tryz.prog envA := by
  intro f af h
  unfold envA at h
  split at h
  · cases hf : Tryz.prog.funcs[f]? with
    | none => rw [hf] at h; cases h
    | some fn => rw [hf] at h; exact ⟨fn, rfl, h⟩
  · cases h

/-- A function that is known has a body. -/
theorem has_body {f : Nat} {q : QFun} (h : envQ f = some q) : ∃ fn, Tryz.prog.funcs[f]? = some fn ∧ fn.name ≠ "runtime.NumGoroutine" ∧ fn.body.isSome = true := by
  obtain ⟨fn, h1, h2⟩ := known h
  cases hc : cFun Tryz.prog fn with
  | none => rw [hc] at h2; cases h2
  | some af =>
    obtain ⟨g1, c, g2, _⟩ := cFun_spec hc
    exact ⟨fn, h1, g1, by rw [g2]; rfl⟩

/-- What the threaded code says of a call, with these rows, is what the call does. -/
theorem run_ok {ov : CallF} (hov : CallsOK Tryz.prog ov) (n : Nat) : CallsOK Tryz.prog (evFQ envQ ov n) := evFQ_ok envQ_eq env_ok hov mixed n

end Go.Sv.C

namespace Go.Sv.C
open Go.Sv Go.Proofs Go.Fl
variable [gi : GoodC]

/-- Rows of one function, ahead of others. -/
def ovAdd (k : Nat) (row : List AV → AH → Option (AT × AH)) (ov : CallF) : CallF := fun f args H => bif Nat.beq f k then row args H else ov f args H

theorem ovAdd_ok {P : Program} {k : Nat} {row : List AV → AH → Option (AT × AH)} {ov : CallF} (hrow : ∀ args H r H', row args H = some (r, H') → RowOK P k args H r H') (hov : CallsOK P ov) : CallsOK P (ovAdd k row ov) := by
  intro f args H r H' h
  unfold ovAdd at h
  cases hb : Nat.beq f k
  · rw [hb, cond_false] at h; exact hov f args H r H' h
  · rw [hb, cond_true] at h
    have := Nat.eq_of_beq_eq_true hb
    subst this
    exact hrow args H r H' h

def ov0 : CallF := fun _ _ _ => none
theorem ov0_ok : CallsOK Tryz.prog ov0 := no_ov

/- ### math.IsNaN -/

def rowNaN (args : List AV) (H : AH) : Option (AT × AH) :=
  match args with
  | [.c (.flt (.s _ _))] => some (mk1 (.bool false), H)
  | _ => none

def F1 : Fm := { id := 1, np := 0, pos := false, bd := none, fm := none }

theorem nan_run : ∀ n : Nat, evFQ envQ ov0 50 19 [.c (.flt (.s n F1))] bare = some (mk1 (.bool false), bare) := by
  intro n; kernel_rfl

theorem rowNaN_ok (args : List AV) (H : AH) (r : AT) (H' : AH) (h : rowNaN args H = some (r, H')) : RowOK Tryz.prog 19 args H r H' := by
  unfold rowNaN at h
  split at h
  · rename_i n F
    simp only [Option.some.injEq, Prod.mk.injEq] at h
    obtain ⟨rfl, rfl⟩ := h
    refine flat_row (run_ok (gi := triv) (ov0_ok (gi := triv)) 50) (fun ρ vs hvs => ?_) (has_body (q := q19) (by kernel_rfl))
    cases hvs with
    | cons h0 h1 =>
      cases h1
      obtain ⟨n', hn, rfl⟩ := h0
      obtain ⟨rfl, hF⟩ := hn
      refine ⟨{ ρ.X with nm := fun _ => n', lim := 0 }, [.c (.flt (.s n' F1))], mk1 (.bool false), bare, rfl, .cons ⟨n', ⟨rfl, ?_⟩, rfl⟩ .nil, nan_run n', rfl, fun v hv => hv⟩
      exact ⟨fun _ => rfl, fun h => absurd rfl h, hF.nn, fun h => (by cases h), fun b h => (by cases h), fun cs e h => (by cases h), fun h => absurd rfl h, fun h => absurd rfl h⟩
  · cases h

def ov1 : CallF := ovAdd 19 rowNaN ov0
theorem ov1_ok : CallsOK Tryz.prog ov1 := ovAdd_ok rowNaN_ok ov0_ok

/- ### cplx.Abs -/

def big : Nat := Nat.shiftLeft 1 440
def bigU : Nat := Nat.shiftLeft 1 230

/-- A context in which the parts don't count, but the numbers are small. -/
def tight (X : Ctx) (h : 2 ≤ X.np) (m : Rat) : Ctx :=
  { X with
    mm := m
    np := 2
    lim := 0
    vq := fun j => match j with | 0 => 1 | _ + 1 => X.M
    M3 := fun _ => X.M3 (by omega)
    M4 := fun _ => X.M4 h
    v0 := rfl
    vb := fun j => by
      cases j with
      | zero => show ab 1 ≤ X.M; rw [ab_of_nonneg (by decide)]; exact X.M1
      | succ j => show ab X.M ≤ X.M; rw [ab_of_nonneg (by have := X.M1; grind)]; grind
    vp := fun j h1 h2 => by
      cases j with
      | zero => omega
      | succ j => show (0 : Rat) ≤ X.M; have := X.M1; grind
    vs := fun _ => by
      show X.M ≤ 8 * (X.M + 0)
      have := X.M1; grind }

def FA (l m : Nat) : Fm := { id := 0, np := 2, pos := false, bd := some big, fm := none, lw := l, mm := m }

def fltOf (x : Option (AT × AH)) : Option Nat :=
  match x with
  | some (.v (.c (.flt (.s n _))), _) => some n
  | _ => none

theorem fltOf_spec {x : Option (AT × AH)} {n : Nat} (h : fltOf x = some n) : ∃ K H, x = some (mk1 (.flt (.s n K)), H) := by
  unfold fltOf at h
  split at h
  · simp only [Option.some.injEq] at h; subst h; exact ⟨_, _, rfl⟩
  · cases h

theorem abs_run1 : ∀ x y : Nat, fltOf (evFQ envQ ov1 100 7 [.c (.cpx (.s x (FA 1 3)) (.s y (FA 0 0)))] bare) = some (absB x y) := by
  intro x y; kernel_rfl
theorem abs_run2 : ∀ x y : Nat, fltOf (evFQ envQ ov1 100 7 [.c (.cpx (.s x (FA 0 3)) (.s y (FA 1 0)))] bare) = some (absB x y) := by
  intro x y; kernel_rfl

def isZero (x : Option (AT × AH)) : Bool :=
  match x with
  | some (.v (.c (.flt (.f 0))), _) => true
  | _ => false

theorem abs_run3 : ∀ x y : Nat, isZero (evFQ envQ ov1 100 7 [.c (.cpx (.s x (FA 0 5)) (.s y (FA 0 5)))] bare) = true := by
  intro x y; kernel_rfl

/-- The answer's facts. -/
def sumAbs : List Int → Nat
  | [] => 0
  | c :: r => Nat.add c.natAbs (sumAbs r)

/-- A bound: by what is known, or by the form. -/
def bndF (F : Fm) (a : Nat) : Nat :=
  match F.fm with
  | some (cs, e) => fz (Nat.add (sumAbs cs) e) fun x => bif Nat.ble a x then a else x
  | none => a

theorem ab_int (c : Int) : ab (c : Rat) = ((c.natAbs : Nat) : Rat) := by
  cases c with
  | ofNat x =>
    have : (((Int.ofNat x : Int)) : Rat) = (x : Rat) := rfl
    rw [this, ab_of_nonneg (cast_nonneg x)]; rfl
  | negSucc x =>
    have en : ((Int.negSucc x : Int) : Rat) = -((Nat.succ x : Nat) : Rat) := Rat.intCast_neg (Int.ofNat (Nat.succ x))
    rw [en, ab_neg, ab_of_nonneg (cast_nonneg _)]; rfl

theorem lin_sum (X : Ctx) : ∀ (cs : List Int) (j : Nat), ab (lin X.vq cs j) ≤ ((sumAbs cs : Nat) : Rat) * X.M
  | [], j => by
    have e : lin X.vq [] j = 0 := rfl
    rw [e, ab_zero]
    have : ((sumAbs [] : Nat) : Rat) = 0 := rfl
    rw [this]; grind
  | c :: r, j => by
    have ih := lin_sum X r (j + 1)
    have h1 := ab_add ((c : Rat) * X.vq j) (lin X.vq r (j + 1))
    have h2 : ab ((c : Rat) * X.vq j) ≤ ((c.natAbs : Nat) : Rat) * X.M := by
      rw [ab_mul]
      have e : ab (c : Rat) = ((c.natAbs : Nat) : Rat) := ab_int c
      rw [e]
      exact Rat.mul_le_mul_of_nonneg_left (X.vb j) (cast_nonneg _)
    have e2 : ((sumAbs (c :: r) : Nat) : Rat) = ((c.natAbs : Nat) : Rat) + ((sumAbs r : Nat) : Rat) := cast_add _ _
    rw [e2]
    have e3 : lin X.vq (c :: r) j = (c : Rat) * X.vq j + lin X.vq r (j + 1) := rfl
    rw [e3]
    grind

theorem bndF_ok {X : Ctx} {F : Fm} {n a : Nat} {q : Rat} (hF : Fact X F n) (hq : val n = some q) (ha : ab q * U ≤ (a : Rat) * X.M) : ab q * U ≤ ((bndF F a : Nat) : Rat) * X.M := by
  unfold bndF
  split
  · rename_i cs e hfm
    rw [fz_eq]
    cases hb : Nat.ble a (Nat.add (sumAbs cs) e)
    · rw [cond_false]
      obtain ⟨q', hq', h1⟩ := hF.fm cs e hfm
      rw [hq] at hq'
      simp only [Option.some.injEq] at hq'
      subst hq'
      have h2 := lin_sum X cs 0
      have h3 := ab_add (q * U - lin X.vq cs 0) (lin X.vq cs 0)
      have e1 : q * U - lin X.vq cs 0 + lin X.vq cs 0 = q * U := by grind
      rw [e1] at h3
      have e2 : ab (q * U) = ab q * U := by rw [ab_mul, ab_of_nonneg (Rat.le_of_lt U_pos)]
      rw [e2] at h3
      have e3 : ((Nat.add (sumAbs cs) e : Nat) : Rat) = ((sumAbs cs : Nat) : Rat) + (e : Rat) := cast_add _ _
      rw [e3]
      grind
    · rw [cond_true]; exact ha
  · exact ha

def absK (F G : Fm) (a b : Nat) : Fm := { id := 0, np := max2N F.np G.np, pos := true, bd := some (Nat.mul 3 (max2N a b)), fm := some ([], Nat.mul 3 (max2N a b)), lw := bif Nat.beq F.lw 0 && Nat.beq G.lw 0 then 0 else 1 }

def rowAbs (args : List AV) (H : AH) : Option (AT × AH) :=
  match args with
  | [.c (.cpx x y)] =>
    bif isS x || isS y then
      match toS x, toS y with
      | some (n, F), some (m, G) =>
        match F.bd, G.bd with
        | some a, some b => bif Nat.ble (max2N a b) big && !Nat.ble (max2N F.np G.np) 1 then fzM (absK F G (bndF F a) (bndF G b)) fun K => some (mk1 (.flt (.s (absB n m) K)), H) else none
        | _, _ => none
      | _, _ => none
    else none
  | _ => none

theorem big_cast : ((big : Nat) : Rat) = Fl.p2 440 := shl_cast 440

/-- A bound of what is known within big. -/
theorem big_bd {X : Ctx} (hX : 2 ≤ X.np) {F : Fm} {n a : Nat} (hF : Fact X F n) (ha : F.bd = some a) (hb : a ≤ big) : ∃ q, val n = some q ∧ ab q * U ≤ (a : Rat) * X.M ∧ ab q ≤ Fl.p2 440 := by
  obtain ⟨q, hq, h1⟩ := hF.bd a ha
  refine ⟨q, hq, h1, ?_⟩
  have h2 := Rat.mul_le_mul_of_nonneg_right (cast_le hb) (M0 X)
  rw [big_cast] at h2
  have h3 := Rat.mul_le_mul_of_nonneg_left (X.M4 hX) (Rat.le_of_lt (p2_pos 440))
  have h4 : ab q * U ≤ Fl.p2 440 * Fl.p2 20 := Rat.le_trans h1 (Rat.le_trans h2 h3)
  have h5 := Rat.mul_le_mul_of_nonneg_right h4 (Rat.le_of_lt (p2_pos (-100)))
  have e1 : ab q * U * Fl.p2 (-100) = ab q := by
    unfold U
    rw [Rat.mul_assoc, p2_inv]
    grind
  have e2 : Fl.p2 440 * Fl.p2 20 * Fl.p2 (-100) = Fl.p2 360 := by rw [← p2_add, ← p2_add]; rfl
  rw [e1, e2] at h5
  exact Rat.le_trans h5 (p2_mono (by omega))

theorem FA_fact {X : Ctx} (hX : X.np = 2) {n : Nat} {q : Rat} (hq : val n = some q) {a : Nat} (h1 : ab q * U ≤ (a : Rat) * X.M) (h2 : a ≤ big) {l m : Nat} (hl : l = 0 ∨ (l = 1 ∧ q ≠ 0)) (hm : m = 0 ∨ (m = 3 ∧ ab q = X.mm) ∨ (m = 5 ∧ q = 0)) : Fact X (FA l m) n := by
  refine ⟨fun h => absurd rfl h, fun _ => hX.symm, Sv.nn_of hq, fun h => (by cases h), fun b hb => ?_, fun cs e h => (by cases h), fun h => ?_, fun h => ?_⟩
  · simp only [FA, Option.some.injEq] at hb
    subst hb
    exact ⟨q, hq, Rat.le_trans h1 (Rat.mul_le_mul_of_nonneg_right (cast_le h2) (M0 X))⟩
  · rcases hl with rfl | ⟨rfl, h0⟩
    · exact absurd rfl h
    · exact ⟨q, hq, h0, fun e => by cases e⟩
  · rcases hm with rfl | ⟨rfl, h0⟩ | ⟨rfl, h0⟩
    · exact absurd rfl h
    · exact ⟨q, hq, fun e => (by cases e), fun e => (by cases e), fun _ => h0, fun e => (by cases e), fun e => (by cases e), fun e => (by cases e), fun e => (by cases e), fun e => (by cases e)⟩
    · exact ⟨q, hq, fun e => (by cases e), fun e => (by cases e), fun e => (by cases e), fun e => (by cases e), fun _ => h0, fun e => (by cases e), fun e => (by cases e), fun e => (by cases e)⟩

theorem flat_flt (n : Nat) (K : Fm) : flatT (mk1 (.flt (.s n K))) = true := rfl

theorem rowAbs_ok (args : List AV) (H : AH) (r : AT) (H' : AH) (h : rowAbs args H = some (r, H')) : RowOK Tryz.prog 7 args H r H' := by
  unfold rowAbs at h
  split at h
  · rename_i x y
    cases hS : isS x || isS y
    · rw [hS] at h; cases h
    rw [hS, cond_true] at h
    split at h
    · rename_i n F m G hxs hys
      split at h
      · rename_i a b ha hb
        cases hbig : Nat.ble (max2N a b) big && !Nat.ble (max2N F.np G.np) 1
        · rw [hbig] at h; cases h
        · rw [hbig, cond_true, fzM_eq] at h
          simp only [Option.some.injEq, Prod.mk.injEq] at h
          obtain ⟨rfl, rfl⟩ := h
          simp only [Bool.and_eq_true] at hbig
          have hle := Nat.le_of_ble_eq_true hbig.1
          have hm2 : 2 ≤ max2N F.np G.np := by
            by_cases h2 : max2N F.np G.np ≤ 1
            · rw [Nat.ble_eq_true_of_le h2] at hbig; simp at hbig
            · omega
          have hm0 : max2N F.np G.np ≠ 0 := by omega
          have ha' : a ≤ big := Nat.le_trans (max2N_ge a b).1 hle
          have hb' : b ≤ big := Nat.le_trans (max2N_ge a b).2 hle
          refine flat_row (run_ok (gi := triv) (ov1_ok (gi := triv)) 100) (fun ρ vs hvs => ?_) (has_body (q := q7) (by kernel_rfl))
          cases hvs with
          | cons h0 h1 =>
            cases h1
            obtain ⟨n', m', hn, hm, rfl⟩ := h0
            obtain ⟨rfl, hF⟩ := toS_ok hn hxs
            obtain ⟨rfl, hG⟩ := toS_ok hm hys
            have hnp : 2 ≤ ρ.X.np := np_max hF hG hm0 ▸ hm2
            obtain ⟨p, hp, hpb, hp3⟩ := big_bd hnp hF ha ha'
            obtain ⟨q, hq, hqb, hq3⟩ := big_bd hnp hG hb hb'
            obtain ⟨z, hz, hz0, hz3, hzne, _⟩ := absB_law hp hq (T := Fl.p2 440) (p2_mono (by omega)) hp3 hq3
            -- the answer's facts
            have hpb' := bndF_ok hF hp hpb
            have hqb' := bndF_ok hG hq hqb
            have hzb : z * U ≤ ((Nat.mul 3 (max2N (bndF F a) (bndF G b)) : Nat) : Rat) * ρ.X.M := by
              have e : ((Nat.mul 3 (max2N (bndF F a) (bndF G b)) : Nat) : Rat) = 3 * ((max2N (bndF F a) (bndF G b) : Nat) : Rat) := cast_mul 3 _
              rw [e]
              have hBp : ab p * U ≤ ((max2N (bndF F a) (bndF G b) : Nat) : Rat) * ρ.X.M := Rat.le_trans hpb' (Rat.mul_le_mul_of_nonneg_right (cast_le (max2N_ge _ _).1) (M0 ρ.X))
              have hBq : ab q * U ≤ ((max2N (bndF F a) (bndF G b) : Nat) : Rat) * ρ.X.M := Rat.le_trans hqb' (Rat.mul_le_mul_of_nonneg_right (cast_le (max2N_ge _ _).2) (M0 ρ.X))
              by_cases hc : ab p ≤ ab q
              · have := hz3 (ab q) hc Rat.le_refl
                have := Rat.mul_le_mul_of_nonneg_right this (Rat.le_of_lt U_pos)
                grind
              · have := hz3 (ab p) Rat.le_refl (by grind)
                have := Rat.mul_le_mul_of_nonneg_right this (Rat.le_of_lt U_pos)
                grind
            have hK : Fact ρ.X (absK F G (bndF F a) (bndF G b)) (absB n m) := by
              refine ⟨fun h => absurd rfl h, fun h => np_max hF hG h, Sv.nn_of hz, fun _ => nonneg_of hz hz0, fun c hc => ?_, fun cs e h => ?_, fun h => ?_, fun h => absurd rfl h⟩
              · simp only [absK, Option.some.injEq] at hc
                subst hc
                refine ⟨z, hz, ?_⟩
                rw [ab_of_nonneg hz0]
                exact hzb
              · simp only [absK, Option.some.injEq, Prod.mk.injEq] at h
                obtain ⟨rfl, rfl⟩ := h
                refine ⟨z, hz, ?_⟩
                have e0 : z * U - lin ρ.X.vq [] 0 = z * U := by simp only [lin]; grind
                rw [e0, ab_mul, ab_of_nonneg hz0, ab_of_nonneg (Rat.le_of_lt U_pos)]
                exact hzb
              · simp only [absK] at h ⊢
                cases hl : Nat.beq F.lw 0 && Nat.beq G.lw 0
                · rw [cond_false]
                  refine ⟨z, hz, hzne ?_, fun e => by cases e⟩
                  cases hf : Nat.beq F.lw 0
                  · obtain ⟨p', hp', h1, _⟩ := hF.lw (fun e => by rw [e] at hf; cases hf)
                    rw [hp] at hp'; simp only [Option.some.injEq] at hp'; subst hp'
                    exact .inl h1
                  · have hg : Nat.beq G.lw 0 = false := by rw [hf] at hl; simpa using hl
                    obtain ⟨q', hq', h1, _⟩ := hG.lw (fun e => by rw [e] at hg; cases hg)
                    rw [hq] at hq'; simp only [Option.some.injEq] at hq'; subst hq'
                    exact .inr h1
                · rw [hl] at h; exact absurd rfl h
            have fin : ∀ v, v = Value.float .f64 (absB n m) → R1 ρ (mk1 (.flt (.s (absB n m) (absK F G (bndF F a) (bndF G b))))) v := fun v hv => ⟨_, ⟨rfl, hK⟩, hv⟩
            by_cases hp0 : p = 0
            · by_cases hq0 : q = 0
              · -- both are nought
                subst hp0; subst hq0
                have hrun := abs_run3 n m
                have hzero := absB_zero hp hq
                unfold isZero at hrun
                split at hrun
                · rename_i H0 hr
                  refine ⟨tight ρ.X hnp 0, [.c (.cpx (.s n (FA 0 5)) (.s m (FA 0 5)))], _, H0, rfl, .cons ⟨n, m, ⟨rfl, FA_fact (X := tight ρ.X hnp 0) rfl hp hpb ha' (.inl rfl) (.inr (.inr ⟨rfl, rfl⟩))⟩, ⟨rfl, FA_fact (X := tight ρ.X hnp 0) rfl hq hqb hb' (.inl rfl) (.inr (.inr ⟨rfl, rfl⟩))⟩, rfl⟩ .nil, hr, rfl, fun v hv => ?_⟩
                  obtain ⟨k, hk, rfl⟩ := hv
                  exact fin _ (by rw [hzero]; have hk' : k = 0 := hk; rw [hk'])
                · cases hrun
              · obtain ⟨K0, H0, hr⟩ := fltOf_spec (abs_run2 n m)
                refine ⟨tight ρ.X hnp (ab p), [.c (.cpx (.s n (FA 0 3)) (.s m (FA 1 0)))], _, H0, rfl, .cons ⟨n, m, ⟨rfl, FA_fact (X := tight ρ.X hnp (ab p)) rfl hp hpb ha' (.inl rfl) (.inr (.inl ⟨rfl, rfl⟩))⟩, ⟨rfl, FA_fact (X := tight ρ.X hnp (ab p)) rfl hq hqb hb' (.inr ⟨rfl, hq0⟩) (.inl rfl)⟩, rfl⟩ .nil, hr, rfl, fun v hv => ?_⟩
                obtain ⟨k, hk, rfl⟩ := hv
                exact fin _ (by rw [hk.1])
            · obtain ⟨K0, H0, hr⟩ := fltOf_spec (abs_run1 n m)
              refine ⟨tight ρ.X hnp (ab p), [.c (.cpx (.s n (FA 1 3)) (.s m (FA 0 0)))], _, H0, rfl, .cons ⟨n, m, ⟨rfl, FA_fact (X := tight ρ.X hnp (ab p)) rfl hp hpb ha' (.inr ⟨rfl, hp0⟩) (.inr (.inl ⟨rfl, rfl⟩))⟩, ⟨rfl, FA_fact (X := tight ρ.X hnp (ab p)) rfl hq hqb hb' (.inl rfl) (.inl rfl)⟩, rfl⟩ .nil, hr, rfl, fun v hv => ?_⟩
              obtain ⟨k, hk, rfl⟩ := hv
              exact fin _ (by rw [hk.1])
      · cases h
    · cases h
  · cases h

def ov2 : CallF := ovAdd 7 rowAbs ov1
theorem ov2_ok : CallsOK Tryz.prog ov2 := ovAdd_ok rowAbs_ok ov1_ok

/- ### cplx.Unit -/

def cpxOf (x : Option (AT × AH)) : Option (Nat × Nat) :=
  match x with
  | some (.tup [.c (.cpx (.s n _) (.s m _)), .c (.int .i64 0)], _) => some (n, m)
  | _ => none

def FU (l m : Nat) : Fm := { id := 0, np := 2, pos := false, bd := some bigU, fm := none, lw := l, mm := m }

theorem unit_run1 : ∀ x y : Nat, cpxOf (evFQ envQ ov2 100 52 [.c (.cpx (.s x (FU 1 0)) (.s y (FU 0 0)))] bare) = some (uRe x y, uIm x y) := by
  intro x y; kernel_rfl
theorem unit_run2 : ∀ x y : Nat, cpxOf (evFQ envQ ov2 100 52 [.c (.cpx (.s x (FU 0 0)) (.s y (FU 1 0)))] bare) = some (uRe x y, uIm x y) := by
  intro x y; kernel_rfl

def noUnit (x : Option (AT × AH)) : Bool :=
  match x with
  | some (.tup [.c (.cpx (.f 0) (.f 0)), .c (.int .i64 8)], _) => true
  | _ => false

theorem unit_run3 : ∀ x y : Nat, noUnit (evFQ envQ ov2 100 52 [.c (.cpx (.s x (FU 0 5)) (.s y (FU 0 5)))] bare) = true := by
  intro x y; kernel_rfl

def zB (n : Nat) : Bool := Nat.beq (n % 2 ^ 63) 0
def unitRe (n m : Nat) : Nat := bif zB n && zB m then 0 else uRe n m
def unitIm (n m : Nat) : Nat := bif zB n && zB m then 0 else uIm n m
def unitE (n m : Nat) : Int := bif zB n && zB m then 8 else 0

theorem zB_iff {n : Nat} {p : Rat} (h : val n = some p) : zB n = true ↔ p = 0 := by
  constructor
  · intro hz
    have h0 : n % 2 ^ 63 = 0 := Nat.eq_of_beq_eq_true hz
    have h1 := val_abs h
    rw [h0, val_zero] at h1
    simp only [Option.some.injEq] at h1
    have := le_ab p
    grind
  · intro h0
    subst h0
    unfold zB
    rw [abs_zero h]
    rfl

def KU : Fm := { id := 0, np := 0, pos := false, bd := some (2 ^ 101), fm := none }

theorem KU_fact {X : Ctx} {n : Nat} {u : Rat} (h : val n = some u) (hb : ab u ≤ 2) : Fact X KU n := by
  refine ⟨fun h => absurd rfl h, fun h => absurd rfl h, Sv.nn_of h, fun h => (by cases h), fun b hb' => ?_, fun cs e h => (by cases h), fun h => absurd rfl h, fun h => absurd rfl h⟩
  simp only [KU, Option.some.injEq] at hb'
  subst hb'
  refine ⟨u, h, ?_⟩
  have c1 : ((2 ^ 101 : Nat) : Rat) = Fl.p2 101 := (p2_nat 101).symm
  have c2 : Fl.p2 101 = 2 * Fl.p2 100 := half 101
  rw [c1, c2]
  have c3 := Rat.mul_le_mul_of_nonneg_right hb (Rat.le_of_lt U_pos)
  have c4 := Rat.mul_le_mul_of_nonneg_left X.M1 (show (0 : Rat) ≤ 2 * Fl.p2 100 by have := p2_pos 100; grind)
  unfold U at c3 ⊢
  grind

def rowUnit (args : List AV) (H : AH) : Option (AT × AH) :=
  match args with
  | [.c (.cpx x y)] =>
    bif isS x || isS y then
      match toS x, toS y with
      | some (n, F), some (m, G) =>
        match F.bd, G.bd with
        | some a, some b => bif Nat.ble (max2N a b) bigU && !Nat.ble (max2N F.np G.np) 1 then some (.tup [.c (.cpx (.s (unitRe n m) KU) (.s (unitIm n m) KU)), .c (.si .i64 (unitE n m) .no)], H) else none
        | _, _ => none
      | _, _ => none
    else none
  | _ => none

theorem FU_fact {X : Ctx} (hX : X.np = 2) {n : Nat} {q : Rat} (hq : val n = some q) {a : Nat} (h1 : ab q * U ≤ (a : Rat) * X.M) (h2 : a ≤ bigU) {l m : Nat} (hl : l = 0 ∨ (l = 1 ∧ q ≠ 0)) (hm : m = 0 ∨ (m = 5 ∧ q = 0)) : Fact X (FU l m) n := by
  refine ⟨fun h => absurd rfl h, fun _ => hX.symm, Sv.nn_of hq, fun h => (by cases h), fun b hb => ?_, fun cs e h => (by cases h), fun h => ?_, fun h => ?_⟩
  · simp only [FU, Option.some.injEq] at hb
    subst hb
    exact ⟨q, hq, Rat.le_trans h1 (Rat.mul_le_mul_of_nonneg_right (cast_le h2) (M0 X))⟩
  · rcases hl with rfl | ⟨rfl, h0⟩
    · exact absurd rfl h
    · exact ⟨q, hq, h0, fun e => by cases e⟩
  · rcases hm with rfl | ⟨rfl, h0⟩
    · exact absurd rfl h
    · exact ⟨q, hq, fun e => (by cases e), fun e => (by cases e), fun e => (by cases e), fun e => (by cases e), fun _ => h0, fun e => (by cases e), fun e => (by cases e), fun e => (by cases e)⟩

theorem bd_U {X : Ctx} (hX : 2 ≤ X.np) {F : Fm} {n a : Nat} (hF : Fact X F n) (ha : F.bd = some a) (hb : a ≤ bigU) : ∃ q, val n = some q ∧ ab q * U ≤ (a : Rat) * X.M ∧ ab q ≤ Fl.p2 230 := by
  obtain ⟨q, hq, h1⟩ := hF.bd a ha
  refine ⟨q, hq, h1, ?_⟩
  have e0 : ((bigU : Nat) : Rat) = Fl.p2 230 := shl_cast 230
  have h2 := Rat.mul_le_mul_of_nonneg_right (cast_le hb) (M0 X)
  rw [e0] at h2
  have h3 := Rat.mul_le_mul_of_nonneg_left (X.M4 hX) (Rat.le_of_lt (p2_pos 230))
  have h4 : ab q * U ≤ Fl.p2 230 * Fl.p2 20 := Rat.le_trans h1 (Rat.le_trans h2 h3)
  have h5 := Rat.mul_le_mul_of_nonneg_right h4 (Rat.le_of_lt (p2_pos (-100)))
  have e1 : ab q * U * Fl.p2 (-100) = ab q := by
    unfold U
    rw [Rat.mul_assoc, p2_inv]
    grind
  have e2 : Fl.p2 230 * Fl.p2 20 * Fl.p2 (-100) = Fl.p2 150 := by rw [← p2_add, ← p2_add]; rfl
  rw [e1, e2] at h5
  exact Rat.le_trans h5 (p2_mono (by omega))

theorem cpxOf_spec {x : Option (AT × AH)} {n m : Nat} (h : cpxOf x = some (n, m)) : ∃ K L H, x = some (.tup [.c (.cpx (.s n K) (.s m L)), .c (.int .i64 0)], H) := by
  unfold cpxOf at h
  split at h
  · simp only [Option.some.injEq, Prod.mk.injEq] at h; obtain ⟨rfl, rfl⟩ := h; exact ⟨_, _, _, rfl⟩
  · cases h

theorem rowUnit_ok (args : List AV) (H : AH) (r : AT) (H' : AH) (h : rowUnit args H = some (r, H')) : RowOK Tryz.prog 52 args H r H' := by
  unfold rowUnit at h
  split at h
  · rename_i x y
    cases hS : isS x || isS y
    · rw [hS] at h; cases h
    rw [hS, cond_true] at h
    split at h
    · rename_i n F m G hxs hys
      split at h
      · rename_i a b ha hb
        cases hbig : Nat.ble (max2N a b) bigU && !Nat.ble (max2N F.np G.np) 1
        · rw [hbig] at h; cases h
        · rw [hbig, cond_true] at h
          simp only [Option.some.injEq, Prod.mk.injEq] at h
          obtain ⟨rfl, rfl⟩ := h
          simp only [Bool.and_eq_true] at hbig
          have hle := Nat.le_of_ble_eq_true hbig.1
          have hm2 : 2 ≤ max2N F.np G.np := by
            by_cases h2 : max2N F.np G.np ≤ 1
            · rw [Nat.ble_eq_true_of_le h2] at hbig; simp at hbig
            · omega
          have hm0 : max2N F.np G.np ≠ 0 := by omega
          have ha' : a ≤ bigU := Nat.le_trans (max2N_ge a b).1 hle
          have hb' : b ≤ bigU := Nat.le_trans (max2N_ge a b).2 hle
          refine flat_row (run_ok (gi := triv) (ov2_ok (gi := triv)) 100) (fun ρ vs hvs => ?_) (has_body (q := q52) (by kernel_rfl))
          cases hvs with
          | cons h0 h1 =>
            cases h1
            obtain ⟨n', m', hn, hm, rfl⟩ := h0
            obtain ⟨rfl, hF⟩ := toS_ok hn hxs
            obtain ⟨rfl, hG⟩ := toS_ok hm hys
            have hnp : 2 ≤ ρ.X.np := np_max hF hG hm0 ▸ hm2
            obtain ⟨p, hp, hpb, hp3⟩ := bd_U hnp hF ha ha'
            obtain ⟨q, hq, hqb, hq3⟩ := bd_U hnp hG hb hb'
            have zn := zB_iff hp
            have zm := zB_iff hq
            by_cases hz : p = 0 ∧ q = 0
            · obtain ⟨rfl, rfl⟩ := hz
              have hzz : (zB n && zB m) = true := by rw [zn.2 rfl, zm.2 rfl]; rfl
              have e1 : unitRe n m = 0 := by unfold unitRe; rw [hzz]; rfl
              have e2 : unitIm n m = 0 := by unfold unitIm; rw [hzz]; rfl
              have e3 : unitE n m = 8 := by unfold unitE; rw [hzz]; rfl
              have hrun := unit_run3 n m
              unfold noUnit at hrun
              split at hrun
              · rename_i H0 hr
                refine ⟨tight ρ.X hnp 0, [.c (.cpx (.s n (FU 0 5)) (.s m (FU 0 5)))], _, H0, rfl, .cons ⟨n, m, ⟨rfl, FU_fact (X := tight ρ.X hnp 0) rfl hp hpb ha' (.inl rfl) (.inr ⟨rfl, rfl⟩)⟩, ⟨rfl, FU_fact (X := tight ρ.X hnp 0) rfl hq hqb hb' (.inl rfl) (.inr ⟨rfl, rfl⟩)⟩, rfl⟩ .nil, hr, rfl, fun v hv => ?_⟩
                obtain ⟨vs, rfl, hvs⟩ := hv
                cases hvs with
                | cons g0 g1 =>
                  cases g1 with
                  | cons g2 g3 =>
                    cases g3
                    obtain ⟨k, l, hk, hl, rfl⟩ := g0
                    have hk' : k = 0 := hk
                    have hl' : l = 0 := hl
                    subst hk'; subst hl'
                    have g2' : _ = Value.int .i64 8 := g2
                    subst g2'
                    rw [e1, e2, e3]
                    have hU : Fact ρ.X KU 0 := KU_fact val_zero (by rw [ab_zero]; decide)
                    exact ⟨_, rfl, .cons ⟨0, 0, ⟨rfl, hU⟩, ⟨rfl, hU⟩, rfl⟩ (.cons ⟨rfl, trivial⟩ .nil)⟩
              · cases hrun
            · have hne : p ≠ 0 ∨ q ≠ 0 := by
                by_cases h : p = 0
                · right; exact fun h' => hz ⟨h, h'⟩
                · exact .inl h
              have hzz : (zB n && zB m) = false := by
                cases hb1 : zB n && zB m
                · rfl
                · simp only [Bool.and_eq_true] at hb1
                  exact absurd ⟨zn.1 hb1.1, zm.1 hb1.2⟩ hz
              have e1 : unitRe n m = uRe n m := by unfold unitRe; rw [hzz]; rfl
              have e2 : unitIm n m = uIm n m := by unfold unitIm; rw [hzz]; rfl
              have e3 : unitE n m = 0 := by unfold unitE; rw [hzz]; rfl
              obtain ⟨_, _, _, u, v, _, _, _, _, hu, hv, _, _, _, _, _, _, hu2, hv2⟩ := unit_law hp hq (T := Fl.p2 230) (p2_mono (by omega)) hp3 hq3 hne
              have fin : ∀ (K L : Fm) (v : Value), R1 (gi := triv) (rho0 (tight ρ.X hnp 0)) (.tup [.c (.cpx (.s (uRe n m) K) (.s (uIm n m) L)), .c (.int .i64 0)]) v → R1 ρ (.tup [.c (.cpx (.s (unitRe n m) KU) (.s (unitIm n m) KU)), .c (.si .i64 (unitE n m) .no)]) v := fun K L v hv' => by
                obtain ⟨vs, rfl, hvs⟩ := hv'
                cases hvs with
                | cons g0 g1 =>
                  cases g1 with
                  | cons g2 g3 =>
                    cases g3
                    obtain ⟨k, l, hk, hl, rfl⟩ := g0
                    obtain ⟨rfl, _⟩ := hk
                    obtain ⟨rfl, _⟩ := hl
                    have g2' : _ = Value.int .i64 0 := g2
                    subst g2'
                    rw [e1, e2, e3]
                    exact ⟨_, rfl, .cons ⟨_, _, ⟨rfl, KU_fact hu hu2⟩, ⟨rfl, KU_fact hv hv2⟩, rfl⟩ (.cons ⟨rfl, trivial⟩ .nil)⟩
              by_cases hp0 : p = 0
              · have hq0 : q ≠ 0 := fun h => hz ⟨hp0, h⟩
                obtain ⟨K, L, H0, hr⟩ := cpxOf_spec (unit_run2 n m)
                exact ⟨tight ρ.X hnp 0, [.c (.cpx (.s n (FU 0 0)) (.s m (FU 1 0)))], _, H0, rfl, .cons ⟨n, m, ⟨rfl, FU_fact (X := tight ρ.X hnp 0) rfl hp hpb ha' (.inl rfl) (.inl rfl)⟩, ⟨rfl, FU_fact (X := tight ρ.X hnp 0) rfl hq hqb hb' (.inr ⟨rfl, hq0⟩) (.inl rfl)⟩, rfl⟩ .nil, hr, rfl, fin K L⟩
              · obtain ⟨K, L, H0, hr⟩ := cpxOf_spec (unit_run1 n m)
                exact ⟨tight ρ.X hnp 0, [.c (.cpx (.s n (FU 1 0)) (.s m (FU 0 0)))], _, H0, rfl, .cons ⟨n, m, ⟨rfl, FU_fact (X := tight ρ.X hnp 0) rfl hp hpb ha' (.inr ⟨rfl, hp0⟩) (.inl rfl)⟩, ⟨rfl, FU_fact (X := tight ρ.X hnp 0) rfl hq hqb hb' (.inl rfl) (.inl rfl)⟩, rfl⟩ .nil, hr, rfl, fin K L⟩
      · cases h
    · cases h
  · cases h

def ov3 : CallF := ovAdd 52 rowUnit ov2
theorem ov3_ok : CallsOK Tryz.prog ov3 := ovAdd_ok rowUnit_ok ov2_ok

end Go.Sv.C
