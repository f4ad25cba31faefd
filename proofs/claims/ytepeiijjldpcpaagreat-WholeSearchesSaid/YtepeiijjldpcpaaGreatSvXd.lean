/- Small indices. No conditions.
-/
import Derived.Test.YtepeiijjldpcpaaGreatSvXa
set_option linter.all false
namespace Go.Sv.C
open Go.Sv Go.Proofs Go.Fl
section
variable [gi : GoodC]

def z64 (n : Int) : AC := .int .i64 n

/-- The map that moves nothing. -/
def oneL : List AC := [z64 1, z64 0, z64 0, z64 0, z64 1, z64 0, z64 0, z64 0, z64 1, z64 0, z64 0, z64 0]

def isOne (l : List AC) : Bool :=
  match sameInts l oneL with
  | some b => b
  | none => false

def rowMul (args : List AV) (H : AH) : Option (AT × AH) :=
  match args with
  | [.agg a, .agg b] => bif isOne a && isOne b then some (.tup [.agg oneL, .c (z64 0)], H) else none
  | _ => none

theorem mul_run : (evFQ envQ ov0 400 72 [.agg oneL, .agg oneL] bare).map (·.1) = some (.tup [.agg oneL, .c (z64 0)]) := by kernel_rfl

theorem sameInts_eq : ∀ {l m : List AC}, sameInts l m = some true → l = m
  | [], [], _ => rfl
  | [], _ :: _, h => by simp [sameInts] at h
  | x :: r, [], h => by cases x <;> simp [sameInts] at h
  | x :: r, y :: s, h => by
    cases x <;> cases y <;> simp only [sameInts] at h <;> first | (cases h; done) | skip
    split at h
    · rename_i hk
      subst hk
      split at h
      · rename_i t ht
        simp only [Option.some.injEq, Bool.and_eq_true] at h
        rw [eq_of_beq h.1, sameInts_eq (by rw [ht, h.2] : sameInts r s = some true)]
      · cases h
    · cases h

theorem isOne_eq {l : List AC} (h : isOne l = true) : l = oneL := by
  unfold isOne at h
  split at h
  · rename_i b hb
    subst h
    exact sameInts_eq hb
  · cases h

def intC : AC → Bool
  | .int _ _ => true
  | .bool _ => true
  | _ => false

def intCs : List AC → Bool
  | [] => true
  | x :: r => intC x && intCs r

def intV : AV → Bool
  | .c x => intC x
  | .agg xs => intCs xs

def intVs : List AV → Bool
  | [] => true
  | x :: r => intV x && intVs r

def intT : AT → Bool
  | .v x => intV x
  | .tup xs => intVs xs

end

theorem ints_relC {i j : GoodC} {ρ : @Rho i} {ρ' : @Rho j} {x : AC} {v : Value} (hv : RC (gi := i) ρ x v) (h : intC x = true) : RC (gi := j) ρ' x v := by
  cases x <;> first | (cases h; done) | exact hv

section
variable [gi : GoodC]

end

theorem ints_relCs {i j : GoodC} {ρ : @Rho i} {ρ' : @Rho j} {xs : List AC} {vs : List Value} (hv : RCs (gi := i) ρ xs vs) : intCs xs = true → RCs (gi := j) ρ' xs vs := by
  induction hv with
  | nil => exact fun _ => .nil
  | cons h0 _ ih =>
    intro h
    simp only [intCs, Bool.and_eq_true] at h
    exact .cons (ints_relC h0 h.1) (ih h.2)

section
variable [gi : GoodC]

end

theorem ints_relV {i j : GoodC} {ρ : @Rho i} {ρ' : @Rho j} {x : AV} {v : Value} (hv : RV (gi := i) ρ x v) (h : intV x = true) : RV (gi := j) ρ' x v := by
  cases x with
  | c x => exact ints_relC (i := i) hv h
  | agg xs => obtain ⟨vs, rfl, hvs⟩ := hv; exact ⟨vs, rfl, ints_relCs hvs h⟩

section
variable [gi : GoodC]

end

theorem ints_rels {i j : GoodC} {ρ : @Rho i} {ρ' : @Rho j} {xs : List AV} {vs : List Value} (hv : All2 (RV (gi := i) ρ) xs vs) : intVs xs = true → All2 (RV (gi := j) ρ') xs vs := by
  induction hv with
  | nil => exact fun _ => .nil
  | cons h0 _ ih =>
    intro h
    simp only [intVs, Bool.and_eq_true] at h
    exact .cons (ints_relV h0 h.1) (ih h.2)

section
variable [gi : GoodC]

end

theorem ints_relT {i j : GoodC} {ρ : @Rho i} {ρ' : @Rho j} {x : AT} {v : Value} (hv : R1 (gi := i) ρ x v) (h : intT x = true) : R1 (gi := j) ρ' x v := by
  cases x with
  | v x => exact ints_relV (i := i) hv h
  | tup xs => obtain ⟨vs, rfl, hvs⟩ := hv; exact ⟨vs, rfl, ints_rels hvs h⟩

section
variable [gi : GoodC]

theorem rowMul_ok (args : List AV) (H : AH) (r : AT) (H' : AH) (h : rowMul args H = some (r, H')) : RowOK Tryz.prog 72 args H r H' := by
  unfold rowMul at h
  split at h
  · rename_i a b
    cases hb : isOne a && isOne b
    · rw [hb] at h; cases h
    · rw [hb, cond_true] at h
      simp only [Option.some.injEq, Prod.mk.injEq] at h
      obtain ⟨rfl, rfl⟩ := h
      simp only [Bool.and_eq_true] at hb
      rw [isOne_eq hb.1, isOne_eq hb.2]
      refine flat_row (run_ok (gi := triv) (ov0_ok (gi := triv)) 400) (fun ρ vs hvs => ?_) (has_body (q := q72) (by kernel_rfl))
      have hr := mul_run
      cases hrun : evFQ envQ ov0 400 72 [.agg oneL, .agg oneL] bare with
      | none => rw [hrun] at hr; cases hr
      | some p =>
        obtain ⟨r0, H0⟩ := p
        rw [hrun] at hr
        simp only [Option.map_some, Option.some.injEq] at hr
        subst hr
        refine ⟨{ ρ.X with lim := 0 }, [.agg oneL, .agg oneL], _, H0, rfl, ?_, hrun, rfl, fun v hv => ?_⟩
        · exact ints_rels (i := gi) (j := triv) hvs rfl
        · exact ints_relT (i := triv) (j := gi) hv rfl
  · cases h

def ovM : CallF := ovAdd 72 rowMul ov3
theorem ovM_ok : CallsOK Tryz.prog ovM := ovAdd_ok rowMul_ok ov3_ok

/- ### The error of an index -/

def isInt0 (x : Option (AT × AH)) : Bool :=
  match x with
  | some (.v (.c (.int .i64 (.ofNat 0))), _) => true
  | _ => false

theorem isInt0_ok {x : Option (AT × AH)} (h : isInt0 x = true) : ∃ H, x = some (mk1 (z64 0), H) := by
  unfold isInt0 at h
  split at h
  · exact ⟨_, rfl⟩
  · cases h

def allN (n : Nat) (p : Nat → Bool) : Bool := Nat.rec true (fun k ih => p k && ih) n

end

theorem allN_ok {p : Nat → Bool} : ∀ {n : Nat}, allN n p = true → ∀ k, k < n → p k = true
  | 0, _, k, h => absurd h (Nat.not_lt_zero k)
  | n + 1, ha, k, h => by
    have h' : (p n && allN n p) = true := ha
    simp only [Bool.and_eq_true] at h'
    by_cases e : k = n
    · subst e; exact h'.1
    · exact allN_ok h'.2 k (by omega)

section
variable [gi : GoodC]

noncomputable def idxChk : Bool := allN 4 fun x => allN 4 fun y => allN 4 fun z => isInt0 (evFQ envQ ovM 400 29 [.agg [z64 (Int.ofNat x), z64 (Int.ofNat y), z64 (Int.ofNat z)]] bare)

theorem idx_run : idxChk = true := by kernel_rfl

def rowIdx (args : List AV) (H : AH) : Option (AT × AH) :=
  match args with
  | [.agg [.int .i64 (.ofNat x), .int .i64 (.ofNat y), .int .i64 (.ofNat z)]] => bif Nat.ble x 3 && Nat.ble y 3 && Nat.ble z 3 then some (mk1 (z64 0), H) else none
  | _ => none

theorem rowIdx_ok (args : List AV) (H : AH) (r : AT) (H' : AH) (h : rowIdx args H = some (r, H')) : RowOK Tryz.prog 29 args H r H' := by
  unfold rowIdx at h
  split at h
  · rename_i x y z
    cases hb : Nat.ble x 3 && Nat.ble y 3 && Nat.ble z 3
    · rw [hb] at h; cases h
    · rw [hb, cond_true] at h
      simp only [Option.some.injEq, Prod.mk.injEq] at h
      obtain ⟨rfl, rfl⟩ := h
      simp only [Bool.and_eq_true] at hb
      have hx := Nat.le_of_ble_eq_true hb.1.1
      have hy := Nat.le_of_ble_eq_true hb.1.2
      have hz := Nat.le_of_ble_eq_true hb.2
      obtain ⟨H0, hrun⟩ := isInt0_ok (allN_ok (allN_ok (allN_ok idx_run x (by omega)) y (by omega)) z (by omega))
      refine flat_row (run_ok (gi := triv) (ovM_ok (gi := triv)) 400) (fun ρ vs hvs => ?_) (has_body (q := q29) (by kernel_rfl))
      refine ⟨{ ρ.X with lim := 0 }, _, _, H0, rfl, ?_, hrun, rfl, fun v hv => ?_⟩
      · exact ints_rels (i := gi) (j := triv) hvs rfl
      · exact ints_relT (i := triv) (j := gi) hv rfl
  · cases h

def ovI : CallF := ovAdd 29 rowIdx ovM
theorem ovI_ok : CallsOK Tryz.prog ovI := ovAdd_ok rowIdx_ok ovM_ok

/-- Rows that hold for each grid: IsNaN, Abs, Unit, the group's Mul, small indices, lines. -/
noncomputable def ovG : CallF := ovAdd 47 (rowLine 47) (ovAdd 70 (rowLine 70) ovI)
theorem ovG_ok : CallsOK Tryz.prog ovG := ovAdd_ok (rowLine_ok 47 (.inl rfl)) (ovAdd_ok (rowLine_ok 70 (.inr rfl)) ovI_ok)

end

end Go.Sv.C
