/- Transforms along a line. No conditions.
-/
import Derived.Test.YtepeiijjldpcpaaGreatSvW
set_option linter.all false
namespace Go.Sv.C
open Go.Sv Go.Proofs Go.Fl
variable [gi : GoodC]

def unitL (o : Int) : Nat → List Int
  | 0 => [o]
  | j + 1 => 0 :: unitL o j

def FL (j : Nat) : Fm := { id := 0, np := 0, pos := false, bd := some (Nat.shiftLeft 1 100), fm := some (unitL (Int.ofNat (Nat.shiftLeft 1 100)) (Nat.succ j), 0) }

/-- n complex numbers, from place i on. -/
def lineIn (v : Nat → Nat) : Nat → Nat → List AC
  | 0, _ => []
  | n + 1, i => .cpx (.s (v (Nat.mul 2 i)) (FL (Nat.mul 2 i))) (.s (v (Nat.succ (Nat.mul 2 i))) (FL (Nat.succ (Nat.mul 2 i)))) :: lineIn v n (Nat.succ i)

def lineH (n : Nat) (v : Nat → Nat) : AH := heapL [.cells (lineIn v n 0) true]

noncomputable def lineRun (f n : Nat) (v : Nat → Nat) : Option (AT × AH) := evFQ envQ ov0 1000 f [.c (.sl 0 0 n (some n))] (lineH n v)

/-- The cells of the slice that is answered. -/
def outCells (n : Nat) (x : Option (AT × AH)) : Option (List AC) :=
  match x with
  | some (.v (.c (.sl b 0 l (some c))), H) =>
    bif Nat.beq l n && Nat.beq c n && !Nat.beq b 0 then
      match H.t.get b with
      | some (.cells xs true) => some xs
      | _ => none
    else none
  | _ => none

noncomputable def lineOut (f n : Nat) (v : Nat → Nat) : Option (List AC) := outCells n (lineRun f n v)

/-- The bits of the numbers in cells. -/
def bitsOf : List AC → List Nat
  | .cpx (.s n _) (.s m _) :: r => n :: m :: bitsOf r
  | _ => []

def fmsOf : List AC → List (Option (List Int × Nat))
  | .cpx (.s _ F) (.s _ G) :: r => F.fm :: G.fm :: fmsOf r
  | _ => []

def nth (l : List Nat) (i : Nat) : Nat :=
  match l, i with
  | [], _ => 0
  | x :: _, 0 => x
  | _ :: r, i + 1 => nth r i

/-- The forms of what is answered: of each number's real and imaginary part. -/
def LM (f n : Nat) : List (List Int × Nat) :=
  match f, n with
  | 47, 1 => [([0, 1267650600228229401496703205376, 0], 3377699720527891), ([0, 0, 1267650600228229401496703205376], 3377699720527891)]
  | 47, 2 => [([0, 1267650600228229401496703205376, 0, 1267650600228229401496703205376, 0], 11258999068426317), ([0, 0, 1267650600228229401496703205376, 0, 1267650600228229401496703205376], 11258999068426317), ([0, 1267650600228229401496703205376, 0, -1267650600228229401496703205376, 0], 11258999068426317), ([0, 0, 1267650600228229401496703205376, 0, -1267650600228229401496703205376], 11258999068426317)]
  | 47, 3 => [([0, 1267650600228229401496703205376, 0, 1267650600228229401496703205376, 0, 1267650600228229401496703205376, 0], 13510798882111565), ([0, 0, 1267650600228229401496703205376, 0, 1267650600228229401496703205376, 0, 1267650600228229401496703205376], 13510798882111565), ([0, 1267650600228229401496703205376, 0, -633825300114114700748351602688, -1097817622920238317214982209536, -633825300114114700748351602688, 1097817622920238317214982209536], 16395554658272098), ([0, 0, 1267650600228229401496703205376, 1097817622920238317214982209536, -633825300114114700748351602688, -1097817622920238317214982209536, -633825300114114700748351602688], 16395554658272098), ([0, 1267650600228229401496703205376, 0, -633825300114114700748351602688, 1097817622920238317214982209536, -633825300114114700748351602688, -1097817622920238317214982209536], 16395554658272098), ([0, 0, 1267650600228229401496703205376, -1097817622920238317214982209536, -633825300114114700748351602688, 1097817622920238317214982209536, -633825300114114700748351602688], 16395554658272098)]
  | 47, 4 => [([0, 1267650600228229401496703205376, 0, 1267650600228229401496703205376, 0, 1267650600228229401496703205376, 0, 1267650600228229401496703205376, 0], 31525197391593728), ([0, 0, 1267650600228229401496703205376, 0, 1267650600228229401496703205376, 0, 1267650600228229401496703205376, 0, 1267650600228229401496703205376], 31525197391593728), ([0, 1267650600228229401496703205376, 0, 0, -1267650600228229401496703205376, -1267650600228229401496703205376, 0, 0, 1267650600228229401496703205376], 31525197391593728), ([0, 0, 1267650600228229401496703205376, 1267650600228229401496703205376, 0, 0, -1267650600228229401496703205376, -1267650600228229401496703205376, 0], 31525197391593728), ([0, 1267650600228229401496703205376, 0, -1267650600228229401496703205376, 0, 1267650600228229401496703205376, 0, -1267650600228229401496703205376, 0], 31525197391593728), ([0, 0, 1267650600228229401496703205376, 0, -1267650600228229401496703205376, 0, 1267650600228229401496703205376, 0, -1267650600228229401496703205376], 31525197391593728), ([0, 1267650600228229401496703205376, 0, 0, 1267650600228229401496703205376, -1267650600228229401496703205376, 0, 0, -1267650600228229401496703205376], 31525197391593728), ([0, 0, 1267650600228229401496703205376, -1267650600228229401496703205376, 0, 0, -1267650600228229401496703205376, 1267650600228229401496703205376, 0], 31525197391593728)]
  | 70, 1 => [([0, 1267650600228229401496703205376, 0], 4503599627370524), ([0, 0, 1267650600228229401496703205376], 4503599627370524)]
  | 70, 2 => [([0, 633825300114114700748351602688, 0, 633825300114114700748351602688, 0], 6755399441055795), ([0, 0, 633825300114114700748351602688, 0, 633825300114114700748351602688], 6755399441055795), ([0, 633825300114114700748351602688, 0, -633825300114114700748351602688, 0], 6755399441055795), ([0, 0, 633825300114114700748351602688, 0, -633825300114114700748351602688], 6755399441055795)]
  | 70, 3 => [([0, 422550200076076467165567735125, 0, 422550200076076467165567735125, 0, 422550200076076467165567735125, 0], 5629499534213159), ([0, 0, 422550200076076467165567735125, 0, 422550200076076467165567735125, 0, 422550200076076467165567735125], 5629499534213159), ([0, 422550200076076467165567735125, 0, -211275100038038233582783867562, 365939207640079439071660736512, -211275100038038233582783867562, -365939207640079439071660736512], 6865823438281960), ([0, 0, 422550200076076467165567735125, -365939207640079439071660736512, -211275100038038233582783867562, 365939207640079439071660736512, -211275100038038233582783867562], 6865823438281960), ([0, 422550200076076467165567735125, 0, -211275100038038233582783867562, -365939207640079439071660736512, -211275100038038233582783867562, 365939207640079439071660736512], 6865823438281960), ([0, 0, 422550200076076467165567735125, 365939207640079439071660736512, -211275100038038233582783867562, -365939207640079439071660736512, -211275100038038233582783867562], 6865823438281960)]
  | 70, 4 => [([0, 316912650057057350374175801344, 0, 316912650057057350374175801344, 0, 316912650057057350374175801344, 0, 316912650057057350374175801344, 0], 9007199254741075), ([0, 0, 316912650057057350374175801344, 0, 316912650057057350374175801344, 0, 316912650057057350374175801344, 0, 316912650057057350374175801344], 9007199254741075), ([0, 316912650057057350374175801344, 0, 0, 316912650057057350374175801344, -316912650057057350374175801344, 0, 0, -316912650057057350374175801344], 9007199254741075), ([0, 0, 316912650057057350374175801344, -316912650057057350374175801344, 0, 0, -316912650057057350374175801344, 316912650057057350374175801344, 0], 9007199254741075), ([0, 316912650057057350374175801344, 0, -316912650057057350374175801344, 0, 316912650057057350374175801344, 0, -316912650057057350374175801344, 0], 9007199254741075), ([0, 0, 316912650057057350374175801344, 0, -316912650057057350374175801344, 0, 316912650057057350374175801344, 0, -316912650057057350374175801344], 9007199254741075), ([0, 316912650057057350374175801344, 0, 0, -316912650057057350374175801344, -316912650057057350374175801344, 0, 0, 316912650057057350374175801344], 9007199254741075), ([0, 0, 316912650057057350374175801344, 316912650057057350374175801344, 0, 0, -316912650057057350374175801344, -316912650057057350374175801344, 0], 9007199254741075)]
  | _, _ => []

def eqIs : List Int → List Int → Bool
  | [], [] => true
  | a :: c, b :: d => eqI a b && eqIs c d
  | _, _ => false

def eqFms : List (Option (List Int × Nat)) → List (List Int × Nat) → Bool
  | [], [] => true
  | some (c, e) :: r, (d, g) :: s => eqIs c d && Nat.beq e g && eqFms r s
  | _, _ => false

/-- So many complex numbers that are not known. -/
def fullC : List AC → Nat → Bool
  | [], 0 => true
  | .cpx (.s _ _) (.s _ _) :: r, n + 1 => fullC r n
  | _, _ => false

noncomputable def lineChk (f n : Nat) (v : Nat → Nat) : Bool :=
  match lineOut f n v with
  | some xs => fullC xs n && eqFms (fmsOf xs) (LM f n)
  | none => false

theorem line47_1 : ∀ v, lineChk 47 1 v = true := by intro v; kernel_rfl
theorem line47_2 : ∀ v, lineChk 47 2 v = true := by intro v; kernel_rfl
theorem line47_3 : ∀ v, lineChk 47 3 v = true := by intro v; kernel_rfl
theorem line47_4 : ∀ v, lineChk 47 4 v = true := by intro v; kernel_rfl
theorem line70_1 : ∀ v, lineChk 70 1 v = true := by intro v; kernel_rfl
theorem line70_2 : ∀ v, lineChk 70 2 v = true := by intro v; kernel_rfl
theorem line70_3 : ∀ v, lineChk 70 3 v = true := by intro v; kernel_rfl
theorem line70_4 : ∀ v, lineChk 70 4 v = true := by intro v; kernel_rfl

/-- The bits that are answered. -/
noncomputable def lineB (f n : Nat) (v : Nat → Nat) (k : Nat) : Nat :=
  match lineOut f n v with
  | some xs => nth (bitsOf xs) k
  | none => 0

theorem line_all (f n : Nat) (v : Nat → Nat) (hf : f = 47 ∨ f = 70) (h1 : 1 ≤ n) (h4 : n ≤ 4) : lineChk f n v = true := by
  have hn : n = 1 ∨ n = 2 ∨ n = 3 ∨ n = 4 := by omega
  rcases hf with rfl | rfl <;> rcases hn with rfl | rfl | rfl | rfl
  · exact line47_1 v
  · exact line47_2 v
  · exact line47_3 v
  · exact line47_4 v
  · exact line70_1 v
  · exact line70_2 v
  · exact line70_3 v
  · exact line70_4 v

/- ### Forms put together -/

def negI (c : Int) : Bool :=
  match c with
  | .negSucc _ => true
  | _ => false

abbrev Acc := Nat × Option (List Int × Nat)

def stepK (c : Int) (F : Fm) (b : Nat) (acc : Acc) : Acc :=
  match c with
  | .ofNat 0 => acc
  | c => (Nat.add acc.1 (Nat.succ (scl c.natAbs (.negSucc 99) b)),
      match acc.2, F.fm with
      | some (l, e), some (ds, d) => some (addL l (mapI (sgI (negI c) (scl c.natAbs (.negSucc 99))) ds), Nat.add (Nat.add e (Nat.succ (scl c.natAbs (.negSucc 99) d))) ds.length)
      | _, _ => none)

def foldK : List Int → List Fm → Acc → Acc
  | c :: cs, F :: Fs, acc =>
    match F.bd with
    | some b => foldK cs Fs (stepK c F b acc)
    | none => acc
  | _, _, acc => acc

structure AccOK (X : Ctx) (acc : Acc) (S : Rat) : Prop where
  bd : ab S ≤ (acc.1 : Rat) * X.M
  fm : ∀ l e, acc.2 = some (l, e) → ab (S - lin X.vq l 0) ≤ (e : Rat) * X.M

theorem int_abs (c : Int) : (c : Rat) = sg (negI c) * ((c.natAbs : Nat) : Rat) := by
  cases c with
  | ofNat x => simp only [negI, sg_false]; have : (((Int.ofNat x : Int)) : Rat) = (x : Rat) := rfl; rw [this]; simp
  | negSucc x =>
    have en : ((Int.negSucc x : Int) : Rat) = -((Nat.succ x : Nat) : Rat) := Rat.intCast_neg (Int.ofNat (Nat.succ x))
    simp only [negI, sg_true, en]
    have : (Int.negSucc x).natAbs = Nat.succ x := rfl
    rw [this]
    grind

theorem stepK_ok {X : Ctx} {c : Int} {F : Fm} {b n : Nat} {acc : Acc} {S q : Rat} (h : AccOK X acc S) (hF : Fact X F n) (hb : F.bd = some b) (hq : val n = some q) : AccOK X (stepK c F b acc) (S + (c : Rat) * q) := by
  unfold stepK
  split
  · have e : ((Int.ofNat 0 : Int) : Rat) = 0 := rfl
    rw [e]
    have e2 : S + 0 * q = S := by grind
    rw [e2]
    exact h
  · rename_i hc
    have hcut := scl_cut c.natAbs (.negSucc 99)
    have e100 : Fl.p2 (Int.negSucc 99) = Fl.p2 (-100) := rfl
    obtain ⟨q', hq', hqb⟩ := hF.bd b hb
    rw [hq] at hq'
    simp only [Option.some.injEq] at hq'
    subst hq'
    have hM := M0 X
    have hcast := int_abs c
    have hU : U * Fl.p2 (-100) = 1 := p2_inv 100
    generalize hg : scl c.natAbs (.negSucc 99) = g at *
    rw [e100] at hcut
    generalize hr : ((c.natAbs : Nat) : Rat) * Fl.p2 (-100) = r at *
    have hr0 := hcut.1
    have hcq : (c : Rat) * q = q * U * (sg (negI c) * r) := by
      rw [hcast, ← hr]
      have : q * U * (sg (negI c) * (((c.natAbs : Nat) : Rat) * Fl.p2 (-100))) = sg (negI c) * ((c.natAbs : Nat) : Rat) * q * (U * Fl.p2 (-100)) := by grind
      rw [this, hU]
      grind
    have hsg : ab (sg (negI c) * r) = r := by
      cases negI c
      · rw [sg_false, Rat.one_mul, ab_of_nonneg hr0]
      · have e : sg true * r = -r := by rw [sg_true]; grind
        rw [e, ab_neg, ab_of_nonneg hr0]
    refine ⟨?_, fun l e he => ?_⟩
    · have h1 : ab ((c : Rat) * q) ≤ ((Nat.succ (g b) : Nat) : Rat) * X.M := by
        rw [hcq, ab_mul, hsg]
        have a1 : ab (q * U) = ab q * U := by rw [ab_mul, ab_of_nonneg (Rat.le_of_lt U_pos)]
        rw [a1]
        have a2 := Rat.mul_le_mul_of_nonneg_right hqb hr0
        have a3 := Rat.mul_le_mul_of_nonneg_right (hcut.2 b).2 hM
        have a4 : ((Nat.succ (g b) : Nat) : Rat) = ((g b : Nat) : Rat) + 1 := cast_add (g b) 1
        rw [a4]
        grind
      have h2 := ab_add S ((c : Rat) * q)
      have h3 := h.bd
      have a5 : ((Nat.add acc.1 (Nat.succ (g b)) : Nat) : Rat) = ((acc.1 : Nat) : Rat) + ((Nat.succ (g b) : Nat) : Rat) := cast_add _ _
      simp only [a5]
      grind
    · simp only [] at he
      split at he
      · rename_i l0 e0 ds d h1 h2
        simp only [Option.some.injEq, Prod.mk.injEq] at he
        obtain ⟨rfl, rfl⟩ := he
        have h3 := h.fm l0 e0 h1
        obtain ⟨q', hq', h4⟩ := hF.fm ds d h2
        rw [hq] at hq'
        simp only [Option.some.injEq] at hq'
        subst hq'
        rw [lin_add]
        have h5 := lin_scl hcut (negI c) X.vb ds 0
        have h6 := ab_mul (q * U - lin X.vq ds 0) (sg (negI c) * r)
        rw [hsg] at h6
        have h7 := Rat.mul_le_mul_of_nonneg_right h4 hr0
        have h8 := Rat.mul_le_mul_of_nonneg_right (hcut.2 d).2 hM
        have h9 := ab_add ((q * U - lin X.vq ds 0) * (sg (negI c) * r)) (-(lin X.vq (mapI (sgI (negI c) g) ds) 0 - lin X.vq ds 0 * (sg (negI c) * r)))
        rw [ab_neg] at h9
        have h10 := ab_add (S - lin X.vq l0 0) ((q * U - lin X.vq ds 0) * (sg (negI c) * r) + -(lin X.vq (mapI (sgI (negI c) g) ds) 0 - lin X.vq ds 0 * (sg (negI c) * r)))
        have h11 : S - lin X.vq l0 0 + ((q * U - lin X.vq ds 0) * (sg (negI c) * r) + -(lin X.vq (mapI (sgI (negI c) g) ds) 0 - lin X.vq ds 0 * (sg (negI c) * r))) = S + (c : Rat) * q - (lin X.vq l0 0 + lin X.vq (mapI (sgI (negI c) g) ds) 0) := by
          rw [hcq]; grind
        rw [h11] at h10
        have a6 : ((Nat.add (Nat.add e0 (Nat.succ (g d))) ds.length : Nat) : Rat) = (e0 : Rat) + (((g d : Nat) : Rat) + 1) + (ds.length : Rat) := by
          show ((e0 + (g d + 1) + ds.length : Nat) : Rat) = _
          rw [cast_add, cast_add, cast_add]; rfl
        rw [a6]
        grind
      · cases he

end Go.Sv.C

namespace Go.Sv.C
open Go.Sv Go.Proofs Go.Fl
variable [gi : GoodC]

abbrev Pr := Nat × Fm

def foldP : List Int → List Pr → Acc → Acc
  | c :: cs, p :: ps, acc =>
    match p.2.bd with
    | some b => foldP cs ps (stepK c p.2 b acc)
    | none => acc
  | _, _, acc => acc

def valq (n : Nat) : Rat :=
  match val n with
  | some q => q
  | none => 0

theorem valq_of {n : Nat} {q : Rat} (h : val n = some q) : valq n = q := by unfold valq; rw [h]

/-- Known numbers, each within a bound. -/
def PsOK (X : Ctx) (ps : List Pr) : Prop := ∀ p ∈ ps, Fact X p.2 p.1 ∧ ∃ b, p.2.bd = some b

theorem foldP_ok {X : Ctx} {v : Nat → Rat} : ∀ (cs : List Int) (ps : List Pr) (j : Nat) (acc : Acc) (S : Rat), cs.length = ps.length → PsOK X ps → (∀ k p, ps[k]? = some p → v (j + k) = valq p.1) → AccOK X acc S → AccOK X (foldP cs ps acc) (S + lin v cs j)
  | [], ps, j, acc, S, hl, _, _, h => by
    have e : S + lin v [] j = S := by simp only [lin]; grind
    rw [e]
    cases ps <;> exact h
  | c :: cs, [], j, acc, S, hl, _, _, h => by simp at hl
  | c :: cs, p :: ps, j, acc, S, hl, hp, hv, h => by
    obtain ⟨hF, b, hb⟩ := hp p (by simp)
    obtain ⟨q, hq, _⟩ := hF.bd b hb
    have h0 : v j = q := by
      have := hv 0 p rfl
      rw [Nat.add_zero] at this
      rw [this, valq_of hq]
    simp only [foldP, hb]
    have := foldP_ok (v := v) cs ps (j + 1) (stepK c p.2 b acc) (S + (c : Rat) * q) (by simpa using hl) (fun x hx => hp x (by simp [hx])) (fun k x hk => by
      have := hv (k + 1) x (by simpa using hk)
      rw [← this]
      exact congrArg v (by omega)) (stepK_ok h hF hb hq)
    have e : S + (c : Rat) * q + lin v cs (j + 1) = S + lin v (c :: cs) j := by
      simp only [lin, h0]; grind
    rw [e] at this
    exact this

def finK (a : Acc) (E np : Nat) : Fm :=
  { id := 0, np := np, pos := false, bd := some (Nat.add a.1 E), fm := match a.2 with | some (l, d) => some (l, Nat.add d E) | none => none }

/-- What is known of what a line answers. -/
def combK (row : List Int × Nat) (ps : List Pr) (mb np : Nat) : Fm :=
  match row with
  | (_ :: cs, e) => finK (foldP cs ps (0, some ([], 0))) (Nat.add (Nat.succ (Nat.shiftRight (Nat.mul e mb) 100)) e) np
  | _ => { id := 0, np := 0, pos := false, bd := none, fm := none }

/-- The numbers that a line's forms speak of. -/
def lineV (bits : List Nat) : Nat → Rat
  | 0 => 1
  | k + 1 => valq (nth bits k)

def lineX (X : Ctx) (bits : List Nat) (mb : Nat) (hnp : X.np ≠ 0) (hmb : mb ≤ Nat.shiftLeft 1 300) (hb : ∀ k, ab (valq (nth bits k)) * U ≤ (mb : Rat) * X.M) : Ctx :=
  { X with
    vq := lineV bits
    M := (mb : Rat) * Fl.p2 (-100) * X.M + 1
    np := 0
    M1 := by
      have := Rat.mul_nonneg (Rat.mul_nonneg (cast_nonneg mb) (Rat.le_of_lt (p2_pos (-100)))) (M0 X)
      grind
    M2 := by
      have h1 : (mb : Rat) ≤ Fl.p2 300 := by
        have := cast_le hmb
        rw [shl_cast 300] at this
        exact this
      have h2 := Rat.mul_le_mul_of_nonneg_right h1 (Rat.le_of_lt (p2_pos (-100)))
      have e2 : Fl.p2 300 * Fl.p2 (-100) = Fl.p2 200 := by rw [← p2_add]; rfl
      rw [e2] at h2
      have h3 := Rat.mul_le_mul_of_nonneg_right h2 (M0 X)
      have h4 := Rat.mul_le_mul_of_nonneg_left (X.M3 hnp) (Rat.le_of_lt (p2_pos 200))
      have e4 : Fl.p2 200 * Fl.p2 60 = Fl.p2 260 := by rw [← p2_add]; rfl
      rw [e4] at h4
      have e5 : Fl.p2 261 = 2 * Fl.p2 260 := half 261
      have h6 : Fl.p2 261 ≤ Fl.p2 400 := p2_mono (by omega)
      have h7 : Fl.p2 0 ≤ Fl.p2 260 := p2_mono (by omega)
      rw [p2_zero] at h7
      generalize Fl.p2 400 = A at *
      generalize Fl.p2 261 = B at *
      generalize Fl.p2 260 = C at *
      generalize Fl.p2 200 = D at *
      grind
    M3 := fun h => absurd rfl h
    M4 := fun h => absurd h (by omega)
    lim := 0
    v0 := rfl
    vb := fun j => by
      have h0 := Rat.mul_nonneg (Rat.mul_nonneg (cast_nonneg mb) (Rat.le_of_lt (p2_pos (-100)))) (M0 X)
      cases j with
      | zero =>
        have e : ab (lineV bits 0) = 1 := ab_of_nonneg (by show (0 : Rat) ≤ 1; decide)
        rw [e]; grind
      | succ k =>
        have h1 := hb k
        have h2 := Rat.mul_le_mul_of_nonneg_right h1 (Rat.le_of_lt (p2_pos (-100)))
        have e1 : ab (valq (nth bits k)) * U * Fl.p2 (-100) = ab (valq (nth bits k)) := by
          unfold U
          rw [Rat.mul_assoc, p2_inv]
          grind
        rw [e1] at h2
        show ab (valq (nth bits k)) ≤ _
        grind
    vp := fun j h1 h2 => absurd h2 (Nat.not_lt_zero _)
    vs := fun h => absurd h (by omega) }

/-- From a line's own forms to the forms that its numbers had. -/
theorem comb_ok {X : Ctx} {bits : List Nat} {mb : Nat} {hnp : X.np ≠ 0} {hmb : mb ≤ Nat.shiftLeft 1 300} {hb : ∀ k, ab (valq (nth bits k)) * U ≤ (mb : Rat) * X.M} {F : Fm} {n : Nat} (hF : Fact (lineX X bits mb hnp hmb hb) F n)
    {cs : List Int} {e : Nat} (hfm : F.fm = some (0 :: cs, e)) {ps : List Pr} (hbits : bits = ps.map (·.1)) (hlen : cs.length = ps.length) (hps : PsOK X ps) {np : Nat} (hnpX : np = X.np) : Fact X (combK (0 :: cs, e) ps mb np) n := by
  obtain ⟨q, hq, h1⟩ := hF.fm _ _ hfm
  have hlin : lin (lineX X bits mb hnp hmb hb).vq (0 :: cs) 0 = lin (lineV bits) cs 1 := by
    show ((0 : Int) : Rat) * lineV bits 0 + lin (lineV bits) cs (0 + 1) = _
    have e0 : ((0 : Int) : Rat) = 0 := rfl
    rw [e0]; grind
  rw [hlin] at h1
  have hM' : (lineX X bits mb hnp hmb hb).M = (mb : Rat) * Fl.p2 (-100) * X.M + 1 := rfl
  rw [hM'] at h1
  have hacc := foldP_ok (X := X) (v := lineV bits) cs ps 1 (0, some ([], 0)) 0 hlen hps (fun k p hk => by
    have e1 : 1 + k = k + 1 := by omega
    rw [e1]
    show valq (nth bits k) = _
    have : nth bits k = p.1 := by
      rw [hbits]
      have hn : ∀ (l : List Nat) (k : Nat) (x : Nat), l[k]? = some x → nth l k = x := fun l => by
        induction l with
        | nil => intro k x h; simp at h
        | cons a l ih => intro k x h; cases k with
          | zero => simpa [nth] using h
          | succ k => simpa [nth] using ih k x (by simpa using h)
      exact hn _ _ _ (by simp [hk])
    rw [this]) ⟨by rw [ab_zero]; show (0 : Rat) ≤ ((0 : Nat) : Rat) * X.M; have : ((0 : Nat) : Rat) = 0 := rfl; rw [this]; grind, fun l d h => by
      simp only [Option.some.injEq, Prod.mk.injEq] at h
      obtain ⟨rfl, rfl⟩ := h
      have e0 : ((0 : Nat) : Rat) = 0 := rfl
      rw [e0]
      have e1 : (0 : Rat) - lin X.vq [] 0 = 0 := by simp only [lin]; grind
      rw [e1, ab_zero]; grind⟩
  have e0 : (0 : Rat) + lin (lineV bits) cs 1 = lin (lineV bits) cs 1 := by grind
  rw [e0] at hacc
  generalize hS : lin (lineV bits) cs 1 = S at *
  -- the line's own error
  have hE : (e : Rat) * ((mb : Rat) * Fl.p2 (-100) * X.M + 1) ≤ ((Nat.add (Nat.succ (Nat.shiftRight (Nat.mul e mb) 100)) e : Nat) : Rat) * X.M := by
    have hs := shr_le (e * mb) 100
    have e100 : (-((100 : Nat) : Int)) = -100 := rfl
    rw [e100, cast_mul] at hs
    have c1 : ((Nat.add (Nat.succ (Nat.shiftRight (Nat.mul e mb) 100)) e : Nat) : Rat) = (((e * mb) >>> 100 : Nat) : Rat) + 1 + (e : Rat) := by
      show (((e * mb) >>> 100 + 1 + e : Nat) : Rat) = _
      rw [cast_add, cast_add]; rfl
    rw [c1]
    have h3 := Rat.mul_le_mul_of_nonneg_right hs (M0 X)
    have h4 := Rat.mul_le_mul_of_nonneg_left X.M1 (cast_nonneg e)
    grind
  show Fact X (finK (foldP cs ps (0, some ([], 0))) (Nat.add (Nat.succ (Nat.shiftRight (Nat.mul e mb) 100)) e) np) n
  generalize hf : foldP cs ps (0, some ([], 0)) = acc at *
  obtain ⟨b, m⟩ := acc
  unfold finK
  generalize hEE : Nat.add (Nat.succ (Nat.shiftRight (Nat.mul e mb) 100)) e = E at *
  have hq1 : ab (q * U - S) ≤ (E : Rat) * X.M := Rat.le_trans h1 hE
  refine ⟨fun h => absurd rfl h, fun _ => hnpX, Sv.nn_of hq, fun h => (by cases h), fun c hc => ?_, fun l d hl => ?_, fun h => absurd rfl h, fun h => absurd rfl h⟩
  · simp only [Option.some.injEq] at hc
    subst hc
    refine ⟨q, hq, ?_⟩
    have h5 := hacc.bd
    have h6 := ab_add (q * U - S) S
    have e6 : q * U - S + S = q * U := by grind
    rw [e6] at h6
    have a1 : ab (q * U) = ab q * U := by rw [ab_mul, ab_of_nonneg (Rat.le_of_lt U_pos)]
    have e7 : ((Nat.add b E : Nat) : Rat) = (b : Rat) + (E : Rat) := cast_add _ _
    rw [e7, ← a1]
    simp only [] at h5
    grind
  · cases m with
    | none => cases hl
    | some x =>
      obtain ⟨l0, d0⟩ := x
      simp only [Option.some.injEq, Prod.mk.injEq] at hl
      obtain ⟨rfl, rfl⟩ := hl
      refine ⟨q, hq, ?_⟩
      have h5 := hacc.fm l0 d0 rfl
      have h6 := ab_add (q * U - S) (S - lin X.vq l0 0)
      have e6 : q * U - S + (S - lin X.vq l0 0) = q * U - lin X.vq l0 0 := by grind
      rw [e6] at h6
      have e7 : ((Nat.add d0 E : Nat) : Rat) = (d0 : Rat) + (E : Rat) := cast_add _ _
      rw [e7]
      grind

end Go.Sv.C

namespace Go.Sv.C
open Go.Sv Go.Proofs Go.Fl
variable [gi : GoodC]

/-- The bits in cells, and what is known of them. -/
def inOf : List AC → Option (List Pr)
  | [] => some []
  | .cpx x y :: r =>
    match toS x, toS y, inOf r with
    | some a, some b, some ps => some (a :: b :: ps)
    | _, _, _ => none
  | _ :: _ => none

def anyS : List AC → Bool
  | [] => false
  | .cpx x y :: r => isS x || isS y || anyS r
  | _ :: r => anyS r

def maxBd : List Pr → Option Nat
  | [] => some 0
  | p :: r =>
    match p.2.bd, maxBd r with
    | some b, some m => some (max2N b m)
    | _, _ => none

def maxNp : List Pr → Nat
  | [] => 0
  | p :: r => max2N p.2.np (maxNp r)

def fsts : List Pr → List Nat
  | [] => []
  | p :: r => p.1 :: fsts r

def outOf (B : Nat → Nat) (ps : List Pr) (mb np : Nat) : List (List Int × Nat) → Nat → List AC
  | r1 :: r2 :: rs, k => .cpx (.s (B k) (combK r1 ps mb np)) (.s (B (Nat.succ k)) (combK r2 ps mb np)) :: outOf B ps mb np rs (Nat.succ (Nat.succ k))
  | _, _ => []

/-- Cells, with what is known of them laid bare. -/
def fzS {α : Type} : List AC → (List AC → α) → α
  | [], k => k []
  | .cpx (.s n F) (.s m G) :: r, k => fzM F fun F => fzM G fun G => fzS r fun r => k (.cpx (.s n F) (.s m G) :: r)
  | x :: r, k => fzS r fun r => k (x :: r)

theorem fzS_eq {α : Type} : ∀ (x : List AC) (k : List AC → α), fzS x k = k x
  | [], _ => rfl
  | x :: r, k => by
    unfold fzS
    split
    · rename_i h; cases h
    · rename_i n F m G r' h
      cases h
      simp only [fzM_eq, fzS_eq r]
    · rename_i x' r' _ h
      cases h
      simp only [fzS_eq r]

noncomputable def rowLine (f : Nat) (args : List AV) (H : AH) : Option (AT × AH) :=
  match args with
  | [.c (.sl b 0 l (some c))] =>
    bif Nat.beq l c && Nat.ble 1 l && Nat.ble l 4 then
      match H.t.get b with
      | some (.cells cs true) =>
        bif anyS cs && Nat.beq cs.length l then
          match inOf cs with
          | some ps =>
            match maxBd ps with
            | some mb =>
              bif Nat.ble mb (Nat.shiftLeft 1 300) && !Nat.beq (maxNp ps) 0 then
                fzS (outOf (lineB f l (nth (fsts ps))) ps mb (maxNp ps) (LM f l) 0) fun outs => some (mk1 (.sl H.n 0 l (some l)), H.new (.cells outs true))
              else none
            | none => none
          | none => none
        else none
      | _ => none
    else none
  | _ => none

theorem inOf_len : ∀ {cs : List AC} {ps : List Pr}, inOf cs = some ps → ps.length = 2 * cs.length
  | [], ps, h => by simp [inOf] at h; subst h; rfl
  | x :: r, ps, h => by
    cases x <;> simp only [inOf] at h <;> first | (cases h; done) | skip
    split at h
    · rename_i a b ps' h1 h2 h3
      simp only [Option.some.injEq] at h
      subst h
      have := inOf_len h3
      simp only [List.length_cons]; omega
    · cases h

theorem inOf_fact {ρ : Rho} : ∀ {cs : List AC} {ps : List Pr} {pre : List Value}, inOf cs = some ps → RCs ρ cs pre → ∀ p ∈ ps, Fact ρ.X p.2 p.1
  | [], ps, pre, h, _ => by simp [inOf] at h; subst h; simp
  | x :: r, ps, pre, h, hr => by
    cases x <;> simp only [inOf] at h <;> first | (cases h; done) | skip
    split at h
    · rename_i a b ps' h1 h2 h3
      simp only [Option.some.injEq] at h
      subst h
      cases hr with
      | cons g0 g1 =>
        obtain ⟨n, m, hn, hm, rfl⟩ := g0
        intro p hp
        simp only [List.mem_cons] at hp
        rcases hp with rfl | rfl | hp
        · obtain ⟨e, hf⟩ := toS_ok (k := p.1) (F := p.2) hn h1
          rw [e]; exact hf
        · obtain ⟨e, hf⟩ := toS_ok (k := p.1) (F := p.2) hm h2
          rw [e]; exact hf
        · exact inOf_fact h3 g1 p hp
    · cases h

theorem nth_get : ∀ (l : List Nat) (k x : Nat), l[k]? = some x → nth l k = x
  | [], k, x, h => by simp at h
  | a :: l, 0, x, h => by simpa [nth] using h
  | a :: l, k + 1, x, h => by simpa [nth] using nth_get l k x (by simpa using h)

theorem fsts_map (ps : List Pr) : fsts ps = ps.map (·.1) := by
  induction ps with
  | nil => rfl
  | cons p r ih => simp [fsts, ih]

theorem fsts_get {ps : List Pr} {j : Nat} {p : Pr} (hj : ps[j]? = some p) : nth (fsts ps) j = p.1 := nth_get _ _ _ (by rw [fsts_map]; simp [hj])

theorem fsts_bd {X : Ctx} {ps : List Pr} {mb : Nat} (hvals : ∀ p ∈ ps, ∃ q, val p.1 = some q ∧ ab q * U ≤ (mb : Rat) * X.M) (j : Nat) : ab (valq (nth (fsts ps) j)) * U ≤ (mb : Rat) * X.M := by
  cases hj : ps[j]? with
  | some p =>
    obtain ⟨q, h1, h2⟩ := hvals p (List.mem_of_getElem? hj)
    rw [fsts_get hj, valq_of h1]
    exact h2
  | none =>
    have hn : ∀ (l : List Nat) (j : Nat), l[j]? = none → nth l j = 0 := fun l => by
      induction l with
      | nil => intro j _; rfl
      | cons a l ih => intro j hj; cases j with
        | zero => simp at hj
        | succ j => simpa [nth] using ih j (by simpa using hj)
    rw [hn _ _ (by rw [fsts_map]; simpa using hj), valq_of val_zero, ab_zero]
    have := Rat.mul_nonneg (cast_nonneg mb) (M0 X)
    grind

/-- The same cells, as the small memory has them. -/
theorem in_rel {gj : GoodC} {ρ : @Rho gi} {ρ0 : @Rho gj} {v : Nat → Nat} (hv : ∀ j, (∃ q, val (v j) = some q) → Fact (Rho.X (gi := gj) ρ0) (FL j) (v j)) : ∀ {cs : List AC} {ps : List Pr} {pre : List Value} (i : Nat), inOf cs = some ps → RCs (gi := gi) ρ cs pre → (∀ p ∈ ps, ∃ q, val p.1 = some q) → (∀ k p, ps[k]? = some p → v (2 * i + k) = p.1) → RCs (gi := gj) ρ0 (lineIn v cs.length i) pre
  | [], ps, pre, i, h, hr, _, _ => by cases hr; exact .nil
  | x :: r, ps, pre, i, h, hr, hq, hk => by
    cases x <;> simp only [inOf] at h <;> first | (cases h; done) | skip
    split at h
    · rename_i a b ps' h1 h2 h3
      simp only [Option.some.injEq] at h
      subst h
      cases hr with
      | cons g0 g1 =>
        obtain ⟨n, m, hn, hm, rfl⟩ := g0
        obtain ⟨ea, _⟩ := toS_ok (k := a.1) (F := a.2) hn h1
        obtain ⟨eb, _⟩ := toS_ok (k := b.1) (F := b.2) hm h2
        have ka := hk 0 a rfl
        have kb := hk 1 b rfl
        rw [Nat.add_zero] at ka
        have va := hv (2 * i) (by rw [ka]; exact hq a (by simp))
        have vb := hv (2 * i + 1) (by rw [kb]; exact hq b (by simp))
        refine .cons ⟨n, m, ⟨?_, va⟩, ⟨?_, vb⟩, rfl⟩ (in_rel hv (i + 1) h3 g1 (fun p hp => hq p (by simp [hp])) (fun k p hp => ?_))
        · show n = v (2 * i); rw [ka, ea]
        · show m = v (2 * i + 1); rw [kb, eb]
        · have := hk (k + 2) p (by simpa using hp)
          rw [← this]
          exact congrArg v (by omega)
    · cases h

theorem lin_unitL (v : Nat → Rat) (o : Int) : ∀ (j i : Nat), lin v (unitL o j) i = (o : Rat) * v (i + j)
  | 0, i => by simp only [unitL, lin, Nat.add_zero]; grind
  | j + 1, i => by
    have e0 : ((0 : Int) : Rat) = 0 := rfl
    simp only [unitL, lin, lin_unitL v o j (i + 1), e0]
    have : i + 1 + j = i + (j + 1) := by omega
    rw [this]
    grind

theorem FL_fact {X : Ctx} {bits : List Nat} {mb : Nat} {hnp : X.np ≠ 0} {hmb : mb ≤ Nat.shiftLeft 1 300} {hb : ∀ k, ab (valq (nth bits k)) * U ≤ (mb : Rat) * X.M} (j : Nat) {q : Rat} (hq : val (nth bits j) = some q) : Fact (lineX X bits mb hnp hmb hb) (FL j) (nth bits j) := by
  have hvq : (lineX X bits mb hnp hmb hb).vq (j + 1) = q := by
    show valq (nth bits j) = q
    exact valq_of hq
  have hvb := (lineX X bits mb hnp hmb hb).vb (j + 1)
  rw [hvq] at hvb
  refine ⟨fun h => absurd rfl h, fun h => absurd rfl h, Sv.nn_of hq, fun h => (by cases h), fun b hb' => ?_, fun cs e h => ?_, fun h => absurd rfl h, fun h => absurd rfl h⟩
  · simp only [FL, Option.some.injEq] at hb'
    subst hb'
    refine ⟨q, hq, ?_⟩
    have e1 : ((Nat.shiftLeft 1 100 : Nat) : Rat) = U := shl_cast 100
    rw [e1]
    have := Rat.mul_le_mul_of_nonneg_right hvb (Rat.le_of_lt U_pos)
    grind
  · simp only [FL, Option.some.injEq, Prod.mk.injEq] at h
    obtain ⟨rfl, rfl⟩ := h
    refine ⟨q, hq, ?_⟩
    rw [lin_unitL, Nat.zero_add]
    have hvq' : (lineX X bits mb hnp hmb hb).vq (Nat.succ j) = q := hvq
    rw [hvq']
    have e1 : ((Int.ofNat (Nat.shiftLeft 1 100) : Int) : Rat) = U := shl_cast 100
    rw [e1]
    have e2 : q * U - U * q = 0 := by grind
    rw [e2, ab_zero]
    have e0 : ((0 : Nat) : Rat) = 0 := rfl
    rw [e0]; grind

theorem eqIs_eq : ∀ (a b : List Int), eqIs a b = true → a = b
  | [], [], _ => rfl
  | [], _ :: _, h => by simp [eqIs] at h
  | _ :: _, [], h => by simp [eqIs] at h
  | a :: c, b :: d, h => by
    simp only [eqIs, Bool.and_eq_true] at h
    have h1 := h.1
    rw [eqI_eq] at h1
    rw [eq_of_beq h1, eqIs_eq c d h.2]

/-- What was answered, as the great memory is to have it. -/
theorem out_rel {gj : GoodC} {ρ : @Rho gj} {ρ' : @Rho gi} {ps : List Pr} {mb np : Nat} (hX : ∀ (F : Fm) (n : Nat) (cs : List Int) (e : Nat), Fact (Rho.X (gi := gj) ρ) F n → F.fm = some (cs, e) → (∃ r, cs = 0 :: r ∧ r.length = ps.length) → Fact (Rho.X (gi := gi) ρ') (combK (cs, e) ps mb np) n) {B : Nat → Nat} :
    ∀ {xs : List AC} {rows : List (List Int × Nat)} {n : Nat} {pre : List Value} (k : Nat), fullC xs n = true → eqFms (fmsOf xs) rows = true → (∀ r ∈ rows, ∃ c, r.1 = 0 :: c ∧ c.length = ps.length) → RCs (gi := gj) ρ xs pre → (∀ j x, (bitsOf xs)[j]? = some x → B (k + j) = x) → RCs (gi := gi) ρ' (outOf B ps mb np rows k) pre
  | [], rows, n, pre, k, h1, h2, _, hr, _ => by
    cases hr
    cases rows with
    | nil => exact .nil
    | cons a r => simp [fmsOf, eqFms] at h2
  | x :: r, rows, n, pre, k, h1, h2, hrow, hr, hB => by
    cases n with
    | zero => cases x <;> simp [fullC] at h1
    | succ n =>
      cases x with
      | cpx a b =>
        cases a with
        | s n1 F =>
          cases b with
          | s m1 G =>
            have h1' : fullC r n = true := h1
            cases rows with
            | nil => simp [fmsOf, eqFms] at h2
            | cons r1 rows =>
              cases rows with
              | nil =>
                cases hF : F.fm <;> simp [fmsOf, eqFms, hF] at h2
              | cons r2 rows =>
                obtain ⟨c1, e1⟩ := r1
                obtain ⟨c2, e2⟩ := r2
                cases hF : F.fm with
                | none => simp [fmsOf, eqFms, hF] at h2
                | some f1 =>
                  cases hG : G.fm with
                  | none => simp [fmsOf, eqFms, hF, hG] at h2
                  | some f2 =>
                    obtain ⟨d1, g1⟩ := f1
                    obtain ⟨d2, g2⟩ := f2
                    simp only [fmsOf, hF, hG, eqFms, Bool.and_eq_true] at h2
                    have q1 := eqIs_eq _ _ h2.1.1
                    have q2 := Nat.eq_of_beq_eq_true h2.1.2
                    have q3 := eqIs_eq _ _ h2.2.1.1
                    have q4 := Nat.eq_of_beq_eq_true h2.2.1.2
                    subst q1; subst q2; subst q3; subst q4
                    cases hr with
                    | cons t0 t1 =>
                      obtain ⟨n', m', hn, hm, rfl⟩ := t0
                      obtain ⟨rfl, hnF⟩ := hn
                      obtain ⟨rfl, hmG⟩ := hm
                      have b0 := hB 0 n' rfl
                      have b1 := hB 1 m' rfl
                      rw [Nat.add_zero] at b0
                      refine .cons ⟨n', m', ⟨b0.symm, ?_⟩, ⟨b1.symm, ?_⟩, rfl⟩ (out_rel hX (k + 2) h1' h2.2.2 (fun r hr => hrow r (by simp [hr])) t1 (fun j x hj => ?_))
                      · rw [b0]; exact hX F n' d1 g1 hnF hF (hrow (d1, g1) (by simp))
                      · rw [show B (Nat.succ k) = m' from b1]; exact hX G m' d2 g2 hmG hG (hrow (d2, g2) (by simp))
                      · have := hB (j + 2) x (by simpa [bitsOf] using hj)
                        rw [← this]
                        exact congrArg B (by omega)
          | f c => simp [fullC] at h1
          | nan => simp [fullC] at h1
        | f c => simp [fullC] at h1
        | nan => simp [fullC] at h1
      | _ => simp [fullC] at h1

theorem maxBd_ok : ∀ {ps : List Pr} {mb : Nat}, maxBd ps = some mb → ∀ p ∈ ps, ∃ b, p.2.bd = some b ∧ b ≤ mb
  | [], _, _ => by simp
  | p :: r, mb, h => by
    simp only [maxBd] at h
    split at h
    · rename_i b m hb hm
      simp only [Option.some.injEq] at h
      subst h
      intro x hx
      simp only [List.mem_cons] at hx
      rcases hx with rfl | hx
      · exact ⟨b, hb, (max2N_ge b m).1⟩
      · obtain ⟨b', h1, h2⟩ := maxBd_ok hm x hx
        exact ⟨b', h1, Nat.le_trans h2 (max2N_ge b m).2⟩
    · cases h

theorem maxNp_ok {X : Ctx} : ∀ {ps : List Pr}, (∀ p ∈ ps, Fact X p.2 p.1) → maxNp ps ≠ 0 → maxNp ps = X.np
  | [], _, h => absurd rfl h
  | p :: r, hf, h => by
    simp only [maxNp] at h ⊢
    rcases max2N_or p.2.np (maxNp r) with e | e <;> rw [e] at h ⊢
    · exact (hf p (by simp)).np h
    · exact maxNp_ok (fun x hx => hf x (by simp [hx])) h

def rowsOK : List (List Int × Nat) → Nat → Bool
  | [], _ => true
  | (.ofNat 0 :: c, _) :: r, n => Nat.beq c.length n && rowsOK r n
  | _ :: _, _ => false

theorem rowsOK_ok : ∀ {l : List (List Int × Nat)} {n : Nat}, rowsOK l n = true → ∀ r ∈ l, ∃ c, r.1 = 0 :: c ∧ c.length = n
  | [], _, _ => by simp
  | (a, e) :: l, n, h => by
    cases a with
    | nil => simp [rowsOK] at h
    | cons x c =>
      cases x with
      | negSucc k => simp [rowsOK] at h
      | ofNat k =>
        cases k with
        | succ k => exact absurd (show false = true from h) (by decide)
        | zero =>
          have h' : (Nat.beq c.length n && rowsOK l n) = true := h
          simp only [Bool.and_eq_true] at h'
          intro r hr
          simp only [List.mem_cons] at hr
          rcases hr with rfl | hr
          · exact ⟨c, rfl, Nat.eq_of_beq_eq_true h'.1⟩
          · exact rowsOK_ok h'.2 r hr

theorem LM_ok (f n : Nat) (hf : f = 47 ∨ f = 70) (h1 : 1 ≤ n) (h4 : n ≤ 4) : rowsOK (LM f n) (2 * n) = true := by
  have hn : n = 1 ∨ n = 2 ∨ n = 3 ∨ n = 4 := by omega
  rcases hf with rfl | rfl <;> rcases hn with rfl | rfl | rfl | rfl <;> decide

theorem outCells_spec {n : Nat} {x : Option (AT × AH)} {xs : List AC} (h : outCells n x = some xs) : ∃ b H, x = some (.v (.c (.sl b 0 n (some n))), H) ∧ b ≠ 0 ∧ H.t.get b = some (.cells xs true) := by
  unfold outCells at h
  split at h
  · rename_i b l c H
    cases hb : Nat.beq l n && Nat.beq c n && !Nat.beq b 0
    · rw [hb] at h; cases h
    · rw [hb, cond_true] at h
      simp only [Bool.and_eq_true] at hb
      have e1 := Nat.eq_of_beq_eq_true hb.1.1
      have e2 := Nat.eq_of_beq_eq_true hb.1.2
      subst e1; subst e2
      split at h
      · rename_i ys hy
        simp only [Option.some.injEq] at h
        subst h
        exact ⟨b, H, rfl, fun e => by rw [e] at hb; simp at hb, hy⟩
      · cases h
  · cases h

theorem rowLine_ok (f : Nat) (hf : f = 47 ∨ f = 70) (args : List AV) (H : AH) (r : AT) (H' : AH) (h : rowLine f args H = some (r, H')) : RowOK Tryz.prog f args H r H' := by
  unfold rowLine at h
  split at h
  case h_2 => cases h
  rename_i b l c
  cases hb1 : Nat.beq l c && Nat.ble 1 l && Nat.ble l 4
  · rw [hb1] at h; cases h
  rw [hb1, cond_true] at h
  simp only [Bool.and_eq_true] at hb1
  have hlc := Nat.eq_of_beq_eq_true hb1.1.1
  have hl1 := Nat.le_of_ble_eq_true hb1.1.2
  have hl4 := Nat.le_of_ble_eq_true hb1.2
  subst hlc
  split at h
  case h_2 => cases h
  rename_i cs hcs
  cases hb2 : anyS cs && Nat.beq cs.length l
  · rw [hb2] at h; cases h
  rw [hb2, cond_true] at h
  simp only [Bool.and_eq_true] at hb2
  have hlen := Nat.eq_of_beq_eq_true hb2.2
  split at h
  case h_2 => cases h
  rename_i ps hps
  split at h
  case h_2 => cases h
  rename_i mb hmb
  cases hb3 : Nat.ble mb (Nat.shiftLeft 1 300) && !Nat.beq (maxNp ps) 0
  · rw [hb3] at h; cases h
  rw [hb3, cond_true, fzS_eq] at h
  simp only [Option.some.injEq, Prod.mk.injEq] at h
  obtain ⟨rfl, rfl⟩ := h
  simp only [Bool.and_eq_true] at hb3
  have hmb3 := Nat.le_of_ble_eq_true hb3.1
  have hnp0 : maxNp ps ≠ 0 := fun e => by rw [e] at hb3; simp at hb3
  have hchk := line_all f l (nth (fsts ps)) hf hl1 hl4
  unfold lineChk at hchk
  split at hchk
  case h_2 => cases hchk
  rename_i xs hxs
  simp only [Bool.and_eq_true] at hchk
  obtain ⟨b', H0', hr0, hb', hbx⟩ := outCells_spec hxs
  refine small_row (run_ok (gi := triv) (ov0_ok (gi := triv)) 1000) ?_ fun ρ w vs hH hargs => ?_
  · rcases hf with rfl | rfl
    · exact has_body (q := q47) (by kernel_rfl)
    · exact has_body (q := q70) (by kernel_rfl)
  cases hargs with
  | cons g0 g1 =>
    cases g1
    obtain ⟨c0, m, k, hc0, rfl, hlk, hkc⟩ : RC ρ (.sl b 0 l (some l)) _ := g0
    have hkl : k = l := hkc l rfl
    subst hkl
    obtain ⟨c0', m', obj, e1, e2, e3⟩ := hH.blk b _ hcs
    obtain ⟨arr, ty, pre, rest, k1, k2, k3, k4, k5⟩ := e3
    have hfact := inOf_fact hps k4
    have hnpX := maxNp_ok hfact hnp0
    have hnp : ρ.X.np ≠ 0 := hnpX ▸ hnp0
    have hvals : ∀ p ∈ ps, ∃ q, val p.1 = some q ∧ ab q * U ≤ (mb : Rat) * ρ.X.M := fun p hp => by
      obtain ⟨bb, h1, h2⟩ := maxBd_ok hmb p hp
      obtain ⟨q, h3, h4⟩ := (hfact p hp).bd bb h1
      exact ⟨q, h3, Rat.le_trans h4 (Rat.mul_le_mul_of_nonneg_right (cast_le h2) (M0 ρ.X))⟩
    have hbd := fsts_bd hvals
    let X0 := lineX ρ.X (fsts ps) mb hnp hmb3 hbd
    have hH0 : RH (gi := triv) (sub ρ X0 [b]) (lineH k (nth (fsts ps))) w := small_rh hH X0 rfl [b] _ (by rfl) (.cons ⟨_, hcs, fun m obj ⟨arr, ty, pre, rest, k1, k2, k3, k4, k5⟩ => ⟨arr, ty, pre, rest, k1, k2, k3, by
      have hin := in_rel (gj := triv) (ρ0 := sub ρ X0 [b]) (fun j ⟨q, hq⟩ => FL_fact (X := ρ.X) (bits := fsts ps) (mb := mb) (hnp := hnp) (hmb := hmb3) (hb := hbd) j hq) 0 hps k4 (fun p hp => by obtain ⟨q, h1, _⟩ := hvals p hp; exact ⟨q, h1⟩) (fun j p hj => by rw [Nat.mul_zero, Nat.zero_add]; exact fsts_get hj)
      rw [hlen] at hin
      exact hin, k5⟩⟩ .nil)
    refine ⟨sub ρ X0 [b], _, [.c (.sl 0 0 k (some k))], _, H0', hH0, heapL_shut _, .cons ⟨c0, m, k, (sub_r ρ X0 [b] (i := 0) rfl).trans hc0, rfl, Nat.le_refl _, fun _ h => by simpa using h⟩ .nil, hr0, fun v ρ0' w' hk g2 g3 => ?_⟩
    obtain ⟨c1, m1, obj1, s1, s2, s3, s4⟩ := St.made (gi := triv) g2 (heapL_shut _) hbx (by rw [lineH, heapL_p]; exact fun e => hb' (Nat.lt_one_iff.1 e))
    have hX0 : Rho.X (gi := triv) ρ0' = X0 := Ext.X (gi := triv) (St.ext (gi := triv) g2)
    have ho : RO ρ m1 (.cells (outOf (lineB f k (nth (fsts ps))) ps mb (maxNp ps) (LM f k) 0) true) obj1 := by
      obtain ⟨arr1, ty1, pre1, rest1, t1, t2, t3, t4, t5⟩ := s3
      refine ⟨arr1, ty1, pre1, rest1, t1, t2, t3, out_rel (gj := triv) (ρ := ρ0') (fun F n cs' e hF hfm hc => ?_) 0 hchk.1 hchk.2 (fun r hr => ?_) t4 (fun j x hj => ?_), t5⟩
      · obtain ⟨r, rfl, hrl⟩ := hc
        rw [hX0] at hF
        exact comb_ok hF hfm (fsts_map ps) hrl (fun p hp => ⟨hfact p hp, by obtain ⟨bb, h1, _⟩ := maxBd_ok hmb p hp; exact ⟨bb, h1⟩⟩) hnpX
      · have := rowsOK_ok (LM_ok f k hf hl1 hl4) r hr
        rw [inOf_len hps, hlen]
        exact this
      · unfold lineB
        rw [hxs]
        simp only [Nat.zero_add]
        exact nth_get _ _ _ hj
    refine ⟨_, (hk.st hH).add hH.lim s2 s4 ho (fun i o m2 hi e => absurd (hH.lt hi e) (by omega)), ?_⟩
    obtain ⟨c2, m2, k2', u1, rfl, u3, u4⟩ := g3
    rw [s1] at u1
    obtain ⟨rfl, rfl⟩ : c1 = c2 ∧ m1 = m2 := by simpa using u1
    exact ⟨c1, m1, k2', by rw [up_r, if_pos rfl], rfl, u3, u4⟩

end Go.Sv.C
