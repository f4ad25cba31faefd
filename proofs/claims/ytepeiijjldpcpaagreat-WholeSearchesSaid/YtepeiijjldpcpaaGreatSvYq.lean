/- The law's calls; numbers. No conditions.
-/
import Derived.Test.YtepeiijjldpcpaaGreatSvYp
set_option linter.all false
namespace Go.Sv.C
open Go.Sv Go.Proofs Go.Fl

/-- What a run of the law stands against. -/
structure LawX (nm : Nat → Nat) (a b c kk : Nat) (X : Ctx) : Prop where
  nm : X.nm = nm
  np : X.np = mul3 a b c + 1
  N1 : 1 ≤ mul3 a b c
  start : StartOK (mul3 a b c) X
  lens : LensOK a b c X
  dens : DensOK a b c X
  step : StepNames a b c X
  stay : StayFacts a b c X
  now : NowFacts a b c (nowk kk) X

structure LawZ (nm : Nat → Nat) (a b c : Nat) (X : Ctx) : Prop where
  nm : X.nm = nm
  np : X.np = mul3 a b c + 1
  N1 : 1 ≤ mul3 a b c
  start : StartOK (mul3 a b c) X
  lens : LensOK a b c X
  dens : DensZ (mul3 a b c) X

abbrev lawC (nm : Nat → Nat) (a b c kk : Nat) : GoodC := ⟨LawX nm a b c kk⟩
abbrev lawCZ (nm : Nat → Nat) (a b c : Nat) : GoodC := ⟨LawZ nm a b c⟩

theorem fact_bare {X : Ctx} {F : Fm} {n : Nat} (h : Fact X F n) : Fact (bareX X) F n := ⟨h.id, h.np, h.nn, h.pos, h.bd, h.fm, h.lw, h.mm⟩

theorem MainOK.bare {N : Nat} {X : Ctx} (h : MainOK N X) : MainOK N (bareX X) := ⟨h.N1, h.np, fun k hk => fact_bare (h.w k hk), fun i hi => ⟨(h.a i hi).1, fact_bare (h.a i hi).2⟩⟩

theorem MainD.bare {a b c : Nat} {X : Ctx} (h : MainD a b c X) : MainD a b c (bareX X) := ⟨h.m.bare, fun j hj => fact_bare (h.d j hj), h.wd⟩

theorem ovLaw_ok {nm : Nat → Nat} {a b c kk : Nat} (h : AllOK a b c) : CallsOK (gi := lawC nm a b c kk) Tryz.prog (ovLaw nm a b c kk) :=
  ovAdd_ok (gi := lawC nm a b c kk) (rowLen_ok (gi := lawC nm a b c kk) fun X hX => hX.lens)
  (ovAdd_ok (gi := lawC nm a b c kk) (rowWaved_ok (gi := lawC nm a b c kk) h.base.sh h.waved fun X hX => ⟨hX.nm, hX.np, hX.N1, hX.start, fun _ => hX.dens, fun h => (by cases h)⟩)
  (ovAdd_ok (gi := lawC nm a b c kk) (rowCheck_ok (gi := lawC nm a b c kk) h.base h.check fun X hX => hX.dens.1.m.bare)
  (ovElse_ok (gi := lawC nm a b c kk) (rowStay_ok (gi := lawC nm a b c kk) h.base (fun X hX => hX.dens.1.bare) fun X hX => hX.stay)
  (ovAdd_ok (gi := lawC nm a b c kk) (rowCharge_ok (gi := lawC nm a b c kk) h.base (fun X hX => hX.dens.1.m.bare) fun X hX => hX.step)
  (ovAdd_ok (gi := lawC nm a b c kk) (rowNow_ok (gi := lawC nm a b c kk) h.base.sh (fun X hX => hX.dens.1.m) fun X hX => hX.now)
  (ovAdd_ok (gi := lawC nm a b c kk) (rowAbsL_ok (gi := lawC nm a b c kk) (fun X hX => hX.dens.1.m) fun X hX => hX.now)
  (ovAdd_ok (gi := lawC nm a b c kk) (rowPart_ok (gi := lawC nm a b c kk))
  (ovAdd_ok (gi := lawC nm a b c kk) (rowList_ok (gi := lawC nm a b c kk) rfl h.base.fi (q := q12) (by kernel_rfl)) (ov1_ok (gi := lawC nm a b c kk))))))))))

theorem ovLawZ_ok {nm : Nat → Nat} {a b c : Nat} (h : AllOK a b c) : CallsOK (gi := lawCZ nm a b c) Tryz.prog (ovLawZ nm a b c) :=
  ovAdd_ok (gi := lawCZ nm a b c) (rowLen_ok (gi := lawCZ nm a b c) fun X hX => hX.lens)
  (ovAdd_ok (gi := lawCZ nm a b c) (rowWaved_ok (gi := lawCZ nm a b c) h.base.sh h.waved fun X hX => ⟨hX.nm, hX.np, hX.N1, hX.start, fun h => (by cases h), fun _ => hX.dens⟩)
  (ovAdd_ok (gi := lawCZ nm a b c) (rowList_ok (gi := lawCZ nm a b c) rfl h.base.od (q := q38) (by kernel_rfl)) (ov1_ok (gi := lawCZ nm a b c))))

/-- The arguments. -/
def lawArgs (X : Ctx) (st lv : Int) : List Value := [.agg #[.int .u8 (X.ia 0), .int .u8 (X.ia 1), .int .u8 (X.ia 2)], X.fv 0, X.fv 1, .int .u8 st, .int .i8 lv]

def trueAnd (w : World) : Ending → World → Prop := fun e w' => e = .returned (.bool true) ∧ Kept w w'

theorem law_rh {gj : GoodC} {X : Ctx} (hX : gj.G X) {w : World} (hl : X.lim ≤ w.heap.size) (hold : ∀ c, c < X.lim → w.heap[c]? = X.h0[c]?) : RH (gi := gj) (Rho.mk (gi := gj) (fun _ => none) X hX) bare w :=
  @RH.mk gj _ _ _ (fun i o h => (by simp [bare, Tr.get] at h)) (fun i j' o o' c' m m' hi hj hci hcj => (by simp [bare, Tr.get] at hi)) (fun i hi => rfl) (fun i c m h => (by cases h)) hl hold

/-- Where the density is not nought. -/
theorem law_calls {nm : Nat → Nat} {a b c kk : Nat} (hkk : kk < 6) (h : AllOK a b c) {X : Ctx} (hX : LawX nm a b c kk X) (h0 : (X.fv 0).oneCell' = true) (h1 : (X.fv 1).oneCell' = true) {st lv : Int} (hst : 0 ≤ st ∧ st ≤ 255 ∧ st % 6 = (kk : Int))
    (hlv : X.nm 150 = FloatKind.f64.nearest lv ∧ ∃ q, val (X.nm 150) = some q ∧ ab q ≤ Fl.p2 10) {w : World} (hl : X.lim ≤ w.heap.size) (hold : ∀ c, c < X.lim → w.heap[c]? = X.h0[c]?) : Calls Tryz.prog 3 (lawArgs X st lv).toArray w (trueAnd w) := by
  obtain ⟨H', hr⟩ := isTrue_ok (h.law.run kk hkk nm (X.ia 0) (X.ia 1) (X.ia 2) st lv)
  have hargs : All2 (RV (gi := lawC nm a b c kk) (Rho.mk (gi := lawC nm a b c kk) (fun _ => none) X hX)) [.agg [.si .u8 (X.ia 0) (.at 0), .si .u8 (X.ia 1) (.at 1), .si .u8 (X.ia 2) (.at 2)], .c (.arg 0), .c (.arg 1), .c (.si .u8 st (.md 6 kk)), .c (.si .i8 lv (.lev 150))] (lawArgs X st lv) :=
    .cons ⟨_, rfl, .cons ⟨rfl, rfl⟩ (.cons ⟨rfl, rfl⟩ (.cons ⟨rfl, rfl⟩ .nil))⟩ (.cons ⟨rfl, h0⟩ (.cons ⟨rfl, h1⟩ (.cons ⟨rfl, hst⟩ (.cons ⟨rfl, hlv⟩ .nil))))
  refine ((run_ok (gi := lawC nm a b c kk) (ovLaw_ok h) 2000 3 _ _ _ _ hr).2 _ w _ (law_rh hX hl hold) hargs).mono fun e w' ⟨v, ρ', g1, g2, g3⟩ => ⟨?_, St.kept_all (gi := lawC nm a b c kk) g2 bare_shut⟩
  rw [g1, show v = .bool true from g3]

/-- Where it is. -/
theorem lawZ_calls {nm : Nat → Nat} {a b c : Nat} (h : AllOK a b c) {X : Ctx} (hX : LawZ nm a b c X) (h0 : (X.fv 0).oneCell' = true) (h1 : (X.fv 1).oneCell' = true) {st lv : Int} (hst : 0 ≤ st ∧ st ≤ 255)
    (hlv : X.nm 150 = FloatKind.f64.nearest lv ∧ ∃ q, val (X.nm 150) = some q ∧ ab q ≤ Fl.p2 10) {w : World} (hl : X.lim ≤ w.heap.size) (hold : ∀ c, c < X.lim → w.heap[c]? = X.h0[c]?) : Calls Tryz.prog 3 (lawArgs X st lv).toArray w (trueAnd w) := by
  obtain ⟨H', hr⟩ := isTrue_ok (h.law.zero nm (X.ia 0) (X.ia 1) (X.ia 2) st lv)
  have hargs : All2 (RV (gi := lawCZ nm a b c) (Rho.mk (gi := lawCZ nm a b c) (fun _ => none) X hX)) [.agg [.si .u8 (X.ia 0) (.at 0), .si .u8 (X.ia 1) (.at 1), .si .u8 (X.ia 2) (.at 2)], .c (.arg 0), .c (.arg 1), .c (.si .u8 st .byt), .c (.si .i8 lv (.lev 150))] (lawArgs X st lv) :=
    .cons ⟨_, rfl, .cons ⟨rfl, rfl⟩ (.cons ⟨rfl, rfl⟩ (.cons ⟨rfl, rfl⟩ .nil))⟩ (.cons ⟨rfl, h0⟩ (.cons ⟨rfl, h1⟩ (.cons ⟨rfl, hst⟩ (.cons ⟨rfl, hlv⟩ .nil))))
  refine ((run_ok (gi := lawCZ nm a b c) (ovLawZ_ok h) 2000 3 _ _ _ _ hr).2 _ w _ (law_rh hX hl hold) hargs).mono fun e w' ⟨v, ρ', g1, g2, g3⟩ => ⟨?_, St.kept_all (gi := lawCZ nm a b c) g2 bare_shut⟩
  rw [g1, show v = .bool true from g3]

end Go.Sv.C

namespace Go.Sv.C
open Go.Sv Go.Proofs Go.Fl Ieee

/- ### Small whole numbers -/

def smallChk (n : Int) : Bool :=
  match double.read (FloatKind.f64.nearest n) with
  | .number s m p =>
    match p with
    | .ofNat k => eqI (bif s then Int.neg (Int.ofNat (m * 2 ^ k)) else Int.ofNat (m * 2 ^ k)) n
    | .negSucc k => eqI (bif s then Int.neg (Int.ofNat m) else Int.ofNat m) (Int.mul n (Int.ofNat (2 ^ (Nat.succ k))))
  | _ => false

theorem small_run : allN 256 (fun k => smallChk (Int.sub (Int.ofNat k) 128)) = true := by kernel_rfl

theorem eqI_eq {a b : Int} (h : eqI a b = true) : a = b := by
  cases a <;> cases b <;> simp only [eqI] at h
  · rw [Nat.eq_of_beq_eq_true h]
  · cases h
  · cases h
  · rw [Nat.eq_of_beq_eq_true h]

theorem small_val {n : Int} (h1 : -128 ≤ n) (h2 : n ≤ 127) : val (FloatKind.f64.nearest n) = some (n : Rat) := by
  have hk := allN_ok small_run (n + 128).toNat (by omega)
  have e : Int.sub (Int.ofNat (n + 128).toNat) 128 = n := by
    have : (Int.ofNat (n + 128).toNat : Int) = n + 128 := Int.toNat_of_nonneg (by omega)
    rw [this]
    show n + 128 - 128 = n
    omega
  simp only [e] at hk
  unfold smallChk at hk
  unfold val
  split at hk
  · rename_i s m p hr
    rw [hr]
    simp only []
    apply congrArg some
    cases p with
    | ofNat k =>
      have h := eqI_eq hk
      have e1 : Fl.p2 (Int.ofNat k) = ((2 ^ k : Nat) : Rat) := p2_nat k
      rw [e1, ← h]
      have e2 : ((m * 2 ^ k : Nat) : Rat) = (m : Rat) * ((2 ^ k : Nat) : Rat) := cast_mul _ _
      cases s
      · have e3 : ((bif false then Int.neg (Int.ofNat (m * 2 ^ k)) else Int.ofNat (m * 2 ^ k) : Int) : Rat) = ((m * 2 ^ k : Nat) : Rat) := rfl
        rw [e3, e2]; simp
      · have e3 : ((bif true then Int.neg (Int.ofNat (m * 2 ^ k)) else Int.ofNat (m * 2 ^ k) : Int) : Rat) = -((m * 2 ^ k : Nat) : Rat) := Rat.intCast_neg (Int.ofNat (m * 2 ^ k))
        rw [e3, e2]; simp; grind
    | negSucc k =>
      have h := eqI_eq hk
      have hr2 : (n : Rat) * ((2 ^ (k + 1) : Nat) : Rat) = sg s * (m : Rat) := by
        have h' : ((Int.mul n (Int.ofNat (2 ^ (Nat.succ k))) : Int) : Rat) = (n : Rat) * ((2 ^ (k + 1) : Nat) : Rat) := Rat.intCast_mul _ _
        rw [← h', ← h]
        cases s
        · have e3 : ((bif false then Int.neg (Int.ofNat m) else Int.ofNat m : Int) : Rat) = ((m : Nat) : Rat) := rfl
          rw [e3, sg_false]; grind
        · have e3 : ((bif true then Int.neg (Int.ofNat m) else Int.ofNat m : Int) : Rat) = -((m : Nat) : Rat) := Rat.intCast_neg (Int.ofNat m)
          rw [e3, sg_true]; grind
      have e1 : Fl.p2 (Int.negSucc k) * ((2 ^ (k + 1) : Nat) : Rat) = 1 := by
        have e2 : ((2 ^ (k + 1) : Nat) : Rat) = Fl.p2 ((k + 1 : Nat) : Int) := (p2_nat (k + 1)).symm
        rw [e2, ← p2_add]
        have e3 : Int.negSucc k + ((k + 1 : Nat) : Int) = 0 := by omega
        rw [e3, p2_zero]
      have e4 : (if s then (-1 : Rat) else 1) = sg s := rfl
      rw [e4, ← hr2, Rat.mul_assoc, Rat.mul_comm ((2 ^ (k + 1) : Nat) : Rat), e1]
      grind
  · cases hk

/- ### Squares -/

theorem sq_le {y b : Rat} (hb : 0 ≤ b) (h : y * y ≤ b * b) : y ≤ b := by
  by_cases hy : y ≤ b
  · exact hy
  · exfalso
    have h1 : b < y := by grind
    have h2 := Rat.mul_pos (show 0 < y - b by grind) (show 0 < y by grind)
    have h3 := Rat.mul_nonneg hb (show 0 ≤ y - b by grind)
    grind

theorem sq_ab (x : Rat) : x * x = ab x * ab x := by unfold ab; split <;> grind

/-- How far lengths in the plane lie from one another. -/
theorem norm_up {A B P Q z y E e : Rat} (h1 : ab (P - A) ≤ E) (h2 : ab (Q - B) ≤ E) (hA : A * A + B * B ≤ (1 + e) * (z * z)) (hy : y * y ≤ (1 + e) * (P * P + Q * Q)) (hz : 0 ≤ z) (he : 0 ≤ e) (he2 : e ≤ 1 / 100000) : y ≤ (1 + e) * (z + 2829 / 2000 * E) := by
  have hE : 0 ≤ E := by have := ab_nonneg (P - A); grind
  have a0 := ab_nonneg A
  have b0 := ab_nonneg B
  have z2 := Rat.mul_nonneg hz hz
  have zE := Rat.mul_nonneg hz hE
  have E2 := Rat.mul_nonneg hE hE
  -- the sum of the sides
  have hs : ab A + ab B ≤ 2829 / 2000 * z := by
    refine sq_le (by grind) ?_
    have k1 : (ab A + ab B) * (ab A + ab B) ≤ 2 * (A * A + B * B) := by
      rw [sq_ab A, sq_ab B]
      have := Rat.mul_nonneg (show 0 ≤ (1 : Rat) by decide) (show 0 ≤ (ab A - ab B) * (ab A - ab B) by
        have := sq_ab (ab A - ab B)
        rw [this]
        exact Rat.mul_nonneg (ab_nonneg _) (ab_nonneg _))
      grind
    have k2 : (1 + e) * (z * z) ≤ (1 + 1 / 100000) * (z * z) := Rat.mul_le_mul_of_nonneg_right (by grind) z2
    grind
  have hP : ab P ≤ ab A + E := by
    have := ab_add (P - A) A
    have e1 : P - A + A = P := by grind
    rw [e1] at this
    grind
  have hQ : ab Q ≤ ab B + E := by
    have := ab_add (Q - B) B
    have e1 : Q - B + B = Q := by grind
    rw [e1] at this
    grind
  have p0 := ab_nonneg P
  have q0 := ab_nonneg Q
  have hPP : P * P ≤ (ab A + E) * (ab A + E) := by
    rw [sq_ab P]
    have g1 := Rat.mul_le_mul_of_nonneg_right hP p0
    have g2 := Rat.mul_le_mul_of_nonneg_left hP (show 0 ≤ ab A + E by grind)
    grind
  have hQQ : Q * Q ≤ (ab B + E) * (ab B + E) := by
    rw [sq_ab Q]
    have g1 := Rat.mul_le_mul_of_nonneg_right hQ q0
    have g2 := Rat.mul_le_mul_of_nonneg_left hQ (show 0 ≤ ab B + E by grind)
    grind
  have hT : E * (ab A + ab B) ≤ E * (2829 / 2000 * z) := Rat.mul_le_mul_of_nonneg_left hs hE
  have hsum : P * P + Q * Q ≤ (1 + e) * ((z + 2829 / 2000 * E) * (z + 2829 / 2000 * E)) := by
    have g1 : P * P + Q * Q ≤ (1 + e) * (z * z) + 2 * (E * (2829 / 2000 * z)) + 2 * (E * E) := by
      rw [sq_ab A, sq_ab B] at hA
      grind
    have g2 := Rat.mul_nonneg he zE
    have g3 := Rat.mul_nonneg he E2
    grind
  refine sq_le (Rat.mul_nonneg (by grind) (by grind)) ?_
  have g1 := Rat.mul_le_mul_of_nonneg_left hsum (show 0 ≤ 1 + e by grind)
  grind

/- ### A wave with another's phase -/

theorem fmul_spec {x y : Nat} {X Y : Rat} (hx : val x = some X) (hy : val y = some Y) (hb : ab (X * Y) ≤ Fl.p2 1000) : ∃ Z, val (fmul x y) = some Z ∧ Near Z (X * Y) := by
  obtain ⟨r, Z, h1, h2, h3⟩ := mul_spec hx hy hb
  have e : FloatKind.f64.format = double := rfl
  exact ⟨Z, by unfold fmul; rw [e, fop_some h1]; exact h2, h3⟩

theorem near_ab {Z W : Rat} (h : Near Z W) : ab (Z - W) ≤ 1 / 4503599627370496 * ab W + Fl.p2 (-1000) := by
  obtain ⟨h1, h2⟩ := h
  unfold loss at h1 h2
  have k1 : Fl.p2 (-53) ≤ 1 / 4503599627370496 := by
    have := two_pow_neg 52
    have e : Fl.p2 (-52) = 1 / 4503599627370496 := this
    rw [← e]; exact p2_mono (by omega)
  have k2 : Fl.p2 (-1075) ≤ Fl.p2 (-1000) := p2_mono (by omega)
  have k3 := Rat.mul_le_mul_of_nonneg_right k1 (ab_nonneg W)
  exact ab_le (by grind) (by grind)

/-- What is told of a wave's magnitude with a phase. -/
theorem imp_law {x y p q : Nat} {A B P Q : Rat} (hx : val x = some A) (hy : val y = some B) (hA : ab A ≤ Fl.p2 20) (hB : ab B ≤ Fl.p2 20) (hp : val p = some P) (hq : val q = some Q) (hP : ab P ≤ Fl.p2 40) (hQ : ab Q ≤ Fl.p2 40) :
    ∃ z r t C D, val (absB x y) = some z ∧ 0 ≤ z ∧ val (impRe x y p q) = some r ∧ val (impIm x y p q) = some t ∧
      ab (r - C) ≤ 1 / 2251799813685248 * z + Fl.p2 (-1000) ∧ ab (t - D) ≤ 1 / 2251799813685248 * z + Fl.p2 (-1000) ∧
      C * C + D * D ≤ (1 + 1 / 2199023255552) * (z * z) ∧ z * z ≤ (1 + 1 / 2199023255552) * (C * C + D * D) ∧
      (Fl.p2 (-900) ≤ ab P ∨ Fl.p2 (-900) ≤ ab Q → x = p → y = q → ab (C - A) ≤ 1 / 281474976710656 * z ∧ ab (D - B) ≤ 1 / 281474976710656 * z) := by
  have hT : Fl.p2 20 ≤ Fl.p2 900 := p2_mono (by omega)
  obtain ⟨z, hz, hz0, hz3, hzne, hz5⟩ := absB_law hx hy hT hA hB
  have hzb := hz3 (Fl.p2 20) hA hB
  have e1000 := p2_pos (-1000)
  have zn := zB_iff hp
  have zm := zB_iff hq
  have zz := Rat.mul_nonneg hz0 hz0
  by_cases h0 : P = 0 ∧ Q = 0
  · obtain ⟨rfl, rfl⟩ := h0
    have hzz : (zB p && zB q) = true := by rw [zn.2 rfl, zm.2 rfl]; rfl
    have hE : (unitE p q == 0) = false := by unfold unitE; rw [hzz]; rfl
    refine ⟨z, z, 0, z, 0, hz, hz0, by unfold impRe; rw [hE]; exact hz, by unfold impIm; rw [hE]; exact val_zero, ?_, ?_, ?_, ?_, fun h => ?_⟩
    · have e : z - z = 0 := by grind
      rw [e, ab_zero]; grind
    · have e : (0 : Rat) - 0 = 0 := by grind
      rw [e, ab_zero]; grind
    · grind
    · grind
    · exfalso
      have := p2_pos (-900)
      rw [ab_zero] at h
      rcases h with h | h <;> grind
  · have hne : P ≠ 0 ∨ Q ≠ 0 := by
      by_cases h : P = 0
      · right; exact fun h' => h0 ⟨h, h'⟩
      · exact .inl h
    have hzz : (zB p && zB q) = false := by
      cases hb1 : zB p && zB q
      · rfl
      · simp only [Bool.and_eq_true] at hb1
        exact absurd ⟨zn.1 hb1.1, zm.1 hb1.2⟩ h0
    have hE : (unitE p q == 0) = true := by unfold unitE; rw [hzz]; rfl
    have e1 : unitRe p q = uRe p q := by unfold unitRe; rw [hzz]; rfl
    have e2 : unitIm p q = uIm p q := by unfold unitIm; rw [hzz]; rfl
    obtain ⟨a, b, s, u, v, ha, hb, hs, hs0, hu, hv, hbig, hsame, n1, n2, n3, n4, n5, n6⟩ := unit_law hp hq (T := Fl.p2 40) (p2_mono (by omega)) hP hQ hne
    have h1000 : ∀ {w : Rat}, ab w ≤ 2 → ab (z * w) ≤ Fl.p2 1000 := fun {w} hw => by
      rw [ab_mul, ab_of_nonneg hz0]
      have g1 := Rat.mul_le_mul_of_nonneg_left hw hz0
      have g2 : Fl.p2 20 * 8 ≤ Fl.p2 1000 := by
        have g3 : Fl.p2 20 * Fl.p2 3 ≤ Fl.p2 1000 := by rw [← p2_add]; exact p2_mono (by omega)
        have g4 : Fl.p2 3 = 8 := by have := p2_nat 3; simpa using this
        rw [g4] at g3; exact g3
      grind
    obtain ⟨r, hr, hrn⟩ := fmul_spec hz hu (h1000 n5)
    obtain ⟨t, ht, htn⟩ := fmul_spec hz hv (h1000 n6)
    have hr' := near_ab hrn
    have ht' := near_ab htn
    rw [ab_mul, ab_of_nonneg hz0] at hr' ht'
    have g1 := Rat.mul_le_mul_of_nonneg_left n5 hz0
    have g2 := Rat.mul_le_mul_of_nonneg_left n6 hz0
    -- the unit's square
    have hsq : ab (u * u + v * v - 1) ≤ 1 / 4398046511104 := by
      have e44 : Fl.p2 (-44) = 1 / 17592186044416 := two_pow_neg 44
      rw [e44] at n1 n2
      have hss := Rat.mul_pos hs0 hs0
      -- a / s, b / s
      have ea : a / s * s = a := Rat.div_mul_cancel (by grind)
      have eb : b / s * s = b := Rat.div_mul_cancel (by grind)
      generalize a / s = α at *
      generalize b / s = β at *
      have hab : a * a + b * b = (α * α + β * β) * (s * s) := by rw [← ea, ← eb]; grind
      rw [hab] at n1 n2
      have k1 : α * α + β * β ≤ 1 + 1 / 8796093022208 := by
        by_cases h : α * α + β * β ≤ 1 + 1 / 8796093022208
        · exact h
        · exfalso
          have := Rat.mul_pos (show 0 < α * α + β * β - (1 + 1 / 8796093022208) by grind) hss
          grind
      have k2 : 1 - 1 / 8796093022208 ≤ α * α + β * β := by
        by_cases h : 1 - 1 / 8796093022208 ≤ α * α + β * β
        · exact h
        · exfalso
          have := Rat.mul_pos (show 0 < (1 - 1 / 8796093022208) - (α * α + β * β) by grind) hss
          grind
      have sqn : ∀ w : Rat, 0 ≤ w * w := fun w => by rw [sq_ab]; exact Rat.mul_nonneg (ab_nonneg _) (ab_nonneg _)
      have part : ∀ {w ω : Rat}, ab (w - ω) ≤ 1 / 281474976710656 → ω * ω ≤ 1 + 1 / 8796093022208 → ab (w * w - ω * ω) ≤ 3 / 281474976710656 := fun {w ω} h1 h2 => by
        have h3 : ab ω ≤ 1 + 1 / 1024 := by
          refine sq_le (by grind) ?_
          rw [← sq_ab]
          grind
        have e : w * w - ω * ω = (w - ω) * (w - ω) + 2 * ω * (w - ω) := by grind
        rw [e]
        have h4 := ab_add ((w - ω) * (w - ω)) (2 * ω * (w - ω))
        rw [ab_mul (w - ω), ab_mul (2 * ω), ab_mul 2] at h4
        have h5 : ab (2 : Rat) = 2 := ab_of_nonneg (by decide)
        rw [h5] at h4
        have d0 := ab_nonneg (w - ω)
        have h6 := Rat.mul_le_mul_of_nonneg_left h1 d0
        have h7 := Rat.mul_le_mul_of_nonneg_left h1 (show 0 ≤ 2 * ab ω by have := ab_nonneg ω; grind)
        grind
      have k3 := part n3 (by have := sqn β; grind)
      have k4 := part n4 (by have := sqn α; grind)
      have l3 := le_ab (u * u - α * α)
      have l4 := le_ab (v * v - β * β)
      exact ab_le (by grind) (by grind)
    have lsq := le_ab (u * u + v * v - 1)
    refine ⟨z, r, t, z * u, z * v, hz, hz0, by unfold impRe; rw [hE, cond_true, e1]; exact hr, by unfold impIm; rw [hE, cond_true, e2]; exact ht, by grind, by grind, ?_, ?_, fun hPQ hxp hyq => ?_⟩
    · have e : z * u * (z * u) + z * v * (z * v) = (u * u + v * v) * (z * z) := by grind
      rw [e]
      exact Rat.mul_le_mul_of_nonneg_right (by grind) zz
    · have e : z * u * (z * u) + z * v * (z * v) = (u * u + v * v) * (z * z) := by grind
      rw [e]
      have := Rat.mul_le_mul_of_nonneg_right (show (1 : Rat) ≤ (1 + 1 / 2199023255552) * (u * u + v * v) by grind) zz
      grind
    · subst hxp; subst hyq
      obtain ⟨q1, q2⟩ := hsame hPQ
      have hsz : s = z := by
        unfold ubase at hs
        rw [q1, q2, hz] at hs
        simpa using hs.symm
      rw [q1, hx] at ha
      rw [q2, hy] at hb
      simp only [Option.some.injEq] at ha hb
      subst ha; subst hb; subst hsz
      have ea : A / s * s = A := Rat.div_mul_cancel (by grind)
      have eb : B / s * s = B := Rat.div_mul_cancel (by grind)
      have f1 : s * u - A = s * (u - A / s) := by
        have : s * (u - A / s) = s * u - A / s * s := by grind
        rw [this, ea]
      have f2 : s * v - B = s * (v - B / s) := by
        have : s * (v - B / s) = s * v - B / s * s := by grind
        rw [this, eb]
      rw [f1, f2, ab_mul, ab_mul, ab_of_nonneg hz0]
      have g3 := Rat.mul_le_mul_of_nonneg_left n3 hz0
      have g4 := Rat.mul_le_mul_of_nonneg_left n4 hz0
      exact ⟨by grind, by grind⟩

end Go.Sv.C

namespace Go.Sv.C
open Go.Sv Go.Proofs Go.Fl

theorem upto_congr {f g : Nat → Nat} : ∀ (n i : Nat), (∀ k, k < 2 * n → f (i + k) = g (i + k)) → upto f n i = upto g n i
  | 0, _, _ => rfl
  | n + 1, i, h => by
    have ih := upto_congr (f := f) (g := g) n (i + 2) (fun k hk => by
      have := h (k + 2) (by omega)
      have e : i + (k + 2) = i + 2 + k := by omega
      rw [e] at this
      exact this)
    have h0 : f i = g i := h 0 (by omega)
    have h1 : f (i + 1) = g (i + 1) := h 1 (by omega)
    show f i :: f (i + 1) :: upto f n (i + 2) = g i :: g (i + 1) :: upto g n (i + 2)
    rw [h0, h1, ih]

theorem upto_self {L : List Nat} {n : Nat} (h : L.length = 2 * n) : upto (nth L) n 0 = L := by
  refine List.ext_getElem? fun k => ?_
  by_cases hk : k < 2 * n
  · rw [upto_get _ _ _ _ hk, Nat.zero_add]
    have hk' : k < L.length := by omega
    have e : L[k]? = some L[k] := by simp
    rw [e, nth_get L k L[k] e]
  · rw [List.getElem?_eq_none (by rw [upto_length]; omega), List.getElem?_eq_none (by omega)]

theorem reals_length (f : Nat → Nat) : ∀ (n i : Nat), (reals f n i).length = 2 * n
  | 0, _ => rfl
  | n + 1, i => by simp only [reals, List.length_cons]; rw [reals_length f n]; omega

theorem reals_in {f : Nat → Nat} {n : Nat} {M : Rat} (h0 : 0 ≤ M) (h : ∀ t, t < n → ∃ q, val (f t) = some q ∧ ab q ≤ M) : In (reals f n 0) (2 * n) M := by
  refine ⟨reals_length f n 0, fun k hk => ?_⟩
  have hm : k = 2 * (k / 2) + k % 2 := (Nat.div_add_mod k 2).symm
  have ht : k / 2 < n := by omega
  obtain ⟨q1, q2⟩ := reals_nth f n 0 (k / 2) ht
  rw [Nat.zero_add] at q1
  have hmod : k % 2 = 0 ∨ k % 2 = 1 := by omega
  rcases hmod with e | e
  · rw [e, Nat.add_zero] at hm
    rw [hm, q1]
    exact h _ ht
  · rw [e] at hm
    rw [hm, q2]
    exact ⟨0, val_zero, by rw [ab_zero]; exact h0⟩

theorem psum_nonneg {v : Nat → Rat} : ∀ (k i : Nat), (∀ j, i ≤ j → j < i + k → 0 ≤ v j) → 0 ≤ psum v k i
  | 0, _, _ => by show (0 : Rat) ≤ 0; grind
  | k + 1, i, h => by
    have h0 := h i (Nat.le_refl _) (by omega)
    have ih := psum_nonneg (v := v) k (i + 1) (fun j h1 h2 => h j (by omega) (by omega))
    show 0 ≤ v i + psum v k (i + 1)
    grind

theorem psum_ge {v : Nat → Rat} : ∀ (k i t : Nat), (∀ j, i ≤ j → j < i + k → 0 ≤ v j) → i ≤ t → t < i + k → v t ≤ psum v k i
  | 0, i, t, _, h1, h2 => by omega
  | k + 1, i, t, h, h1, h2 => by
    have h0 := h i (Nat.le_refl _) (by omega)
    have hn := psum_nonneg (v := v) k (i + 1) (fun j h1 h2 => h j (by omega) (by omega))
    show v t ≤ v i + psum v k (i + 1)
    by_cases e : t = i
    · subst e; grind
    · have := psum_ge (v := v) k (i + 1) t (fun j h1 h2 => h j (by omega) (by omega)) (by omega) (by omega)
      grind

theorem psum_le {v : Nat → Rat} {B : Rat} : ∀ (k i : Nat), (∀ j, i ≤ j → j < i + k → v j ≤ B) → psum v k i ≤ (k : Rat) * B
  | 0, _, _ => by
    have e : psum v 0 0 = 0 := rfl
    show (0 : Rat) ≤ ((0 : Nat) : Rat) * B
    have : ((0 : Nat) : Rat) = 0 := rfl
    rw [this]; grind
  | k + 1, i, h => by
    have h0 := h i (Nat.le_refl _) (by omega)
    have ih := psum_le (v := v) (B := B) k (i + 1) (fun j h1 h2 => h j (by omega) (by omega))
    show v i + psum v k (i + 1) ≤ ((k + 1 : Nat) : Rat) * B
    have : ((k + 1 : Nat) : Rat) = (k : Rat) + 1 := cast_add k 1
    rw [this]; grind

section
variable (a b c : Nat) (dB gB : Nat → Nat) (lvb : Nat)

/-- The density's bits, its waves'. -/
def dL : List Nat := reals dB (mul3 a b c) 0
noncomputable def wL : List Nat := wavesL a b c (dL a b c dB)

/-- Numbers: of the density, of the magnitudes. -/
def xq (t : Nat) : Rat := valq (dB t)
noncomputable def zq (i : Nat) : Rat := valq (absB (nth (wL a b c dB) (2 * i)) (nth (wL a b c dB) (2 * i + 1)))

/-- The numbers that forms speak of. -/
noncomputable def vqF (j : Nat) : Rat := if j = 0 then 1 else if j ≤ mul3 a b c then zq a b c dB (j - 1) else if j ≤ 2 * mul3 a b c then xq dB (j - 1 - mul3 a b c) else 0

/-- The magnitudes' sum. -/
noncomputable def sz : Rat := psum (vqF a b c dB) (mul3 a b c) 1

/-- Small whole numbers, not all of them nought. -/
structure Dens : Prop where
  small : ∀ t, t < mul3 a b c → ∃ n : Int, val (dB t) = some (n : Rat) ∧ -49 ≤ n ∧ n ≤ 49
  nz : ∃ t, t < mul3 a b c ∧ ∃ n : Int, val (dB t) = some (n : Rat) ∧ n ≠ 0

end

section
variable {a b c : Nat} {dB : Nat → Nat}

theorem int_le {n m : Int} (h : n ≤ m) : (n : Rat) ≤ (m : Rat) := by exact_mod_cast h

theorem Dens.x (h : Dens a b c dB) {t : Nat} (ht : t < mul3 a b c) : val (dB t) = some (xq dB t) ∧ ab (xq dB t) ≤ 49 := by
  obtain ⟨n, h1, h2, h3⟩ := h.small t ht
  have e : xq dB t = (n : Rat) := valq_of h1
  rw [e]
  refine ⟨h1, ab_le ?_ ?_⟩
  · have := int_le h3; exact this
  · have := int_le h2
    have e : ((-49 : Int) : Rat) = -49 := rfl
    rw [e] at this
    grind

theorem Dens.dIn (h : Dens a b c dB) : In (dL a b c dB) (2 * mul3 a b c) 49 := reals_in (by decide) (fun t ht => ⟨_, h.x ht⟩)

theorem one_le_p50 : (49 : Rat) ≤ Fl.p2 50 := by
  have h1 : Fl.p2 6 ≤ Fl.p2 50 := p2_mono (by omega)
  have h2 : Fl.p2 6 = 64 := by have := p2_nat 6; simpa using this
  rw [h2] at h1; grind

theorem Dens.wIn (h : Dens a b c dB) (hs : Shape a b c) : In (wL a b c dB) (2 * mul3 a b c) 3136 := by
  have := (hs.waves (by decide) one_le_p50 h.dIn).1
  have e : p8 * 49 = 3136 := by unfold p8; grind
  rw [e] at this
  exact this

theorem tiny_le : Fl.p2 (-900) ≤ 1 / 1048576 := by
  have := two_pow_neg 20
  have e : Fl.p2 (-20) = 1 / 1048576 := this
  rw [← e]; exact p2_mono (by omega)

theorem tiny3 : Fl.p2 (-1000) ≤ 1 / 18446744073709551616 := by
  have := two_pow_neg 64
  have e : Fl.p2 (-64) = 1 / 18446744073709551616 := this
  rw [← e]; exact p2_mono (by omega)

/-- The magnitudes. -/
theorem Dens.z (h : Dens a b c dB) (hs : Shape a b c) {i : Nat} (hi : i < mul3 a b c) : val (absB (nth (wL a b c dB) (2 * i)) (nth (wL a b c dB) (2 * i + 1))) = some (zq a b c dB i) ∧ 0 ≤ zq a b c dB i ∧ zq a b c dB i ≤ 4440 ∧
    ∃ p q, val (nth (wL a b c dB) (2 * i)) = some p ∧ val (nth (wL a b c dB) (2 * i + 1)) = some q ∧ ab p ≤ 101 / 100 * zq a b c dB i + Fl.p2 (-900) ∧ ab q ≤ 101 / 100 * zq a b c dB i + Fl.p2 (-900) ∧ ab p ≤ 3136 ∧ ab q ≤ 3136 := by
  obtain ⟨p, hp, hpb⟩ := (h.wIn hs).val (2 * i) (by omega)
  obtain ⟨q, hq, hqb⟩ := (h.wIn hs).val (2 * i + 1) (by omega)
  have hT : (3136 : Rat) ≤ Fl.p2 900 := by
    have h1 : Fl.p2 12 ≤ Fl.p2 900 := p2_mono (by omega)
    have h2 : Fl.p2 12 = 4096 := by have := p2_nat 12; simpa using this
    rw [h2] at h1; grind
  obtain ⟨z, hz, hz0, hz3, hzne, hz5⟩ := absB_law hp hq hT hpb hqb
  have e : zq a b c dB i = z := valq_of hz
  rw [e]
  have hpos := p2_pos (-900)
  have ht := tiny_le
  have p0 := ab_nonneg p
  have q0 := ab_nonneg q
  have e44 : Fl.p2 (-44) = 1 / 17592186044416 := two_pow_neg 44
  refine ⟨hz, hz0, ?_, p, q, hp, hq, ?_, ?_, hpb, hqb⟩
  · by_cases hbig : Fl.p2 (-900) ≤ ab p ∨ Fl.p2 (-900) ≤ ab q
    · obtain ⟨s1, _⟩ := hz5 hbig
      rw [e44] at s1
      refine sq_le (by decide) ?_
      have g1 := Rat.mul_le_mul_of_nonneg_right hpb p0
      have g2 := Rat.mul_le_mul_of_nonneg_right hqb q0
      rw [sq_ab p, sq_ab q] at s1
      grind
    · have h1 : ab p < Fl.p2 (-900) := by
        by_cases hh : ab p < Fl.p2 (-900)
        · exact hh
        · exact absurd (.inl (by grind)) hbig
      have h2 : ab q < Fl.p2 (-900) := by
        by_cases hh : ab q < Fl.p2 (-900)
        · exact hh
        · exact absurd (.inr (by grind)) hbig
      have := hz3 (Fl.p2 (-900)) (by grind) (by grind)
      grind
  · by_cases hbig : Fl.p2 (-900) ≤ ab p ∨ Fl.p2 (-900) ≤ ab q
    · obtain ⟨_, s2⟩ := hz5 hbig
      rw [e44] at s2
      have : ab p ≤ 101 / 100 * z := by
        refine sq_le (by grind) ?_
        rw [sq_ab p, sq_ab q] at s2
        have := Rat.mul_nonneg q0 q0
        have := Rat.mul_nonneg p0 p0
        grind
      grind
    · have h1 : ab p < Fl.p2 (-900) := by
        by_cases hh : ab p < Fl.p2 (-900)
        · exact hh
        · exact absurd (.inl (by grind)) hbig
      grind
  · by_cases hbig : Fl.p2 (-900) ≤ ab p ∨ Fl.p2 (-900) ≤ ab q
    · obtain ⟨_, s2⟩ := hz5 hbig
      rw [e44] at s2
      have : ab q ≤ 101 / 100 * z := by
        refine sq_le (by grind) ?_
        rw [sq_ab p, sq_ab q] at s2
        have := Rat.mul_nonneg q0 q0
        have := Rat.mul_nonneg p0 p0
        grind
      grind
    · have h2 : ab q < Fl.p2 (-900) := by
        by_cases hh : ab q < Fl.p2 (-900)
        · exact hh
        · exact absurd (.inr (by grind)) hbig
      grind

theorem vqF_z {j : Nat} (h1 : 1 ≤ j) (h2 : j ≤ mul3 a b c) : vqF a b c dB j = zq a b c dB (j - 1) := by
  unfold vqF
  rw [if_neg (by omega), if_pos h2]

theorem vqF_x {t : Nat} (h : t < mul3 a b c) : vqF a b c dB (mul3 a b c + 1 + t) = xq dB t := by
  unfold vqF
  rw [if_neg (by omega), if_neg (by omega), if_pos (by omega)]
  congr 1
  omega

theorem Dens.zs (h : Dens a b c dB) (hs : Shape a b c) {i : Nat} (hi : i < mul3 a b c) : zq a b c dB i ≤ sz a b c dB := by
  have := psum_ge (v := vqF a b c dB) (mul3 a b c) 1 (i + 1) (fun j h1 h2 => by
    rw [vqF_z h1 (by omega)]
    exact (h.z hs (i := j - 1) (by omega)).2.1) (by omega) (by omega)
  rw [vqF_z (by omega) (by omega)] at this
  exact this

theorem Dens.s0 (h : Dens a b c dB) (hs : Shape a b c) : 0 ≤ sz a b c dB := psum_nonneg _ _ (fun j h1 h2 => by
  rw [vqF_z h1 (by omega)]
  exact (h.z hs (i := j - 1) (by omega)).2.1)

theorem Dens.sMax (h : Dens a b c dB) (hs : Shape a b c) (hN : mul3 a b c ≤ 48) : sz a b c dB ≤ 213120 := by
  have h1 := psum_le (v := vqF a b c dB) (B := 4440) (mul3 a b c) 1 (fun j h1 h2 => by
    rw [vqF_z h1 (by omega)]
    exact (h.z hs (i := j - 1) (by omega)).2.2.1)
  have h2 := Rat.mul_le_mul_of_nonneg_right (cast_le hN) (show (0 : Rat) ≤ 4440 by decide)
  have e : ((48 : Nat) : Rat) = 48 := rfl
  rw [e] at h2
  show psum (vqF a b c dB) (mul3 a b c) 1 ≤ _
  grind

/-- The density, against the magnitudes. -/
theorem Dens.xs (h : Dens a b c dB) (hs : Shape a b c) {t : Nat} (ht : t < mul3 a b c) : ab (xq dB t) ≤ 198 / 100 * sz a b c dB + 1 / 100000 := by
  have hw := h.wIn hs
  have hB : ∀ k, k < 2 * mul3 a b c → ∃ z, val (nth (wL a b c dB) k) = some z ∧ ab z ≤ 101 / 100 * sz a b c dB + Fl.p2 (-900) := fun k hk => by
    have hm : k = 2 * (k / 2) + k % 2 := (Nat.div_add_mod k 2).symm
    have hi : k / 2 < mul3 a b c := by omega
    obtain ⟨_, _, _, p, q, hp, hq, h1, h2, _⟩ := h.z hs hi
    have h3 := h.zs hs hi
    have hmod : k % 2 = 0 ∨ k % 2 = 1 := by omega
    rcases hmod with e | e
    · rw [e, Nat.add_zero] at hm
      rw [hm]
      exact ⟨p, hp, by grind⟩
    · rw [e] at hm
      rw [hm]
      exact ⟨q, hq, by grind⟩
  have h3136 : (3136 : Rat) ≤ Fl.p2 50 := by
    have h1 : Fl.p2 12 ≤ Fl.p2 50 := p2_mono (by omega)
    have h2 : Fl.p2 12 = 4096 := by have := p2_nat 12; simpa using this
    rw [h2] at h1; grind
  obtain ⟨q, hq, hqb⟩ := (hs.map (by decide) h3136 hw).2.1 _ hB (2 * t) (by omega)
  obtain ⟨q', z, hq', hz, hqz⟩ := (hs.waves (by decide) one_le_p50 h.dIn).2 (wL a b c dB) hw.len (fun k hk => by
    obtain ⟨p, hp, _⟩ := hw.val k hk
    refine ⟨p, p, hp, hp, ?_⟩
    have e : p * U - p * U = 0 := by grind
    rw [e, ab_zero]
    exact Rat.mul_nonneg (cast_nonneg _) (by decide)) (2 * t) (by omega)
  rw [hq] at hq'
  simp only [Option.some.injEq] at hq'
  subst hq'
  have hzx : z = xq dB t := by
    have e1 := (reals_nth dB (mul3 a b c) 0 t ht).1
    rw [Nat.zero_add] at e1
    have e2 : nth (dL a b c dB) (2 * t) = dB t := e1
    rw [e2] at hz
    exact (valq_of hz).symm
  subst hzx
  -- |q - x| is little
  have e3 : q * U - U * xq dB t = (q - xq dB t) * U := by grind
  rw [e3, ab_mul, ab_of_nonneg (Rat.le_of_lt U_pos)] at hqz
  have g1 := Rat.mul_le_mul_of_nonneg_right hqz (Rat.le_of_lt (p2_pos (-100)))
  have e4 : ab (q - xq dB t) * U * Fl.p2 (-100) = ab (q - xq dB t) := by unfold U; rw [Rat.mul_assoc, p2_inv]; grind
  have e5 : ((tolU : Nat) : Rat) * 49 * Fl.p2 (-100) = 49 * Fl.p2 (-38) := by
    have e6 : ((tolU : Nat) : Rat) = Fl.p2 62 := shl_cast 62
    have e7 : Fl.p2 62 * Fl.p2 (-100) = Fl.p2 (-38) := by rw [← p2_add]; rfl
    rw [e6, ← e7]; grind
  rw [e4, e5] at g1
  have k1 : Fl.p2 (-38) ≤ 1 / 1073741824 := by
    have := two_pow_neg 30
    have e : Fl.p2 (-30) = 1 / 1073741824 := this
    rw [← e]; exact p2_mono (by omega)
  have k2 : Fl.p2 (-30) = 1 / 1073741824 := two_pow_neg 30
  have k3 : Fl.p2 (-900) ≤ 1 / 1073741824 := by rw [← k2]; exact p2_mono (by omega)
  rw [k2] at hqb
  have g2 := ab_add (xq dB t - q) q
  have e8 : xq dB t - q + q = xq dB t := by grind
  have e9 : ab (xq dB t - q) = ab (q - xq dB t) := by
    have : xq dB t - q = -(q - xq dB t) := by grind
    rw [this, ab_neg]
  rw [e8, e9] at g2
  have hs0 := h.s0 hs
  grind

theorem Dens.sMin (h : Dens a b c dB) (hs : Shape a b c) : 505 / 1000 ≤ sz a b c dB := by
  obtain ⟨t, ht, n, h1, h2⟩ := h.nz
  have e : xq dB t = (n : Rat) := valq_of h1
  have h3 := h.xs hs ht
  have h4 : 1 ≤ ab (xq dB t) := by
    rw [e]
    by_cases hn : 1 ≤ n
    · have := int_le hn
      have e1 : ((1 : Int) : Rat) = 1 := rfl
      rw [e1] at this
      have := le_ab (n : Rat)
      grind
    · have hn' : n ≤ -1 := by omega
      have := int_le hn'
      have e1 : ((-1 : Int) : Rat) = -1 := rfl
      rw [e1] at this
      have := le_ab (n : Rat)
      grind
  grind

end

end Go.Sv.C
