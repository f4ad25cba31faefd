/- The names, and what is known of them. No conditions.
-/
import Derived.Test.YtepeiijjldpcpaaGreatSvYq
set_option linter.all false
namespace Go.Sv.C
open Go.Sv Go.Proofs Go.Fl

section
variable (a b c : Nat) (dB gB : Nat → Nat) (lvb : Nat)

noncomputable def wU : List Nat := upto (nth (wL a b c dB)) (mul3 a b c) 0

/-- The search's grids. -/
noncomputable def gr : Nat → List Nat
  | 0 => reals gB (mul3 a b c) 0
  | s + 1 => upto (nth (stepL a b c (nth (wU a b c dB)) (nth (gr s)) lvb)) (mul3 a b c) 0

noncomputable def offF (s : Nat) : Nat := sndO (chargeOut a b c (chargeRun a b c (nth (wU a b c dB)) (nth (gr a b c dB gB lvb s)) lvb))

/-- The names' bits. -/
noncomputable def nmF (kk i : Nat) : Nat :=
  if i < 100 then nth (wL a b c dB) (i - 1)
  else if i < 150 then absB (nth (wL a b c dB) (2 * (i - 100))) (nth (wL a b c dB) (2 * (i - 100) + 1))
  else if i = 150 then lvb
  else if i < 200 then offF a b c dB gB lvb (i - 151)
  else if i < 300 then dB (i - 200)
  else if i < 400 then gB (i - 300)
  else if i < 3000 then nth (gr a b c dB gB lvb ((i - 400) / 200 + 1)) ((i - 400) % 200)
  else nth (wavesL a b c (gr a b c dB gB lvb (nowk kk))) (i - 3000)

end

section
variable {a b c : Nat} {dB gB : Nat → Nat} {lvb kk : Nat}

theorem nm_w {k : Nat} (h : k + 1 < 100) : nmF a b c dB gB lvb kk (k + 1) = nth (wL a b c dB) k := by
  unfold nmF
  rw [if_pos h, show k + 1 - 1 = k from by omega]

theorem nm_a {i : Nat} (h : i < 50) : nmF a b c dB gB lvb kk (100 + i) = absB (nth (wL a b c dB) (2 * i)) (nth (wL a b c dB) (2 * i + 1)) := by
  unfold nmF
  rw [if_neg (by omega), if_pos (by omega)]
  have : 100 + i - 100 = i := by omega
  rw [this]

theorem nm_l : nmF a b c dB gB lvb kk 150 = lvb := by
  unfold nmF
  rw [if_neg (by omega), if_neg (by omega), if_pos rfl]

theorem nm_o {s : Nat} (h : s ≤ 4) : nmF a b c dB gB lvb kk (151 + s) = offF a b c dB gB lvb s := by
  unfold nmF
  rw [if_neg (by omega), if_neg (by omega), if_neg (by omega), if_pos (by omega)]
  rw [show 151 + s - 151 = s from by omega]

theorem nm_d {t : Nat} (h : t < 100) : nmF a b c dB gB lvb kk (200 + t) = dB t := by
  unfold nmF
  rw [if_neg (by omega), if_neg (by omega), if_neg (by omega), if_neg (by omega), if_pos (by omega)]
  rw [show 200 + t - 200 = t from by omega]

theorem nm_g {t : Nat} (h : t < 100) : nmF a b c dB gB lvb kk (300 + t) = gB t := by
  unfold nmF
  rw [if_neg (by omega), if_neg (by omega), if_neg (by omega), if_neg (by omega), if_neg (by omega), if_pos (by omega)]
  rw [show 300 + t - 300 = t from by omega]

theorem nm_r {s k : Nat} (h : s ≤ 4) (hk : k < 200) : nmF a b c dB gB lvb kk (400 + 200 * s + k) = nth (gr a b c dB gB lvb (s + 1)) k := by
  unfold nmF
  rw [if_neg (by omega), if_neg (by omega), if_neg (by omega), if_neg (by omega), if_neg (by omega), if_neg (by omega), if_pos (by omega)]
  have e1 : (400 + 200 * s + k - 400) / 200 = s := by omega
  have e2 : (400 + 200 * s + k - 400) % 200 = k := by omega
  rw [e1, e2]

theorem nm_n {k : Nat} : nmF a b c dB gB lvb kk (3000 + k) = nth (wavesL a b c (gr a b c dB gB lvb (nowk kk))) k := by
  unfold nmF
  rw [if_neg (by omega), if_neg (by omega), if_neg (by omega), if_neg (by omega), if_neg (by omega), if_neg (by omega), if_neg (by omega)]
  rw [show 3000 + k - 3000 = k from by omega]

theorem nm_wU (hN : mul3 a b c ≤ 48) : upto (fun k => nmF a b c dB gB lvb kk (1 + k)) (mul3 a b c) 0 = wU a b c dB :=
  upto_congr _ 0 (fun k hk => by
    rw [Nat.zero_add]
    show nmF a b c dB gB lvb kk (1 + k) = _
    rw [Nat.add_comm 1 k]
    exact nm_w (by omega))

theorem nm_dL (hN : mul3 a b c ≤ 48) : reals (fun j => nmF a b c dB gB lvb kk (200 + j)) (mul3 a b c) 0 = dL a b c dB :=
  reals_congr _ 0 (fun t ht => by
    rw [Nat.zero_add]
    exact nm_d (by omega))

theorem gr_len (s : Nat) : (gr a b c dB gB lvb s).length = 2 * mul3 a b c := by
  cases s with
  | zero => exact reals_length _ _ _
  | succ s => exact upto_length _ _ _

theorem nm_gr (hN : mul3 a b c ≤ 48) {s : Nat} (hs : s ≤ 5) : gridBits (nmF a b c dB gB lvb kk) (mul3 a b c) s = gr a b c dB gB lvb s := by
  cases s with
  | zero =>
    exact reals_congr _ 0 (fun t ht => by
      rw [Nat.zero_add]
      exact nm_g (by omega))
  | succ s =>
    have e := upto_self (gr_len (a := a) (b := b) (c := c) (dB := dB) (gB := gB) (lvb := lvb) (s + 1))
    rw [← e]
    exact upto_congr _ 0 (fun k hk => by
      rw [Nat.zero_add]
      exact nm_r (by omega) (by omega))

/-- The names of the search's grids are so. -/
theorem step_names {X : Ctx} (hN : mul3 a b c ≤ 48) (hX : X.nm = nmF a b c dB gB lvb kk) : StepNames a b c X := by
  refine ⟨fun s hs k hk => ?_, fun s hs => ?_⟩
  · rw [hX, nm_r hs (by omega), nm_wU hN, nm_gr hN (by omega), nm_l]
    show nth (upto _ _ 0) k = _
    rw [upto_nth _ _ _ hk]
  · rw [hX, nm_o hs, nm_wU hN, nm_gr hN (by omega), nm_l]
    rfl

end

/- ### The context -/

section
variable {a b c : Nat} {dB : Nat → Nat}

theorem Dens.M1 (h : Dens a b c dB) (hs : Shape a b c) : 1 ≤ 4 * sz a b c dB := by have := h.sMin hs; grind

theorem Dens.M2 (h : Dens a b c dB) (hs : Shape a b c) (hN : mul3 a b c ≤ 48) : 4 * sz a b c dB ≤ Fl.p2 20 := by
  have := h.sMax hs hN
  have e : Fl.p2 20 = 1048576 := by have := p2_nat 20; simpa using this
  rw [e]; grind

theorem Dens.vb (h : Dens a b c dB) (hs : Shape a b c) (j : Nat) : ab (vqF a b c dB j) ≤ 4 * sz a b c dB := by
  have h1 := h.sMin hs
  unfold vqF
  split
  · rw [ab_of_nonneg (by decide)]; grind
  · split
    · rename_i hj0 hj
      have h2 := h.zs hs (i := j - 1) (by omega)
      have h3 := (h.z hs (i := j - 1) (by omega)).2.1
      rw [ab_of_nonneg h3]; grind
    · split
      · have h2 := h.xs hs (t := j - 1 - mul3 a b c) (by omega)
        grind
      · rw [ab_zero]; grind

/-- The context of the law: names, numbers, what came in. -/
noncomputable def lawX (X : Ctx) (h : Dens a b c dB) (hs : Shape a b c) (hN : mul3 a b c ≤ 48) (nm : Nat → Nat) : Ctx :=
  { X with
    nm := nm
    vq := vqF a b c dB
    M := 4 * sz a b c dB
    np := mul3 a b c + 1
    M1 := h.M1 hs
    M2 := Rat.le_trans (h.M2 hs hN) (p2_mono (by omega))
    M3 := fun _ => Rat.le_trans (h.M2 hs hN) (p2_mono (by omega))
    M4 := fun _ => h.M2 hs hN
    v0 := by unfold vqF; rw [if_pos rfl]
    vb := h.vb hs
    vp := fun j h1 h2 => by
      rw [vqF_z h1 (by omega)]
      exact (h.z hs (i := j - 1) (by omega)).2.1
    vs := fun _ => by
      have e : mul3 a b c + 1 - 1 = mul3 a b c := by omega
      rw [e]
      show 4 * sz a b c dB ≤ 8 * sz a b c dB
      have := h.s0 hs
      grind }

variable {X : Ctx} {gB : Nat → Nat} {lvb kk : Nat}

theorem bd_of {X : Ctx} {q : Rat} {k : Nat} (h : ab q * U ≤ Fl.p2 (k : Int) * X.M) : ab q * U ≤ ((Nat.shiftLeft 1 k : Nat) : Rat) * X.M := by
  rw [shl_cast k]; exact h

theorem bd_one {X : Ctx} {q : Rat} (h : ab q ≤ X.M) : ab q * U ≤ ((Nat.shiftLeft 1 100 : Nat) : Rat) * X.M := by
  have e : ((Nat.shiftLeft 1 100 : Nat) : Rat) = U := shl_cast 100
  rw [e]
  have := Rat.mul_le_mul_of_nonneg_left h (Rat.le_of_lt U_pos)
  grind

theorem lin_unit (v : Nat → Rat) (j : Nat) : lin v (unitL (Int.ofNat (Nat.shiftLeft 1 100)) j) 0 = U * v j := by
  rw [lin_unitL, Nat.zero_add]
  have e1 : ((Int.ofNat (Nat.shiftLeft 1 100) : Int) : Rat) = U := shl_cast 100
  rw [e1]

/-- What is named is so: waves, magnitudes, the density. -/
theorem main_names (h : Dens a b c dB) (hs : Shape a b c) (hN : mul3 a b c ≤ 48) (hN1 : 1 ≤ mul3 a b c) : MainD a b c (lawX X h hs hN (nmF a b c dB gB lvb kk)) := by
  have hM : (lawX X h hs hN (nmF a b c dB gB lvb kk)).M = 4 * sz a b c dB := rfl
  have hvq : (lawX X h hs hN (nmF a b c dB gB lvb kk)).vq = vqF a b c dB := rfl
  have s1 := h.sMin hs
  refine ⟨⟨hN1, rfl, fun k hk => ?_, fun i hi => ⟨?_, ?_⟩⟩, fun j hj => ?_, fun k hk => ?_⟩
  · show Fact _ _ (nmF a b c dB gB lvb kk (k + 1))
    have hm : k = 2 * (k / 2) + k % 2 := (Nat.div_add_mod k 2).symm
    have hi : k / 2 < mul3 a b c := by omega
    obtain ⟨_, hz0, _, p, q, hp, hq, h1, h2, _⟩ := h.z hs hi
    have h3 := h.zs hs hi
    have ht := tiny_le
    have key : ∃ r, val (nth (wL a b c dB) k) = some r ∧ ab r ≤ 4 * sz a b c dB := by
      have hmod : k % 2 = 0 ∨ k % 2 = 1 := by omega
      rcases hmod with e | e
      · rw [e, Nat.add_zero] at hm
        rw [hm]
        exact ⟨p, hp, by grind⟩
      · rw [e] at hm
        rw [hm]
        exact ⟨q, hq, by grind⟩
    obtain ⟨r, hr, hrb⟩ := key
    rw [nm_w (by omega)]
    refine ⟨fun _ => (nm_w (by omega)).symm, fun _ => rfl, Sv.nn_of hr, fun h => (by cases h), fun b' hb => ?_, fun cs e h => (by cases h), fun h => absurd rfl h, fun h => absurd rfl h⟩
    simp only [KW, Option.some.injEq] at hb
    subst hb
    exact ⟨r, hr, bd_one hrb⟩
  · show nmF a b c dB gB lvb kk (100 + i) = absB (nmF a b c dB gB lvb kk (2 * i + 1)) (nmF a b c dB gB lvb kk (2 * i + 1 + 1))
    rw [nm_a (by omega), nm_w (by omega), nm_w (by omega)]
  · show Fact _ _ (nmF a b c dB gB lvb kk (100 + i))
    obtain ⟨hz, hz0, _⟩ := h.z hs hi
    have h3 := h.zs hs hi
    rw [nm_a (by omega)]
    refine ⟨fun _ => (nm_a (by omega)).symm, fun _ => rfl, Sv.nn_of hz, fun _ => nonneg_of hz hz0, fun b' hb => ?_, fun cs e h => ?_, fun h => absurd rfl h, fun h => absurd rfl h⟩
    · simp only [KA, Option.some.injEq] at hb
      subst hb
      refine ⟨_, hz, bd_one ?_⟩
      rw [ab_of_nonneg hz0, hM]; grind
    · simp only [KA, Option.some.injEq, Prod.mk.injEq] at h
      obtain ⟨rfl, rfl⟩ := h
      refine ⟨_, hz, ?_⟩
      rw [lin_unit, hvq, vqF_z (by omega) (by omega)]
      have e1 : Nat.succ i - 1 = i := by omega
      rw [e1]
      have e2 : zq a b c dB i * U - U * zq a b c dB i = 0 := by grind
      rw [e2, ab_zero]
      have e0 : ((0 : Nat) : Rat) = 0 := rfl
      rw [e0]; grind
  · show Fact _ _ (nmF a b c dB gB lvb kk (200 + j))
    obtain ⟨hx, hx49⟩ := h.x hj
    have hxs := h.xs hs hj
    rw [nm_d (by omega)]
    refine ⟨fun _ => (nm_d (by omega)).symm, fun _ => rfl, Sv.nn_of hx, fun h => (by cases h), fun b' hb => ?_, fun cs e h => ?_, fun h => absurd rfl h, fun _ => ⟨_, hx, ?_⟩⟩
    · simp only [KD, Option.some.injEq] at hb
      subst hb
      refine ⟨_, hx, bd_one ?_⟩
      rw [hM]; grind
    · simp only [KD, Option.some.injEq, Prod.mk.injEq] at h
      obtain ⟨rfl, rfl⟩ := h
      refine ⟨_, hx, ?_⟩
      have e1 : Nat.succ (Nat.add (mul3 a b c) j) = mul3 a b c + 1 + j := by show mul3 a b c + j + 1 = _; omega
      rw [lin_unit, hvq, e1, vqF_x hj]
      have e2 : xq dB j * U - U * xq dB j = 0 := by grind
      rw [e2, ab_zero]
      have e0 : ((0 : Nat) : Rat) = 0 := rfl
      rw [e0]; grind
    · exact ⟨fun e => (by cases e), fun e => (by cases e), fun e => (by cases e), fun e => (by cases e), fun e => (by cases e), fun _ => by grind, fun e => (by cases e), fun e => (by cases e)⟩
  · show nmF a b c dB gB lvb kk (k + 1) = nth (wavesL a b c (reals (fun j => nmF a b c dB gB lvb kk (200 + j)) (mul3 a b c) 0)) k
    rw [nm_w (by omega), nm_dL hN]
    rfl

theorem wU_nth {k : Nat} (hk : k < 2 * mul3 a b c) : nth (wU a b c dB) k = nth (wL a b c dB) k := upto_nth _ _ _ hk

theorem impB_length (wv ph : Nat → Nat) : ∀ (n i : Nat), (impB wv ph n i).length = 2 * n
  | 0, _ => rfl
  | n + 1, i => by simp only [impB, List.length_cons]; rw [impB_length wv ph n]; omega

theorem impB_nth (wv ph : Nat → Nat) : ∀ (n i t : Nat), t < n → nth (impB wv ph n i) (2 * t) = impRe (wv (i + 2 * t)) (wv (i + 2 * t + 1)) (ph (i + 2 * t)) (ph (i + 2 * t + 1)) ∧ nth (impB wv ph n i) (2 * t + 1) = impIm (wv (i + 2 * t)) (wv (i + 2 * t + 1)) (ph (i + 2 * t)) (ph (i + 2 * t + 1))
  | 0, _, t, h => by omega
  | n + 1, i, 0, _ => ⟨rfl, rfl⟩
  | n + 1, i, t + 1, h => by
    obtain ⟨h1, h2⟩ := impB_nth wv ph n (i + 2) t (by omega)
    have e1 : 2 * (t + 1) = 2 * t + 2 := by omega
    have e2 : i + 2 + 2 * t = i + (2 * t + 2) := by omega
    rw [e2] at h1 h2
    rw [e1]
    exact ⟨h1, h2⟩

theorem p2_20 : Fl.p2 20 = 1048576 := by have := p2_nat 20; simpa using this

/-- What is told of a wave's magnitude with any phases. -/
theorem Dens.imp (h : Dens a b c dB) (hs : Shape a b c) {ph : Nat → Nat} (hph : ∀ k, k < 2 * mul3 a b c → ∃ q, val (ph k) = some q ∧ ab q ≤ Fl.p2 40) {i : Nat} (hi : i < mul3 a b c) :
    ∃ r t C D, val (nth (impB (nth (wU a b c dB)) ph (mul3 a b c) 0) (2 * i)) = some r ∧ val (nth (impB (nth (wU a b c dB)) ph (mul3 a b c) 0) (2 * i + 1)) = some t ∧
      ab (r - C) ≤ 1 / 2251799813685248 * zq a b c dB i + Fl.p2 (-1000) ∧ ab (t - D) ≤ 1 / 2251799813685248 * zq a b c dB i + Fl.p2 (-1000) ∧
      C * C + D * D ≤ (1 + 1 / 2199023255552) * (zq a b c dB i * zq a b c dB i) ∧ zq a b c dB i * zq a b c dB i ≤ (1 + 1 / 2199023255552) * (C * C + D * D) ∧
      (∀ p q A B, val (nth (wL a b c dB) (2 * i)) = some A → val (nth (wL a b c dB) (2 * i + 1)) = some B → val (ph (2 * i)) = some p → val (ph (2 * i + 1)) = some q → Fl.p2 (-900) ≤ ab p ∨ Fl.p2 (-900) ≤ ab q → nth (wL a b c dB) (2 * i) = ph (2 * i) → nth (wL a b c dB) (2 * i + 1) = ph (2 * i + 1) → ab (C - A) ≤ 1 / 281474976710656 * zq a b c dB i ∧ ab (D - B) ≤ 1 / 281474976710656 * zq a b c dB i) := by
  obtain ⟨hz, hz0, _, A, B, hA, hB, _, _, hA1, hB1⟩ := h.z hs hi
  obtain ⟨P, hP, hPb⟩ := hph (2 * i) (by omega)
  obtain ⟨Q, hQ, hQb⟩ := hph (2 * i + 1) (by omega)
  obtain ⟨z, r, t, C, D, k1, k2, k3, k4, k5, k6, k7, k8, k9⟩ := imp_law hA hB (by rw [p2_20]; grind) (by rw [p2_20]; grind) hP hQ hPb hQb
  rw [hz] at k1
  simp only [Option.some.injEq] at k1
  subst k1
  obtain ⟨e1, e2⟩ := impB_nth (nth (wU a b c dB)) ph (mul3 a b c) 0 i hi
  rw [Nat.zero_add, wU_nth (by omega), wU_nth (by omega)] at e1 e2
  refine ⟨r, t, C, D, by rw [e1]; exact k3, by rw [e2]; exact k4, k5, k6, k7, k8, fun p q A' B' h1 h2 h3 h4 h5 h6 h7 => ?_⟩
  rw [hA] at h1
  rw [hB] at h2
  rw [hP] at h3
  rw [hQ] at h4
  simp only [Option.some.injEq] at h1 h2 h3 h4
  subst h1; subst h2; subst h3; subst h4
  exact k9 h5 h6 h7

end

end Go.Sv.C

namespace Go.Sv.C
open Go.Sv Go.Proofs Go.Fl

theorem flipB_length (gv : Nat → Nat) (lv : Nat) : ∀ (n i : Nat), (flipB gv lv n i).length = 2 * n
  | 0, _ => rfl
  | n + 1, i => by simp only [flipB, List.length_cons]; rw [flipB_length gv lv n]; omega

theorem flipB_nth (gv : Nat → Nat) (lv : Nat) : ∀ (n i t : Nat), t < n → nth (flipB gv lv n i) (2 * t) = (bif cmpB .lss (gv (i + 2 * t)) lv then fneg (gv (i + 2 * t)) else gv (i + 2 * t)) ∧ nth (flipB gv lv n i) (2 * t + 1) = 0
  | 0, _, t, h => by omega
  | n + 1, i, 0, _ => ⟨rfl, rfl⟩
  | n + 1, i, t + 1, h => by
    obtain ⟨h1, h2⟩ := flipB_nth gv lv n (i + 2) t (by omega)
    have e1 : 2 * (t + 1) = 2 * t + 2 := by omega
    have e2 : i + 2 + 2 * t = i + (2 * t + 2) := by omega
    rw [e2] at h1
    rw [e1]
    exact ⟨h1, h2⟩

theorem flipB_in {L : List Nat} {n lv : Nat} {M : Rat} (h0 : 0 ≤ M) (h : In L (2 * n) M) : In (flipB (nth L) lv n 0) (2 * n) M := by
  refine ⟨flipB_length _ _ _ _, fun k hk => ?_⟩
  have hm : k = 2 * (k / 2) + k % 2 := (Nat.div_add_mod k 2).symm
  have ht : k / 2 < n := by omega
  obtain ⟨q1, q2⟩ := flipB_nth (nth L) lv n 0 (k / 2) ht
  rw [Nat.zero_add] at q1
  have hmod : k % 2 = 0 ∨ k % 2 = 1 := by omega
  rcases hmod with e | e
  · rw [e, Nat.add_zero] at hm
    obtain ⟨q, hq, hb⟩ := h.val (2 * (k / 2)) (by omega)
    rw [hm, q1]
    cases cmpB .lss (nth L (2 * (k / 2))) lv
    · exact ⟨q, hq, hb⟩
    · exact ⟨-q, val_neg hq, by rw [ab_neg]; exact hb⟩
  · rw [e] at hm
    rw [hm, q2]
    exact ⟨0, val_zero, by rw [ab_zero]; exact h0⟩

theorem p2_22 : Fl.p2 22 = 4194304 := by have := p2_nat 22; simpa using this

section
variable {a b c : Nat} {dB gB : Nat → Nat} {lvb kk : Nat}

/-- The waves with phases lie within twice the magnitudes' sum. -/
theorem Dens.vIn (h : Dens a b c dB) (hs : Shape a b c) {ph : Nat → Nat} (hph : ∀ k, k < 2 * mul3 a b c → ∃ q, val (ph k) = some q ∧ ab q ≤ Fl.p2 40) : In (impB (nth (wU a b c dB)) ph (mul3 a b c) 0) (2 * mul3 a b c) (2 * sz a b c dB) := by
  refine ⟨impB_length _ _ _ _, fun k hk => ?_⟩
  have hm : k = 2 * (k / 2) + k % 2 := (Nat.div_add_mod k 2).symm
  have hi : k / 2 < mul3 a b c := by omega
  obtain ⟨r, t, C, D, k1, k2, k3, k4, k5, _, _⟩ := h.imp hs hph hi
  have hz0 := (h.z hs hi).2.1
  have hzs := h.zs hs hi
  have hs1 := h.sMin hs
  have ht3 := tiny3
  have zz := Rat.mul_nonneg hz0 hz0
  have hC : ab C ≤ 101 / 100 * zq a b c dB (k / 2) := by
    refine sq_le (by grind) ?_
    rw [sq_ab C] at k5
    have := Rat.mul_nonneg (ab_nonneg D) (ab_nonneg D)
    rw [← sq_ab] at this
    grind
  have hD : ab D ≤ 101 / 100 * zq a b c dB (k / 2) := by
    refine sq_le (by grind) ?_
    rw [sq_ab D] at k5
    have := Rat.mul_nonneg (ab_nonneg C) (ab_nonneg C)
    rw [← sq_ab] at this
    grind
  have hmod : k % 2 = 0 ∨ k % 2 = 1 := by omega
  rcases hmod with e | e
  · rw [e, Nat.add_zero] at hm
    rw [hm]
    refine ⟨r, k1, ?_⟩
    have g := ab_add (r - C) C
    have e1 : r - C + C = r := by grind
    rw [e1] at g
    grind
  · rw [e] at hm
    rw [hm]
    refine ⟨t, k2, ?_⟩
    have g := ab_add (t - D) D
    have e1 : t - D + D = t := by grind
    rw [e1] at g
    grind

theorem Dens.m2 (h : Dens a b c dB) (hs : Shape a b c) (hN : mul3 a b c ≤ 48) : 1 ≤ 2 * sz a b c dB ∧ 2 * sz a b c dB ≤ Fl.p2 50 := by
  have h1 := h.sMin hs
  have h2 := h.M2 hs hN
  have h3 : Fl.p2 20 ≤ Fl.p2 50 := p2_mono (by omega)
  exact ⟨by grind, by grind⟩

/-- The phases that a grid within bounds gives. -/
theorem phases_in (hs : Shape a b c) {L : List Nat} (hL : In L (2 * mul3 a b c) (Fl.p2 22)) (lv : Nat) : ∀ k, k < 2 * mul3 a b c → ∃ q, val (nth (wavesL a b c (flipB (nth L) lv (mul3 a b c) 0)) k) = some q ∧ ab q ≤ Fl.p2 40 := fun k hk => by
  have h0 := p2_pos 22
  have h1 : (1 : Rat) ≤ Fl.p2 22 := by rw [p2_22]; decide
  have hW := (hs.waves h1 (p2_mono (by omega)) (flipB_in (lv := lv) (by grind) hL)).1
  obtain ⟨q, hq, hb⟩ := hW.val k hk
  refine ⟨q, hq, Rat.le_trans hb ?_⟩
  have e : Fl.p2 28 = p8 * Fl.p2 22 := by
    have e1 : Fl.p2 28 = Fl.p2 6 * Fl.p2 22 := by rw [← p2_add]; rfl
    have e2 : Fl.p2 6 = 64 := by have := p2_nat 6; simpa using this
    rw [e1, e2]; rfl
  rw [← e]
  exact p2_mono (by omega)

/-- The grid's bits behind a step. -/
theorem gr_succ (h : Dens a b c dB) (hs : Shape a b c) (hN : mul3 a b c ≤ 48) {s : Nat} (hs' : In (gr a b c dB gB lvb s) (2 * mul3 a b c) (Fl.p2 22)) :
    gr a b c dB gB lvb (s + 1) = mapL a b c (impB (nth (wU a b c dB)) (nth (wavesL a b c (flipB (nth (gr a b c dB gB lvb s)) lvb (mul3 a b c) 0))) (mul3 a b c) 0) := by
  obtain ⟨m1, m2⟩ := h.m2 hs hN
  have := (hs.map m1 m2 (h.vIn hs (phases_in hs hs' lvb))).1.len
  exact upto_self this

theorem gr_in (h : Dens a b c dB) (hs : Shape a b c) (hN : mul3 a b c ≤ 48) (hg : ∀ t, t < mul3 a b c → ∃ q, val (gB t) = some q ∧ ab q ≤ 49) : ∀ s, In (gr a b c dB gB lvb s) (2 * mul3 a b c) (Fl.p2 22)
  | 0 => by
    have := reals_in (f := gB) (n := mul3 a b c) (M := 49) (by decide) hg
    exact this.mono (by rw [p2_22]; decide)
  | s + 1 => by
    have ih := gr_in h hs hN hg s
    obtain ⟨m1, m2⟩ := h.m2 hs hN
    rw [gr_succ h hs hN ih]
    refine ((hs.map m1 m2 (h.vIn hs (phases_in hs ih lvb))).1).mono ?_
    have := h.sMax hs hN
    rw [p2_22]
    unfold p3
    grind

/-- A bound that is told in parts of the whole. -/
theorem err_of {q z M : Rat} {t : Nat} (h : ab (q * U - U * z) ≤ (t : Rat) * M) : ab (q - z) ≤ (t : Rat) * Fl.p2 (-100) * M := by
  have e3 : q * U - U * z = (q - z) * U := by grind
  rw [e3, ab_mul, ab_of_nonneg (Rat.le_of_lt U_pos)] at h
  have g1 := Rat.mul_le_mul_of_nonneg_right h (Rat.le_of_lt (p2_pos (-100)))
  have e4 : ab (q - z) * U * Fl.p2 (-100) = ab (q - z) := by unfold U; rw [Rat.mul_assoc, p2_inv]; grind
  rw [e4] at g1
  grind

theorem shl_div (t : Nat) {r : Rat} {e : Int} (he : ((t : Nat) : Int) + -100 = e) (hr : Fl.p2 e = r) : ((Nat.shiftLeft 1 t : Nat) : Rat) * Fl.p2 (-100) = r := by
  rw [shl_cast t, ← p2_add, he, hr]

theorem eps0 : (0 : Rat) ≤ 1 / 2199023255552 := by grind
theorem eps1 : (1 / 2199023255552 : Rat) ≤ 1 / 100000 := by grind

theorem y_up {y P Q : Rat} (h : y * y ≤ (P * P + Q * Q) + 1 / 17592186044416 * (P * P + Q * Q)) (hP : 0 ≤ P * P) (hQ : 0 ≤ Q * Q) : y * y ≤ (1 + 1 / 2199023255552) * (P * P + Q * Q) := by grind

theorem y_low {y P Q : Rat} (h : P * P + Q * Q ≤ y * y + 1 / 17592186044416 * (P * P + Q * Q)) (hy : 0 ≤ y * y) : P * P + Q * Q ≤ (1 + 1 / 2199023255552) * (y * y) := by grind

theorem fin_up {y z S E : Rat} (h : y ≤ (1 + 1 / 2199023255552) * (z + 2829 / 2000 * E)) (hE : 1001 / 1000 * (1 / 68719476736 * S) = E) (hz : z ≤ S) (hS : 0 ≤ S) : y - z ≤ 15 / 8 * (1 / 68719476736 * S) := by grind

theorem fin_low {y z S E : Rat} (h : z ≤ (1 + 1 / 2199023255552) * (y + 2829 / 2000 * E)) (hE : 1001 / 1000 * (1 / 68719476736 * S) = E) (hz : z ≤ S) (hS : 0 ≤ S) (hy : y ≤ z) : z - y ≤ 15 / 8 * (1 / 68719476736 * S) := by grind

theorem tiny_low {y z S E T : Rat} (h : z ≤ (1 + 1 / 2199023255552) * (2 * T + 2829 / 2000 * E)) (hE : 1001 / 1000 * (1 / 68719476736 * S) = E) (hT : T ≤ 1 / 18446744073709551616) (hS : 505 / 1000 ≤ S) (hy : 0 ≤ y) : z - y ≤ 15 / 8 * (1 / 68719476736 * S) := by grind

theorem tiny_up {y z S T : Rat} (h : y ≤ 3 * T) (hT : T ≤ 1 / 18446744073709551616) (hS : 505 / 1000 ≤ S) (hz : 0 ≤ z) : y - z ≤ 15 / 8 * (1 / 68719476736 * S) := by grind

/-- What is known of the waves behind the search. -/
theorem now_names {X : Ctx} (h : Dens a b c dB) (hs : Shape a b c) (hN : mul3 a b c ≤ 48) (hg : ∀ t, t < mul3 a b c → ∃ q, val (gB t) = some q ∧ ab q ≤ 49) (hkk : kk ≤ 5) : NowFacts a b c (nowk kk) (lawX X h hs hN (nmF a b c dB gB lvb kk)) := by
  have hM : (lawX X h hs hN (nmF a b c dB gB lvb kk)).M = 4 * sz a b c dB := rfl
  have hvq : (lawX X h hs hN (nmF a b c dB gB lvb kk)).vq = vqF a b c dB := rfl
  have hk1 : ∃ s, nowk kk = s + 1 ∧ s ≤ 4 := by
    cases kk with
    | zero => exact ⟨0, rfl, by omega⟩
    | succ k => exact ⟨k, rfl, by omega⟩
  obtain ⟨s, hsk, hs4⟩ := hk1
  refine ⟨fun k hk => ?_, fun i hi => ?_⟩
  · show nmF a b c dB gB lvb kk (3000 + k) = nth (wavesL a b c (gridBits (nmF a b c dB gB lvb kk) (mul3 a b c) (nowk kk))) k
    rw [nm_n, nm_gr hN (by omega)]
  · show Fact _ _ (absB (nmF a b c dB gB lvb kk (3000 + 2 * i)) (nmF a b c dB gB lvb kk (3001 + 2 * i)))
    have e1 : 3001 + 2 * i = 3000 + (2 * i + 1) := by omega
    rw [e1, nm_n, nm_n, hsk]
    have ih := gr_in (lvb := lvb) h hs hN hg s
    rw [gr_succ h hs hN ih]
    have hph := phases_in hs ih lvb
    generalize hphg : nth (wavesL a b c (flipB (nth (gr a b c dB gB lvb s)) lvb (mul3 a b c) 0)) = ph at *
    obtain ⟨m1, m2⟩ := h.m2 hs hN
    have hV := h.vIn hs hph
    obtain ⟨r, t, C, D, k1, k2, k3, k4, k5, k6, _⟩ := h.imp hs hph hi
    obtain ⟨P, r', p1, p2, p3⟩ := (hs.map m1 m2 hV).2.2 (2 * i) (by omega)
    obtain ⟨Q, t', q1, q2, q3⟩ := (hs.map m1 m2 hV).2.2 (2 * i + 1) (by omega)
    rw [k1] at p2
    rw [k2] at q2
    simp only [Option.some.injEq] at p2 q2
    subst p2; subst q2
    have hz := h.z hs hi
    have hz0 := hz.2.1
    have hzs := h.zs hs hi
    have hs1 := h.sMin hs
    have hS := h.sMax hs hN
    have ht3 := tiny3
    have p3' := err_of p3
    have q3' := err_of q3
    have e37 : ((tolG : Nat) : Rat) * Fl.p2 (-100) = 1 / 137438953472 := shl_div 63 rfl (two_pow_neg 37)
    rw [e37] at p3' q3'
    generalize hS' : sz a b c dB = S at *
    generalize hz' : zq a b c dB i = z at *
    -- how far from what was asked for
    have hE1 : ab (P - C) ≤ 1001 / 1000 * (1 / 68719476736 * S) := by
      have g := ab_add (P - r) (r - C)
      have e2 : P - r + (r - C) = P - C := by grind
      rw [e2] at g
      grind
    have hE2 : ab (Q - D) ≤ 1001 / 1000 * (1 / 68719476736 * S) := by
      have g := ab_add (Q - t) (t - D)
      have e2 : Q - t + (t - D) = Q - D := by grind
      rw [e2] at g
      grind
    have hPb : ab P ≤ Fl.p2 900 := by
      obtain ⟨w, w1, w2⟩ := ((hs.waves (M := Fl.p2 22) (by rw [p2_22]; decide) (p2_mono (by omega)) (by
        have := (gr_in (lvb := lvb) h hs hN hg (s + 1))
        rw [gr_succ h hs hN ih] at this
        rw [hphg] at this
        exact this)).1).val (2 * i) (by omega)
      rw [p1] at w1
      simp only [Option.some.injEq] at w1
      subst w1
      refine Rat.le_trans w2 ?_
      have e : p8 * Fl.p2 22 ≤ Fl.p2 900 := by
        have e1 : Fl.p2 28 = Fl.p2 6 * Fl.p2 22 := by rw [← p2_add]; rfl
        have e2 : Fl.p2 6 = 64 := by have := p2_nat 6; simpa using this
        have e3 : p8 * Fl.p2 22 = Fl.p2 28 := by rw [e1, e2]; rfl
        rw [e3]; exact p2_mono (by omega)
      exact e
    have hQb : ab Q ≤ Fl.p2 900 := by
      obtain ⟨w, w1, w2⟩ := ((hs.waves (M := Fl.p2 22) (by rw [p2_22]; decide) (p2_mono (by omega)) (by
        have := (gr_in (lvb := lvb) h hs hN hg (s + 1))
        rw [gr_succ h hs hN ih] at this
        rw [hphg] at this
        exact this)).1).val (2 * i + 1) (by omega)
      rw [q1] at w1
      simp only [Option.some.injEq] at w1
      subst w1
      refine Rat.le_trans w2 ?_
      have e : p8 * Fl.p2 22 ≤ Fl.p2 900 := by
        have e1 : Fl.p2 28 = Fl.p2 6 * Fl.p2 22 := by rw [← p2_add]; rfl
        have e2 : Fl.p2 6 = 64 := by have := p2_nat 6; simpa using this
        have e3 : p8 * Fl.p2 22 = Fl.p2 28 := by rw [e1, e2]; rfl
        rw [e3]; exact p2_mono (by omega)
      exact e
    obtain ⟨y, y1, y0, y3, _, y5⟩ := absB_law p1 q1 Rat.le_refl hPb hQb
    have e44 : Fl.p2 (-44) = 1 / 17592186044416 := two_pow_neg 44
    rw [e44] at y5
    have t900 : Fl.p2 (-900) ≤ 1 / 18446744073709551616 := by
      have := two_pow_neg 64
      have e : Fl.p2 (-64) = 1 / 18446744073709551616 := this
      rw [← e]; exact p2_mono (by omega)
    have pos900 := p2_pos (-900)
    have hEn : 0 ≤ 1001 / 1000 * (1 / 68719476736 * S) := by grind
    generalize hEE : 1001 / 1000 * (1 / 68719476736 * S) = E at *
    have sqn : ∀ w : Rat, 0 ≤ w * w := fun w => by rw [sq_ab]; exact Rat.mul_nonneg (ab_nonneg _) (ab_nonneg _)
    have hup : y - z ≤ 15 / 8 * (1 / 68719476736 * S) := by
      by_cases hbig : Fl.p2 (-900) ≤ ab P ∨ Fl.p2 (-900) ≤ ab Q
      · obtain ⟨s1, _⟩ := y5 hbig
        exact fin_up (norm_up (e := 1 / 2199023255552) hE1 hE2 k5 (y_up s1 (sqn P) (sqn Q)) hz0 eps0 eps1) hEE hzs (by grind)
      · have h1 : ab P ≤ Fl.p2 (-900) := by
          by_cases hh : ab P ≤ Fl.p2 (-900)
          · exact hh
          · exact absurd (.inl (by grind)) hbig
        have h2 : ab Q ≤ Fl.p2 (-900) := by
          by_cases hh : ab Q ≤ Fl.p2 (-900)
          · exact hh
          · exact absurd (.inr (by grind)) hbig
        exact tiny_up (y3 _ h1 h2) t900 hs1 hz0
    have hlow : z - y ≤ 15 / 8 * (1 / 68719476736 * S) := by
      have hE1' : ab (C - P) ≤ E := by
        have : C - P = -(P - C) := by grind
        rw [this, ab_neg]; exact hE1
      have hE2' : ab (D - Q) ≤ E := by
        have : D - Q = -(Q - D) := by grind
        rw [this, ab_neg]; exact hE2
      by_cases hbig : Fl.p2 (-900) ≤ ab P ∨ Fl.p2 (-900) ≤ ab Q
      · obtain ⟨_, s2⟩ := y5 hbig
        by_cases hyz : y ≤ z
        · exact fin_low (norm_up (e := 1 / 2199023255552) hE1' hE2' (y_low s2 (sqn y)) k6 y0 eps0 eps1) hEE hzs (by grind) hyz
        · grind
      · have h1 : ab P ≤ Fl.p2 (-900) := by
          by_cases hh : ab P ≤ Fl.p2 (-900)
          · exact hh
          · exact absurd (.inl (by grind)) hbig
        have h2 : ab Q ≤ Fl.p2 (-900) := by
          by_cases hh : ab Q ≤ Fl.p2 (-900)
          · exact hh
          · exact absurd (.inr (by grind)) hbig
        have hPP : P * P ≤ Fl.p2 (-900) * Fl.p2 (-900) := by
          rw [sq_ab]
          have g1 := Rat.mul_le_mul_of_nonneg_right h1 (ab_nonneg P)
          have g2 := Rat.mul_le_mul_of_nonneg_left h1 (Rat.le_of_lt pos900)
          grind
        have hQQ : Q * Q ≤ Fl.p2 (-900) * Fl.p2 (-900) := by
          rw [sq_ab]
          have g1 := Rat.mul_le_mul_of_nonneg_right h2 (ab_nonneg Q)
          have g2 := Rat.mul_le_mul_of_nonneg_left h2 (Rat.le_of_lt pos900)
          grind
        have hnn := sqn (Fl.p2 (-900))
        exact tiny_low (norm_up (z := 2 * Fl.p2 (-900)) (e := 1 / 2199023255552) hE1' hE2' (by grind) k6 (by grind) eps0 eps1) hEE t900 hs1 y0
    have hab : ab (y - z) ≤ 15 / 8 * (1 / 68719476736 * S) := ab_le hup (by grind)
    -- the facts
    have p1' : val (absB (nth (wavesL a b c (mapL a b c (impB (nth (wU a b c dB)) ph (mul3 a b c) 0))) (2 * i)) (nth (wavesL a b c (mapL a b c (impB (nth (wU a b c dB)) ph (mul3 a b c) 0))) (2 * i + 1))) = some y := y1
    refine ⟨fun h => absurd rfl h, fun _ => rfl, Sv.nn_of p1', fun _ => nonneg_of p1' y0, fun b' hb => ?_, fun cs e h => ?_, fun h => absurd rfl h, fun h => absurd rfl h⟩
    · simp only [KN, Option.some.injEq] at hb
      subst hb
      refine ⟨y, p1', ?_⟩
      rw [ab_of_nonneg y0, hM, shl_cast 102]
      have e2 : Fl.p2 (102 : Nat) = 4 * U := by
        have e3 : Fl.p2 (102 : Nat) = 2 * Fl.p2 101 := half 102
        have e4 : Fl.p2 101 = 2 * Fl.p2 100 := half 101
        unfold U
        rw [e3, e4]; grind
      rw [e2]
      have g := Rat.mul_le_mul_of_nonneg_right (show y ≤ 16 * S by grind) (Rat.le_of_lt U_pos)
      grind
    · simp only [KN, Option.some.injEq, Prod.mk.injEq] at h
      obtain ⟨rfl, rfl⟩ := h
      refine ⟨y, p1', ?_⟩
      rw [lin_unit, hvq, vqF_z (by omega) (by omega), hM]
      have e1 : Nat.succ i - 1 = i := by omega
      rw [e1, hz']
      have e2 : y * U - U * z = (y - z) * U := by grind
      rw [e2, ab_mul, ab_of_nonneg (Rat.le_of_lt U_pos)]
      have e3 : ((Nat.mul 15 (Nat.shiftLeft 1 59) : Nat) : Rat) = 15 * Fl.p2 59 := by
        have e4 : ((Nat.mul 15 (Nat.shiftLeft 1 59) : Nat) : Rat) = ((15 : Nat) : Rat) * ((Nat.shiftLeft 1 59 : Nat) : Rat) := cast_mul _ _
        rw [e4, shl_cast 59]; rfl
      rw [e3]
      have e5 : Fl.p2 59 = 1 / 2199023255552 * U := by
        have e6 : Fl.p2 59 = Fl.p2 (-41) * Fl.p2 100 := by rw [← p2_add]; rfl
        have e7 : Fl.p2 (-41) = 1 / 2199023255552 := two_pow_neg 41
        rw [e6, e7]; rfl
      rw [e5]
      have g := Rat.mul_le_mul_of_nonneg_right hab (Rat.le_of_lt U_pos)
      grind

/-- The waves of the density with their own phases: they themselves, nearly. -/
theorem Dens.own (h : Dens a b c dB) (hs : Shape a b c) : ∀ k, k < 2 * mul3 a b c → ∃ p q, val (nth (wL a b c dB) k) = some p ∧ val (nth (impB (nth (wU a b c dB)) (nth (wL a b c dB)) (mul3 a b c) 0) k) = some q ∧ ab (q - p) ≤ 1 / 70368744177664 * sz a b c dB := fun k hk => by
  have hph : ∀ k, k < 2 * mul3 a b c → ∃ q, val (nth (wL a b c dB) k) = some q ∧ ab q ≤ Fl.p2 40 := fun k hk => by
    obtain ⟨q, hq, hb⟩ := (h.wIn hs).val k hk
    refine ⟨q, hq, Rat.le_trans hb ?_⟩
    have h1 : Fl.p2 12 ≤ Fl.p2 40 := p2_mono (by omega)
    have h2 : Fl.p2 12 = 4096 := by have := p2_nat 12; simpa using this
    rw [h2] at h1; grind
  have hm : k = 2 * (k / 2) + k % 2 := (Nat.div_add_mod k 2).symm
  have hi : k / 2 < mul3 a b c := by omega
  generalize k / 2 = i at *
  obtain ⟨r, t, C, D, k1, k2, k3, k4, k5, _, k7⟩ := h.imp hs hph hi
  obtain ⟨hz, hz0, _, A, B, hA, hB, _, _, hA1, hB1⟩ := h.z hs hi
  have hzs := h.zs hs hi
  have hs1 := h.sMin hs
  have ht3 : Fl.p2 (-1000) ≤ 1 / 1152921504606846976 := by
    have := two_pow_neg 60
    have e : Fl.p2 (-60) = 1 / 1152921504606846976 := this
    rw [← e]; exact p2_mono (by omega)
  have t900 : Fl.p2 (-900) ≤ 1 / 1152921504606846976 := by
    have := two_pow_neg 60
    have e : Fl.p2 (-60) = 1 / 1152921504606846976 := this
    rw [← e]; exact p2_mono (by omega)
  have key : ab (r - A) ≤ 1 / 70368744177664 * sz a b c dB ∧ ab (t - B) ≤ 1 / 70368744177664 * sz a b c dB := by
    by_cases hbig : Fl.p2 (-900) ≤ ab A ∨ Fl.p2 (-900) ≤ ab B
    · obtain ⟨g1, g2⟩ := k7 A B A B hA hB hA hB hbig rfl rfl
      generalize sz a b c dB = S at *
      generalize zq a b c dB i = z at *
      constructor
      · have g := ab_add (r - C) (C - A)
        have e : r - C + (C - A) = r - A := by grind
        rw [e] at g
        grind
      · have g := ab_add (t - D) (D - B)
        have e : t - D + (D - B) = t - B := by grind
        rw [e] at g
        grind
    · have h1 : ab A ≤ Fl.p2 (-900) := by
        by_cases hh : ab A ≤ Fl.p2 (-900)
        · exact hh
        · exact absurd (.inl (by grind)) hbig
      have h2 : ab B ≤ Fl.p2 (-900) := by
        by_cases hh : ab B ≤ Fl.p2 (-900)
        · exact hh
        · exact absurd (.inr (by grind)) hbig
      have hTT : (Fl.p2 (-900)) ≤ Fl.p2 900 := p2_mono (by omega)
      obtain ⟨z', y1, _, y3, _⟩ := absB_law hA hB hTT h1 h2
      rw [hz] at y1
      simp only [Option.some.injEq] at y1
      subst y1
      have hzt := y3 _ h1 h2
      have hC : ab C ≤ 101 / 100 * zq a b c dB i := by
        refine sq_le (by grind) ?_
        rw [sq_ab C] at k5
        have := Rat.mul_nonneg (ab_nonneg D) (ab_nonneg D)
        rw [← sq_ab] at this
        have := Rat.mul_nonneg hz0 hz0
        grind
      have hD : ab D ≤ 101 / 100 * zq a b c dB i := by
        refine sq_le (by grind) ?_
        rw [sq_ab D] at k5
        have := Rat.mul_nonneg (ab_nonneg C) (ab_nonneg C)
        rw [← sq_ab] at this
        have := Rat.mul_nonneg hz0 hz0
        grind
      generalize sz a b c dB = S at *
      generalize zq a b c dB i = z at *
      constructor
      · have g := ab_add (r - C) (C + -A)
        have g' := ab_add C (-A)
        rw [ab_neg] at g'
        have e : r - C + (C + -A) = r - A := by grind
        rw [e] at g
        grind
      · have g := ab_add (t - D) (D + -B)
        have g' := ab_add D (-B)
        rw [ab_neg] at g'
        have e : t - D + (D + -B) = t - B := by grind
        rw [e] at g
        grind
  have hmod : k % 2 = 0 ∨ k % 2 = 1 := by omega
  rcases hmod with e | e
  · rw [e, Nat.add_zero] at hm
    rw [hm]
    exact ⟨A, r, hA, k1, key.1⟩
  · rw [e] at hm
    rw [hm]
    exact ⟨B, t, hB, k2, key.2⟩

/-- What is known of a step from the density itself. -/
theorem stay_names {X : Ctx} (h : Dens a b c dB) (hs : Shape a b c) (hN : mul3 a b c ≤ 48) : StayFacts a b c (lawX X h hs hN (nmF a b c dB gB lvb kk)) := by
  have hM : (lawX X h hs hN (nmF a b c dB gB lvb kk)).M = 4 * sz a b c dB := rfl
  have hvq : (lawX X h hs hN (nmF a b c dB gB lvb kk)).vq = vqF a b c dB := rfl
  have hs1 := h.sMin hs
  have hS := h.sMax hs hN
  have hst : stayL a b c (nth (upto (fun k => (lawX X h hs hN (nmF a b c dB gB lvb kk)).nm (1 + k)) (mul3 a b c) 0)) (fun j => (lawX X h hs hN (nmF a b c dB gB lvb kk)).nm (200 + j)) = mapL a b c (impB (nth (wU a b c dB)) (nth (wL a b c dB)) (mul3 a b c) 0) := by
    show stayL a b c (nth (upto (fun k => nmF a b c dB gB lvb kk (1 + k)) (mul3 a b c) 0)) (fun j => nmF a b c dB gB lvb kk (200 + j)) = _
    unfold stayL
    rw [nm_wU hN, nm_dL hN]
    rfl
  have hin : In (dL a b c dB) (2 * mul3 a b c) (12 / 5 * sz a b c dB) := reals_in (by grind) (fun t ht => ⟨xq dB t, (h.x ht).1, by have := h.xs hs ht; grind⟩)
  have c1 : 1 ≤ 12 / 5 * sz a b c dB := by grind
  have c2 : 12 / 5 * sz a b c dB ≤ Fl.p2 50 := by
    have h2 := h.M2 hs hN
    have h3 : Fl.p2 20 ≤ Fl.p2 50 := p2_mono (by omega)
    grind
  have e58 : ((bumpE : Nat) : Rat) = 1 / 4398046511104 * U := by
    have e1 : ((bumpE : Nat) : Rat) = Fl.p2 58 := shl_cast 58
    have e2 : Fl.p2 58 = Fl.p2 (-42) * Fl.p2 100 := by rw [← p2_add]; rfl
    have e3 : Fl.p2 (-42) = 1 / 4398046511104 := two_pow_neg 42
    rw [e1, e2, e3]; rfl
  have key := (hs.waves c1 c2 hin).2 _ (impB_length (nth (wU a b c dB)) (nth (wL a b c dB)) (mul3 a b c) 0) (fun k hk => by
    obtain ⟨p, q, hp, hq, hpq⟩ := h.own hs k hk
    refine ⟨p, q, hp, hq, ?_⟩
    have e : q * U - p * U = (q - p) * U := by grind
    rw [e, ab_mul, ab_of_nonneg (Rat.le_of_lt U_pos), e58]
    have g := Rat.mul_le_mul_of_nonneg_right (show ab (q - p) ≤ 1 / 4398046511104 * (12 / 5 * sz a b c dB) by grind) (Rat.le_of_lt U_pos)
    grind)
  have e62 : ((tolU : Nat) : Rat) * Fl.p2 (-100) = 1 / 274877906944 := shl_div 62 rfl (two_pow_neg 38)
  have e59 : ((Nat.mul 5 (Nat.shiftLeft 1 59) : Nat) : Rat) = 5 / 2199023255552 * U := by
    have e4 : ((Nat.mul 5 (Nat.shiftLeft 1 59) : Nat) : Rat) = ((5 : Nat) : Rat) * ((Nat.shiftLeft 1 59 : Nat) : Rat) := cast_mul _ _
    have e6 : Fl.p2 59 = Fl.p2 (-41) * Fl.p2 100 := by rw [← p2_add]; rfl
    have e7 : Fl.p2 (-41) = 1 / 2199023255552 := two_pow_neg 41
    rw [e4, shl_cast 59]
    have e8 : Fl.p2 (59 : Nat) = Fl.p2 59 := rfl
    rw [e8, e6, e7]
    unfold U
    have e9 : ((5 : Nat) : Rat) = 5 := rfl
    rw [e9]; grind
  have e102 : ((Nat.shiftLeft 1 102 : Nat) : Rat) = 4 * U := by
    rw [shl_cast 102]
    have e3 : Fl.p2 (102 : Nat) = 2 * Fl.p2 101 := half 102
    have e4 : Fl.p2 101 = 2 * Fl.p2 100 := half 101
    unfold U
    rw [e3, e4]; grind
  refine ⟨fun j hj => ?_, fun j hj => ?_⟩
  · rw [hst]
    obtain ⟨q, z, hq, hz, hqz⟩ := key (2 * j) (by omega)
    have e1 := (reals_nth dB (mul3 a b c) 0 j hj).1
    rw [Nat.zero_add] at e1
    have e2 : nth (dL a b c dB) (2 * j) = dB j := e1
    rw [e2] at hz
    have hzx : xq dB j = z := valq_of hz
    subst hzx
    have hxs := h.xs hs hj
    have he := err_of hqz
    rw [e62] at he
    refine ⟨fun h => absurd rfl h, fun _ => rfl, Sv.nn_of hq, fun h => (by cases h), fun b' hb => ?_, fun cs e h => ?_, fun h => absurd rfl h, fun h => absurd rfl h⟩
    · simp only [KSr, Option.some.injEq] at hb
      subst hb
      refine ⟨q, hq, ?_⟩
      rw [hM, e102]
      have g := ab_add (q - xq dB j) (xq dB j)
      have e3 : q - xq dB j + xq dB j = q := by grind
      rw [e3] at g
      have g2 := Rat.mul_le_mul_of_nonneg_right (show ab q ≤ 4 * (4 * sz a b c dB) by grind) (Rat.le_of_lt U_pos)
      grind
    · simp only [KSr, Option.some.injEq, Prod.mk.injEq] at h
      obtain ⟨rfl, rfl⟩ := h
      refine ⟨q, hq, ?_⟩
      have e1 : Nat.succ (Nat.add (mul3 a b c) j) = mul3 a b c + 1 + j := by show mul3 a b c + j + 1 = _; omega
      rw [lin_unit, hvq, e1, vqF_x hj, hM, e59]
      have e2 : q * U - U * xq dB j = (q - xq dB j) * U := by grind
      rw [e2, ab_mul, ab_of_nonneg (Rat.le_of_lt U_pos)]
      have g2 := Rat.mul_le_mul_of_nonneg_right (show ab (q - xq dB j) ≤ 5 / 2199023255552 * (4 * sz a b c dB) by grind) (Rat.le_of_lt U_pos)
      grind
  · rw [hst]
    obtain ⟨q, z, hq, hz, hqz⟩ := key (2 * j + 1) (by omega)
    have e2 : nth (dL a b c dB) (2 * j + 1) = 0 := (reals_nth dB (mul3 a b c) 0 j hj).2
    rw [e2, val_zero] at hz
    simp only [Option.some.injEq] at hz
    subst hz
    have he := err_of hqz
    rw [e62] at he
    have e3 : q - 0 = q := by grind
    rw [e3] at he
    refine ⟨fun h => absurd rfl h, fun _ => rfl, Sv.nn_of hq, fun h => (by cases h), fun b' hb => ?_, fun cs e h => ?_, fun h => absurd rfl h, fun h => absurd rfl h⟩
    · simp only [KSi, Option.some.injEq] at hb
      subst hb
      refine ⟨q, hq, ?_⟩
      rw [hM, e102]
      have g2 := Rat.mul_le_mul_of_nonneg_right (show ab q ≤ 4 * (4 * sz a b c dB) by grind) (Rat.le_of_lt U_pos)
      grind
    · simp only [KSi, Option.some.injEq, Prod.mk.injEq] at h
      obtain ⟨rfl, rfl⟩ := h
      refine ⟨q, hq, ?_⟩
      have e4 : q * U - lin (lawX X (by assumption) hs hN (nmF a b c dB gB lvb kk)).vq [] 0 = q * U := by simp only [lin]; grind
      rw [e4, hM, e59, ab_mul, ab_of_nonneg (Rat.le_of_lt U_pos)]
      have g2 := Rat.mul_le_mul_of_nonneg_right (show ab q ≤ 5 / 2199023255552 * (4 * sz a b c dB) by grind) (Rat.le_of_lt U_pos)
      grind

end

end Go.Sv.C
