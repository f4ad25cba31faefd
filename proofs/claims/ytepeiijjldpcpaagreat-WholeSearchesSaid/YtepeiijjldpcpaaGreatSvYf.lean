/- Rows of Waves, Map and of lists of waves. No conditions.
-/
import Derived.Test.YtepeiijjldpcpaaGreatSvYa
set_option linter.all false
namespace Go.Sv.C
open Go.Sv Go.Proofs Go.Fl
section
variable [gi : GoodC]

/-- So many times the same. -/
def repF (K : Fm) : Nat → List Fm
  | 0 => []
  | n + 1 => K :: repF K n

def outBd (s mb : Nat) : Nat := Nat.shiftLeft (Nat.add mb (Nat.shiftLeft 1 100)) s
def outK (s mb np : Nat) : Fm := { id := 0, np := np, pos := false, bd := some (outBd s mb), fm := none }

def isCorners (is : List AC) (a b c : Nat) : Bool :=
  match sameInts is (corners a b c) with
  | some b => b
  | none => false

/-- Numbers that are known: their bits and facts, a bound, of how many parts they speak. -/
def knownN (lo : Nat) (cs : List AC) : Option (List Pr × Nat × Nat) :=
  bif anyS cs then
    match inOf cs with
    | some ps =>
      match maxBd ps with
      | some mb => bif Nat.ble mb (Nat.shiftLeft 1 129) && Nat.ble lo (maxNp ps) then some (ps, mb, maxNp ps) else none
      | none => none
    | none => none
  else none

noncomputable def rowWavesG (lo a b c : Nat) (args : List AV) (H : AH) : Option (AT × AH) :=
  match args with
  | [.agg [.int .i64 (.ofNat a'), .int .i64 (.ofNat b'), .int .i64 (.ofNat c'), g], .c hs] =>
    bif Nat.beq a' a && Nat.beq b' b && Nat.beq c' c then
      match cellsU H 1 (mul3 a b c) g, cellsU H 3 (mul3 a b c) hs with
      | some (bg, cs), some (bh, is) =>
        bif isCorners is a b c && !Nat.beq bg bh then
          match knownN lo cs with
          | some (ps, mb, np) =>
            fzM (outK 6 mb np) fun K => fzL (wavesS is (gridS (nth (wavesL a b c (fsts ps))) (repF K (Nat.mul 2 (mul3 a b c))) 0)) fun outs =>
              some (.tup [.c (.osl H.n (mul3 a b c) 4), .c (.int .i64 (.ofNat 0))], H.new (.cells outs false))
          | none => none
        else none
      | _, _ => none
    else none
  | _ => none

noncomputable def rowWaves (a b c : Nat) (args : List AV) (H : AH) : Option (AT × AH) := rowWavesG 2 a b c args H

noncomputable def rowMap (a b c : Nat) (args : List AV) (H : AH) : Option (AT × AH) :=
  match args with
  | [.c l, .agg [.int .i64 (.ofNat a'), .int .i64 (.ofNat b'), .int .i64 (.ofNat c')]] =>
    bif Nat.beq a' a && Nat.beq b' b && Nat.beq c' c then
      match cellsU H 4 (mul3 a b c) l with
      | some (bl, xs) =>
        match splitW xs with
        | some (is, cs) =>
          bif isCorners is a b c then
            match knownN 2 cs with
            | some (ps, mb, np) =>
              fzM (outK 3 mb np) fun K => fzL (gridS (nth (mapL a b c (fsts ps))) (repF K (Nat.mul 2 (mul3 a b c))) 0) fun outs =>
                some (.tup [.agg (sideL a b c ++ [.sl H.n 0 (mul3 a b c) (some (mul3 a b c))]), .c (.int .i64 (.ofNat 0))], H.new (.cells outs true))
            | none => none
          else none
        | none => none
      | none => none
    else none
  | _ => none

end

theorem isCorners_eq {is : List AC} {a b c : Nat} (h : isCorners is a b c = true) : is = corners a b c := by
  unfold isCorners at h
  split at h
  · rename_i bb hb
    subst h
    exact sameInts_eq hb
  · cases h

section
variable [gi : GoodC]

end

theorem known_ok {cs : List AC} {ps : List Pr} {lo mb np : Nat} (h : knownN lo cs = some (ps, mb, np)) : inOf cs = some ps ∧ maxBd ps = some mb ∧ mb ≤ Nat.shiftLeft 1 129 ∧ np = maxNp ps ∧ lo ≤ np := by
  unfold knownN at h
  cases ha : anyS cs
  · rw [ha] at h; cases h
  rw [ha, cond_true] at h
  split at h
  case h_2 => cases h
  rename_i ps' hps
  split at h
  case h_2 => cases h
  rename_i mb' hmb
  cases hb : Nat.ble mb' (Nat.shiftLeft 1 129) && Nat.ble lo (maxNp ps')
  · rw [hb] at h; cases h
  rw [hb, cond_true] at h
  simp only [Option.some.injEq, Prod.mk.injEq] at h
  obtain ⟨rfl, rfl, rfl⟩ := h
  simp only [Bool.and_eq_true] at hb
  exact ⟨hps, hmb, Nat.le_of_ble_eq_true hb.1, rfl, Nat.le_of_ble_eq_true hb.2⟩

section
variable [gi : GoodC]

end

theorem repF_length (K : Fm) : ∀ n, (repF K n).length = n
  | 0 => rfl
  | n + 1 => by simp [repF, repF_length K n]

section
variable [gi : GoodC]

end

theorem repF_get (K : Fm) : ∀ (n k : Nat) (F : Fm), (repF K n)[k]? = some F → F = K ∧ k < n
  | 0, k, F, h => by simp [repF] at h
  | n + 1, 0, F, h => by simp [repF] at h; exact ⟨h.symm, Nat.succ_pos n⟩
  | n + 1, k + 1, F, h => by obtain ⟨h1, h2⟩ := repF_get K n k F (by simpa [repF] using h); exact ⟨h1, by omega⟩

section
variable [gi : GoodC]

/-- The values are the bits. -/
theorem inOf_vals {ρ : Rho} {u : Nat → Nat} : ∀ {cs : List AC} {ps : List Pr} {pre : List Value} (i : Nat), inOf cs = some ps → RCs ρ cs pre → (∀ k p, ps[k]? = some p → u (i + k) = p.1) → pre = cpxV u cs.length i
  | [], ps, pre, i, h, hr, _ => by cases hr; rfl
  | x :: r, ps, pre, i, h, hr, hk => by
    cases x <;> simp only [inOf] at h <;> first | (cases h; done) | skip
    split at h
    · rename_i a b ps' h1 h2 h3
      simp only [Option.some.injEq] at h
      subst h
      cases hr with
      | cons g0 g1 =>
        obtain ⟨n, m, hn, hm, rfl⟩ := g0
        obtain ⟨ea, _⟩ := toS_ok (k := a.1) (F := a.2) hn h1
        obtain ⟨eb, _⟩ := toS_ok (k := b.1) (F := b.2) hm h2
        have ka := hk 0 a rfl
        have kb := hk 1 b rfl
        rw [Nat.add_zero] at ka
        rw [inOf_vals (i + 2) h3 g1 (fun k p hp => by
          have := hk (k + 2) p (by simpa using hp)
          rw [← this]
          exact congrArg u (by omega))]
        simp only [List.length_cons, cpxV, ka, kb, ea, eb]
    · cases h

theorem fmL_vals {ρ : Rho} {u : Nat → Nat} : ∀ {xs : List AC} {l : List Fm} {ps : List Value} (i : Nat), fmL xs = some l → RCs ρ xs ps → (∀ k n, (bitsOf xs)[k]? = some n → u (i + k) = n) → ps = cpxV u xs.length i
  | [], l, ps, i, h, hr, _ => by cases hr; rfl
  | x :: r, l, ps, i, h, hr, hu => by
    unfold fmL at h
    split at h
    · rename_i hnil; cases hnil
    rotate_left
    · cases h
    rename_i n F m G r' hx
    obtain ⟨rfl, rfl⟩ : x = _ ∧ r = r' := by simpa using hx
    split at h
    · rename_i l' h'
      cases hr with
      | cons a0 hr =>
        obtain ⟨n', m', ⟨e1, f1⟩, ⟨e2, f2⟩, rfl⟩ := a0
        subst e1; subst e2
        have k0 := hu 0 n' rfl
        have k1 := hu 1 m' rfl
        rw [Nat.add_zero] at k0
        rw [fmL_vals (i + 2) h' hr (fun k x hk => by
          have := hu (k + 2) x (by simpa [bitsOf] using hk)
          rw [← this]
          exact congrArg u (by omega))]
        simp only [List.length_cons, cpxV, k0, k1]
    · cases h

/-- A bound of the numbers that came in, as the numbers' own. -/
theorem in_within {X : Ctx} {ps : List Pr} {mb n : Nat} (hps : ∀ p ∈ ps, Fact X p.2 p.1) (hmb : maxBd ps = some mb) (hn : ps.length = n) : In (fsts ps) n ((mb : Rat) * Fl.p2 (-100) * X.M + 1) := by
  refine ⟨by rw [fsts_map]; simp [hn], fun k hk => ?_⟩
  have hk' : k < ps.length := by omega
  have hm : ps[k] ∈ ps := by simp
  obtain ⟨b, h1, h2⟩ := maxBd_ok hmb _ hm
  obtain ⟨q, h3, h4⟩ := (hps _ hm).bd b h1
  rw [fsts_get (p := ps[k]) (by simp)]
  refine ⟨q, h3, ?_⟩
  have h5 := Rat.mul_le_mul_of_nonneg_right (cast_le h2) (M0 X)
  have h6 := Rat.mul_le_mul_of_nonneg_right (Rat.le_trans h4 h5) (Rat.le_of_lt (p2_pos (-100)))
  have e1 : ab q * U * Fl.p2 (-100) = ab q := by
    unfold U
    rw [Rat.mul_assoc, p2_inv]
    grind
  rw [e1] at h6
  grind

end

theorem m0_bounds {X : Ctx} (hX : X.M ≤ Fl.p2 20) {mb : Nat} (h : mb ≤ Nat.shiftLeft 1 129) : 1 ≤ (mb : Rat) * Fl.p2 (-100) * X.M + 1 ∧ (mb : Rat) * Fl.p2 (-100) * X.M + 1 ≤ Fl.p2 50 := by
  have h0 := Rat.mul_nonneg (Rat.mul_nonneg (cast_nonneg mb) (Rat.le_of_lt (p2_pos (-100)))) (M0 X)
  refine ⟨by grind, ?_⟩
  have h1 := cast_le h
  rw [shl_cast 129] at h1
  have h2 := Rat.mul_le_mul_of_nonneg_right h1 (Rat.le_of_lt (p2_pos (-100)))
  have e2 : Fl.p2 (129 : Nat) * Fl.p2 (-100) = Fl.p2 29 := by rw [← p2_add]; rfl
  rw [e2] at h2
  have h3 := Rat.mul_le_mul_of_nonneg_right h2 (M0 X)
  have h4 := Rat.mul_le_mul_of_nonneg_left hX (Rat.le_of_lt (p2_pos 29))
  have e4 : Fl.p2 29 * Fl.p2 20 = Fl.p2 49 := by rw [← p2_add]; rfl
  rw [e4] at h4
  have e5 : Fl.p2 50 = 2 * Fl.p2 49 := half 50
  have h6 : Fl.p2 0 ≤ Fl.p2 49 := p2_mono (by omega)
  rw [p2_zero] at h6
  grind

section
variable [gi : GoodC]

end

/-- The facts of what is answered. -/
theorem outK_fact {X : Ctx} {n mb np s : Nat} {q r : Rat} (hr : ((2 ^ s : Nat) : Rat) = r) (hq : val n = some q) (hb : ab q ≤ r * ((mb : Rat) * Fl.p2 (-100) * X.M + 1)) (hnp : np ≠ 0 → np = X.np) : Fact X (outK s mb np) n := by
  refine ⟨fun h => absurd rfl h, fun h => hnp h, Sv.nn_of hq, fun h => (by cases h), fun b hb' => ?_, fun cs e h => (by cases h), fun h => absurd rfl h, fun h => absurd rfl h⟩
  simp only [outK, Option.some.injEq] at hb'
  subst hb'
  refine ⟨q, hq, ?_⟩
  have hr0 : 0 ≤ r := by rw [← hr]; exact cast_nonneg _
  have e : ((outBd s mb : Nat) : Rat) = ((mb : Rat) + U) * r := by
    unfold outBd
    have e1 : ∀ x : Nat, Nat.shiftLeft x s = x * 2 ^ s := fun x => by
      have : Nat.shiftLeft x s = x <<< s := rfl
      rw [this, Nat.shiftLeft_eq]
    rw [e1, cast_mul, hr]
    have e2 : ((Nat.add mb (Nat.shiftLeft 1 100) : Nat) : Rat) = (mb : Rat) + ((Nat.shiftLeft 1 100 : Nat) : Rat) := cast_add _ _
    have e3 : ((Nat.shiftLeft 1 100 : Nat) : Rat) = U := shl_cast 100
    rw [e2, e3]
  rw [e]
  have h1 := Rat.mul_le_mul_of_nonneg_right hb (Rat.le_of_lt U_pos)
  have e1 : (mb : Rat) * Fl.p2 (-100) * X.M * U = (mb : Rat) * X.M := by
    have : Fl.p2 (-100) * U = 1 := by unfold U; rw [Rat.mul_comm]; exact p2_inv 100
    have e2 : (mb : Rat) * Fl.p2 (-100) * X.M * U = (mb : Rat) * X.M * (Fl.p2 (-100) * U) := by grind
    rw [e2, this]; grind
  have h2 := Rat.mul_le_mul_of_nonneg_left X.M1 (Rat.le_of_lt U_pos)
  have e2 : r * ((mb : Rat) * Fl.p2 (-100) * X.M + 1) * U = r * ((mb : Rat) * Fl.p2 (-100) * X.M * U + U) := by grind
  rw [e2, e1] at h1
  have h3 : (mb : Rat) * X.M + U ≤ ((mb : Rat) + U) * X.M := by grind
  have h4 := Rat.mul_le_mul_of_nonneg_left h3 hr0
  grind

section
variable [gi : GoodC]

/-- Waves, taken apart. -/
theorem splitW_parts {ρ : Rho} : ∀ {xs is cs : List AC} {pre : List Value}, splitW xs = some (is, cs) → RCs ρ xs pre → ∃ pi pc, pre = wavesV pi pc ∧ RCs ρ is pi ∧ RCs ρ cs pc
  | [], is, cs, pre, h, hr => by
    simp only [splitW, Option.some.injEq, Prod.mk.injEq] at h
    obtain ⟨rfl, rfl⟩ := h
    cases hr
    exact ⟨[], [], rfl, .nil, .nil⟩
  | [_], _, _, _, h, _ => by simp [splitW] at h
  | [_, _], _, _, _, h, _ => by simp [splitW] at h
  | [_, _, _], _, _, _, h, _ => by simp [splitW] at h
  | x :: y :: z :: c :: r, is, cs, pre, h, hr => by
    simp only [splitW] at h
    split at h
    · rename_i is' cs' h'
      simp only [Option.some.injEq, Prod.mk.injEq] at h
      obtain ⟨rfl, rfl⟩ := h
      cases hr with
      | cons a0 hr => cases hr with
        | cons a1 hr => cases hr with
          | cons a2 hr => cases hr with
            | cons a3 hr =>
              obtain ⟨pi, pc, rfl, h2, h3⟩ := splitW_parts h' hr
              exact ⟨_ :: _ :: _ :: pi, _ :: pc, rfl, .cons a0 (.cons a1 (.cons a2 h2)), .cons a3 h3⟩
    · cases h

end

theorem allInt_ints : ∀ {is : List AC}, allInt is = true → intCs is = true
  | [], _ => rfl
  | x :: r, h => by
    cases x <;> simp only [allInt] at h <;> first | (cases h; done) | skip
    simp only [intCs, intC, Bool.true_and]
    exact allInt_ints h

section
variable [gi : GoodC]

end

theorem corners_rel {gi gj : GoodC} {ρ : @Rho gi} {ρ' : @Rho gj} {a b c : Nat} {vs : List Value} (h : RCs (gi := gi) ρ (corners a b c) vs) : RCs (gi := gj) ρ' (corners a b c) vs := ints_relCs (i := gi) (j := gj) h (allInt_ints (corners_int a b c))

section
variable [gi : GoodC]

end

theorem nth_list (l : List Nat) : ∀ k n, l[k]? = some n → nth l (0 + k) = n := fun k n h => by rw [Nat.zero_add]; exact nth_get l k n h

section
variable [gi : GoodC]

theorem rowWavesG_ok {lo a b c : Nat} (hlo : 2 ≤ lo ∨ ∀ X, GoodC.G X → X.M ≤ Fl.p2 20) (hs : Shape a b c) (args : List AV) (H : AH) (r : AT) (H' : AH) (h : rowWavesG lo a b c args H = some (r, H')) : RowOK Tryz.prog 11 args H r H' := by
  unfold rowWavesG at h
  split at h
  case h_2 => cases h
  rename_i a' b' c' g hsl
  cases hb1 : Nat.beq a' a && Nat.beq b' b && Nat.beq c' c
  · rw [hb1] at h; cases h
  rw [hb1, cond_true] at h
  simp only [Bool.and_eq_true] at hb1
  have ea := Nat.eq_of_beq_eq_true hb1.1.1
  have eb := Nat.eq_of_beq_eq_true hb1.1.2
  have ec := Nat.eq_of_beq_eq_true hb1.2
  have ea := ea.symm
  have eb := eb.symm
  have ec := ec.symm
  subst ea; subst eb; subst ec
  split at h
  case h_2 => cases h
  rename_i bg cs bh is hg hh
  cases hb2 : isCorners is a b c && !Nat.beq bg bh
  · rw [hb2] at h; cases h
  rw [hb2, cond_true] at h
  simp only [Bool.and_eq_true] at hb2
  have hic := isCorners_eq hb2.1
  subst hic
  split at h
  case h_2 => cases h
  rename_i ps mb np hkn
  rw [fzM_eq, fzL_eq] at h
  simp only [Option.some.injEq, Prod.mk.injEq] at h
  obtain ⟨rfl, rfl⟩ := h
  obtain ⟨hps, hmb, hmb3, rfl, hnp2⟩ := known_ok hkn
  obtain ⟨⟨fg, hbg⟩, hlg, hvg⟩ := cellsU_ok (gi := gi) hg
  obtain ⟨⟨fh, hbh⟩, hlh, hvh⟩ := cellsU_ok (gi := gi) hh
  refine small_row' (gi := gi) (gj := triv) (run_ok (gi := triv) (ovG_ok (gi := triv)) 1000) (has_body (q := q11) (by kernel_rfl)) fun ρ w vs hH hargs => ?_
  cases hargs with
  | cons g0 g1 =>
  cases g1 with
  | cons g1 g2 =>
  cases g2
  obtain ⟨av, rfl, hav⟩ := g0
  cases hav with
  | cons a0 hav => cases hav with
  | cons a1 hav => cases hav with
  | cons a2 hav => cases hav with
  | cons a3 hav =>
  cases hav
  obtain ⟨cg, mg, kg, r1, rfl, r3⟩ := hvg _ a3
  obtain ⟨ch, mh, kh, t1, rfl, t3⟩ := hvh _ g1
  -- the numbers
  obtain ⟨cc, m1, obj, o1, o2, arr, ty, pre, rest, o3, o4, o5, o6, o7⟩ := hH.blk bg _ hbg
  have hfact := inOf_fact hps o6
  have hcl : cs.length = mul3 a b c := by rw [hlg, Nat.mul_one]
  have hpl : ps.length = 2 * mul3 a b c := by rw [inOf_len hps, hcl]
  have hnpX := fun h => maxNp_ok hfact h
  have hM20 : ρ.X.M ≤ Fl.p2 20 := by
    rcases hlo with h | h
    · exact ρ.X.M4 (by have := hnpX (by omega); omega)
    · exact h ρ.X ρ.ok
  have hin := in_within hfact hmb hpl
  obtain ⟨q1, q2⟩ := m0_bounds (X := ρ.X) hM20 hmb3
  generalize hM : (mb : Rat) * Fl.p2 (-100) * ρ.X.M + 1 = M at *
  have q2' : M ≤ Fl.p2 60 := Rat.le_trans q2 (p2_mono (by omega))
  have hb := hin.all (by grind : 0 ≤ M)
  obtain ⟨xs, lx, x1, x2, _⟩ := andF_ok (hs.f (nth (fsts ps)) (nth []))
  obtain ⟨hW, _⟩ := hs.waves q1 q2 hin
  obtain ⟨b2, H2, ys, is2, y1, y2, y3, y4, y5⟩ := wavesOut_spec x1
  rw [wavesRun_eq] at y1
  let X0 := atomX ρ.X (fsts ps) M q1 q2' hb
  have hunits : ∀ k F, (unitsL (Nat.mul 2 (mul3 a b c)) 0)[k]? = some F → Fact X0 F (nth (fsts ps) k) := fun k F hk => by
    obtain ⟨rfl, hk'⟩ := unitsL_get _ _ _ _ hk
    rw [Nat.zero_add]
    obtain ⟨q, h, _⟩ := hin.val k hk'
    exact unit_fact k h
  let ρ0 : @Rho triv := sub' triv ρ X0 trivial [bg, bh]
  have hne : Nat.beq bg bh = false := by simpa using hb2.2
  have hH0 : RH (gi := triv) ρ0 (heapL [.cells (gridS (nth (fsts ps)) (unitsL (Nat.mul 2 (mul3 a b c)) 0) 0) false, .cells (corners a b c) false]) w := by
    refine small_rh' (gj := triv) hH X0 trivial rfl [bg, bh] _ ?_ (.cons ⟨_, hbg, fun m obj ho => cells_seen (gj := triv) (fun vs hv => ?_) m obj ho⟩ (.cons ⟨_, hbh, fun m obj ho => cells_seen (gj := triv) (fun vs hv => corners_rel (gj := triv) hv) m obj ho⟩ .nil))
    · show (!memN [bh] bg && distinct [bh]) = true
      have : memN [bh] bg = false := by
        show (bif Nat.beq bh bg then true else memN [] bg) = false
        have h2 : Nat.beq bh bg = false := by
          cases h3 : Nat.beq bh bg
          · rfl
          · have h4 := Nat.eq_of_beq_eq_true h3
            rw [h4] at hne
            rw [Nat.beq_refl] at hne
            cases hne
        rw [h2]; rfl
      rw [this]; rfl
    · have e := inOf_vals (u := nth (fsts ps)) 0 hps hv (fun k p hp => by rw [Nat.zero_add]; exact fsts_get hp)
      rw [e, hcl]
      exact gridS_rel (gi := triv) (mul3 a b c) _ 0 (unitsL_length _ _) (fun k F hk => by rw [Nat.zero_add]; exact hunits k F hk)
  have hargs0 : All2 (RV (gi := triv) ρ0) [.agg (sideL a b c ++ [.sl 0 0 (mul3 a b c) none]), .c (.sl 1 0 (mul3 a b c) none)] [.agg #[_, _, _, .slice (some ⟨cg, 0, none⟩) (mul3 a b c) kg], .slice (some ⟨ch, 0, none⟩) (mul3 a b c) kh] :=
    .cons ⟨_, rfl, .cons a0 (.cons a1 (.cons a2 (.cons ⟨cg, mg, kg, (sub'_r (gi := gi) (gj := triv) ρ X0 trivial [bg, bh] (i := 0) rfl).trans r1, rfl, r3, fun _ h => by cases h⟩ .nil)))⟩ (.cons ⟨ch, mh, kh, (sub'_r (gi := gi) (gj := triv) ρ X0 trivial [bg, bh] (i := 1) rfl).trans t1, rfl, t3, fun _ h => by cases h⟩ .nil)
  refine ⟨ρ0, _, _, _, H2, hH0, heapL_shut _, hargs0, y1, fun v ρ0' w' hk k2 k3 => ?_⟩
  obtain ⟨c1, m1', obj1, s1, s2, s3, s4⟩ := St.made (gi := triv) k2 (heapL_shut _) y3 (by rw [heapL_p]; show ¬ b2 < 2; omega)
  obtain ⟨arr1, ty1, pre1, rest1, z1, z2, z3, z4, z5⟩ := s3
  obtain ⟨pi, pc, rfl, z6, z7⟩ := splitW_parts (gi := triv) y4 z4
  subst y5
  have hpc : pc = cpxV (nth (wavesL a b c (fsts ps))) (mul3 a b c) 0 := by
    have hw : wavesL a b c (fsts ps) = bitsOf xs := by unfold wavesL; rw [x1]
    have := fmL_vals (gi := triv) (u := nth (wavesL a b c (fsts ps))) 0 x2 z7 (fun k n hk => by rw [hw]; exact nth_list _ k n hk)
    rw [this]
    have hxl : xs.length = mul3 a b c := by
      have h1 := (splitW_len y4).2
      rw [corners_length] at h1
      omega
    rw [hxl]
  have ho : RO ρ m1' (.cells (wavesS (corners a b c) (gridS (nth (wavesL a b c (fsts ps))) (repF (outK 6 mb (maxNp ps)) (Nat.mul 2 (mul3 a b c))) 0)) false) obj1 := by
    refine ⟨arr1, ty1, wavesV pi pc, rest1, z1, z2, z3, ?_, fun h => by cases h⟩
    refine wavesS_rel (corners_rel (gi := triv) (gj := gi) z6) ?_
    rw [hpc]
    refine gridS_rel (mul3 a b c) _ 0 (repF_length _ _) (fun k F hk => ?_)
    obtain ⟨rfl, hk'⟩ := repF_get _ _ _ _ hk
    rw [Nat.zero_add]
    obtain ⟨q, n1, n2⟩ := hW.val k hk'
    exact outK_fact (r := p8) rfl n1 (by rw [hM]; exact n2) hnpX
  refine ⟨_, (hk.st hH).add hH.lim s2 s4 ho (fun i o m2 hi e => absurd (hH.lt hi e) (by omega)), ?_⟩
  obtain ⟨vv, rfl, hvv⟩ := k3
  cases hvv with
  | cons w0 w1 => cases w1 with
  | cons w1 w2 =>
  cases w2
  obtain ⟨c2, m2, k2', u1, rfl, u3, u4⟩ := w0
  rw [s1] at u1
  obtain ⟨rfl, rfl⟩ : c1 = c2 ∧ m1' = m2 := by simpa using u1
  exact ⟨_, rfl, .cons ⟨c1, m1', k2', by rw [up_r, if_pos rfl], rfl, u3, u4⟩ (.cons w1 .nil)⟩

theorem rowWaves_ok {a b c : Nat} (hs : Shape a b c) (args : List AV) (H : AH) (r : AT) (H' : AH) (h : rowWaves a b c args H = some (r, H')) : RowOK Tryz.prog 11 args H r H' :=
  rowWavesG_ok (.inl (Nat.le_refl 2)) hs args H r H' h

theorem rowMap_ok {a b c : Nat} (hs : Shape a b c) (args : List AV) (H : AH) (r : AT) (H' : AH) (h : rowMap a b c args H = some (r, H')) : RowOK Tryz.prog 42 args H r H' := by
  unfold rowMap at h
  split at h
  case h_2 => cases h
  rename_i l a' b' c'
  cases hb1 : Nat.beq a' a && Nat.beq b' b && Nat.beq c' c
  · rw [hb1] at h; cases h
  rw [hb1, cond_true] at h
  simp only [Bool.and_eq_true] at hb1
  have ea := Nat.eq_of_beq_eq_true hb1.1.1
  have eb := Nat.eq_of_beq_eq_true hb1.1.2
  have ec := Nat.eq_of_beq_eq_true hb1.2
  have ea := ea.symm
  have eb := eb.symm
  have ec := ec.symm
  subst ea; subst eb; subst ec
  split at h
  case h_2 => cases h
  rename_i bl xl hg
  split at h
  case h_2 => cases h
  rename_i is cs hsp
  cases hb2 : isCorners is a b c
  · rw [hb2] at h; cases h
  rw [hb2, cond_true] at h
  have hic := isCorners_eq hb2
  subst hic
  split at h
  case h_2 => cases h
  rename_i ps mb np hkn
  rw [fzM_eq, fzL_eq] at h
  simp only [Option.some.injEq, Prod.mk.injEq] at h
  obtain ⟨rfl, rfl⟩ := h
  obtain ⟨hps, hmb, hmb3, rfl, hnp2⟩ := known_ok hkn
  obtain ⟨⟨fg, hbg⟩, hlg, hvg⟩ := cellsU_ok (gi := gi) hg
  refine small_row' (gi := gi) (gj := triv) (run_ok (gi := triv) (ovG_ok (gi := triv)) 1000) (has_body (q := q42) (by kernel_rfl)) fun ρ w vs hH hargs => ?_
  cases hargs with
  | cons g0 g1 =>
  cases g1 with
  | cons g1 g2 =>
  cases g2
  obtain ⟨av, rfl, hav⟩ := g1
  cases hav with
  | cons a0 hav => cases hav with
  | cons a1 hav => cases hav with
  | cons a2 hav =>
  cases hav
  obtain ⟨cg, mg, kg, r1, rfl, r3⟩ := hvg _ g0
  obtain ⟨cc, m1, obj, o1, o2, arr, ty, pre, rest, o3, o4, o5, o6, o7⟩ := hH.blk bl _ hbg
  obtain ⟨pi0, pc0, hpre, o8, o9⟩ := splitW_parts hsp o6
  have hfact := inOf_fact hps o9
  have hcl : cs.length = mul3 a b c := by
    have h1 := (splitW_len hsp).2
    rw [corners_length] at h1
    omega
  have hpl : ps.length = 2 * mul3 a b c := by rw [inOf_len hps, hcl]
  have hnpX := maxNp_ok hfact (by omega)
  have hin := in_within hfact hmb hpl
  obtain ⟨q1, q2⟩ := m0_bounds (X := ρ.X) (ρ.X.M4 (by omega)) hmb3
  generalize hM : (mb : Rat) * Fl.p2 (-100) * ρ.X.M + 1 = M at *
  have q2' : M ≤ Fl.p2 60 := Rat.le_trans q2 (p2_mono (by omega))
  have hb := hin.all (by grind : 0 ≤ M)
  obtain ⟨xs, lx, x1, x2, x3⟩ := andF_ok (hs.g (nth (fsts ps)) (nth []))
  obtain ⟨hW, _⟩ := hs.map q1 q2 hin
  obtain ⟨b2, H2, y1, y2, y3⟩ := mapOut_spec x1
  rw [mapRun_eq] at y1
  let X0 := atomX ρ.X (fsts ps) M q1 q2' hb
  have hunits : ∀ k F, (unitsL (Nat.mul 2 (mul3 a b c)) 0)[k]? = some F → Fact X0 F (nth (fsts ps) k) := fun k F hk => by
    obtain ⟨rfl, hk'⟩ := unitsL_get _ _ _ _ hk
    rw [Nat.zero_add]
    obtain ⟨q, h, _⟩ := hin.val k hk'
    exact unit_fact k h
  let ρ0 : @Rho triv := sub' triv ρ X0 trivial [bl]
  have hH0 : RH (gi := triv) ρ0 (heapL [.cells (wavesS (corners a b c) (gridS (nth (fsts ps)) (unitsL (Nat.mul 2 (mul3 a b c)) 0) 0)) false]) w := by
    refine small_rh' (gj := triv) hH X0 trivial rfl [bl] _ rfl (.cons ⟨_, hbg, fun m obj ho => cells_seen (gj := triv) (fun vs hv => ?_) m obj ho⟩ .nil)
    obtain ⟨pi1, pc1, rfl, p1, p2⟩ := splitW_parts hsp hv
    refine wavesS_rel (gi := triv) (corners_rel (gj := triv) p1) ?_
    have e := inOf_vals (u := nth (fsts ps)) 0 hps p2 (fun k p hp => by rw [Nat.zero_add]; exact fsts_get hp)
    rw [e, hcl]
    exact gridS_rel (gi := triv) (mul3 a b c) _ 0 (unitsL_length _ _) (fun k F hk => by rw [Nat.zero_add]; exact hunits k F hk)
  have hargs0 : All2 (RV (gi := triv) ρ0) [.c (.sl 0 0 (mul3 a b c) none), .agg (sideL a b c)] [.slice (some ⟨cg, 0, none⟩) (mul3 a b c) kg, .agg #[_, _, _]] :=
    .cons ⟨cg, mg, kg, (sub'_r (gi := gi) (gj := triv) ρ X0 trivial [bl] (i := 0) rfl).trans r1, rfl, r3, fun _ h => by cases h⟩ (.cons ⟨_, rfl, .cons a0 (.cons a1 (.cons a2 .nil))⟩ .nil)
  refine ⟨ρ0, _, _, _, H2, hH0, heapL_shut _, hargs0, y1, fun v ρ0' w' hk k2 k3 => ?_⟩
  obtain ⟨c1, m1', obj1, s1, s2, s3, s4⟩ := St.made (gi := triv) k2 (heapL_shut _) y3 (by rw [heapL_p]; show ¬ b2 < 1; omega)
  obtain ⟨arr1, ty1, pre1, rest1, z1, z2, z3, z4, z5⟩ := s3
  have hpc : pre1 = cpxV (nth (mapL a b c (fsts ps))) (mul3 a b c) 0 := by
    have hw : mapL a b c (fsts ps) = bitsOf xs := by unfold mapL; rw [x1]
    have := fmL_vals (gi := triv) (u := nth (mapL a b c (fsts ps))) 0 x2 z4 (fun k n hk => by rw [hw]; exact nth_list _ k n hk)
    rw [this]
    have hxl : xs.length = mul3 a b c := by
      simp only [Bool.and_eq_true] at x3
      have h1 := Nat.eq_of_beq_eq_true x3.1.1.1
      have h2 := (fmL_rel (gi := triv) x2 z4).2.1
      have h3 : ∀ {xs : List AC} {l : List Fm}, fmL xs = some l → l.length = 2 * xs.length := fun {xs} => by
        induction xs with
        | nil => intro l h; simp [fmL] at h; subst h; rfl
        | cons x r ih =>
          intro l h
          unfold fmL at h
          split at h
          · rename_i hnil; cases hnil
          rotate_left
          · cases h
          rename_i n F m G r' hx
          obtain ⟨rfl, rfl⟩ : x = _ ∧ r = r' := by simpa using hx
          split at h
          · rename_i l' h'
            simp only [Option.some.injEq] at h
            subst h
            have := ih h'
            simp only [List.length_cons]; omega
          · cases h
      have h4 := h3 x2
      have h5 : Nat.mul 2 (mul3 a b c) = 2 * mul3 a b c := rfl
      omega
    rw [hxl]
  have ho : RO ρ m1' (.cells (gridS (nth (mapL a b c (fsts ps))) (repF (outK 3 mb (maxNp ps)) (Nat.mul 2 (mul3 a b c))) 0) true) obj1 := by
    refine ⟨arr1, ty1, pre1, rest1, z1, z2, z3, ?_, z5⟩
    rw [hpc]
    refine gridS_rel (mul3 a b c) _ 0 (repF_length _ _) (fun k F hk => ?_)
    obtain ⟨rfl, hk'⟩ := repF_get _ _ _ _ hk
    rw [Nat.zero_add]
    obtain ⟨q, n1, n2⟩ := hW.val k hk'
    exact outK_fact (r := p3) rfl n1 (by rw [hM]; exact n2) (fun _ => hnpX)
  refine ⟨_, (hk.st hH).add hH.lim s2 s4 ho (fun i o m2 hi e => absurd (hH.lt hi e) (by omega)), ?_⟩
  obtain ⟨vv, rfl, hvv⟩ := k3
  cases hvv with
  | cons w0 w1 => cases w1 with
  | cons w1 w2 =>
  cases w2
  obtain ⟨av, rfl, hav⟩ := w0
  cases hav with
  | cons b0 hav => cases hav with
  | cons b1 hav => cases hav with
  | cons b2' hav => cases hav with
  | cons b3 hav =>
  cases hav
  obtain ⟨c2, m2, k2', u1, rfl, u3, u4⟩ := b3
  rw [s1] at u1
  obtain ⟨rfl, rfl⟩ : c1 = c2 ∧ m1' = m2 := by simpa using u1
  exact ⟨_, rfl, .cons ⟨_, rfl, .cons b0 (.cons b1 (.cons b2' (.cons ⟨c1, m1', k2', by rw [up_r, if_pos rfl], rfl, u3, u4⟩ .nil)))⟩ (.cons w1 .nil)⟩

end

end Go.Sv.C

namespace Go.Sv.C
open Go.Sv Go.Proofs Go.Fl

def argsL : Nat → Nat → List AC
  | 0, _ => []
  | n + 1, i => .arg i :: argsL n (Nat.succ i)

/-- A list and no error. -/
def fine (x : Option (AT × AH)) : Bool :=
  match x with
  | some (.tup [.c _, .c (.int .i64 (.ofNat 0))], _) => true
  | _ => false

theorem fine_ok {x : Option (AT × AH)} (h : fine x = true) : ∃ y H, x = some (.tup [.c y, .c (.int .i64 0)], H) := by
  unfold fine at h
  split at h
  · exact ⟨_, _, rfl⟩
  · cases h

/-- A call with a list of waves of which only the indices are known. -/
noncomputable def listRun (a b c f : Nat) (more : List AV) : Option (AT × AH) :=
  fz (mul3 a b c) fun N => fzL (wavesS (corners a b c) (argsL N 0)) fun ws => evFQ envQ ovM 1000 f (.c (.sl 0 0 N none) :: more) (heapL [.cells ws false])

theorem listRun_eq (a b c f : Nat) (more : List AV) : listRun a b c f more = evFQ envQ ovM 1000 f (.c (.sl 0 0 (mul3 a b c) none) :: more) (heapL [.cells (wavesS (corners a b c) (argsL (mul3 a b c) 0)) false]) := by
  unfold listRun; rw [fz_eq, fzL_eq]

/-- Is it a list of waves at these places? -/
def isList (H : AH) (a b c : Nat) (x : AC) : Bool :=
  match cellsU H 4 (mul3 a b c) x with
  | some (_, xs) =>
    match splitW xs with
    | some (is, _) => isCorners is a b c
    | none => false
  | none => false

def rowList (a b c : Nat) (more : List AV) (args : List AV) (H : AH) : Option (AT × AH) :=
  match args with
  | .c x :: r =>
    bif isList H a b c x then
      match r, more with
      | [], [] => some (.tup [.c .any, .c (.int .i64 (.ofNat 0))], H)
      | [.agg is], [.agg js] =>
        match sameInts is js with
        | some true => some (.tup [.c .any, .c (.int .i64 (.ofNat 0))], H)
        | _ => none
      | _, _ => none
    else none
  | _ => none

section
variable [gi : GoodC]

theorem argsL_rel {ρ : Rho} : ∀ {vs : List Value} (i : Nat), (∀ v ∈ vs, v.oneCell' = true) → (∀ k v, vs[k]? = some v → v = ρ.X.fv (i + k)) → RCs ρ (argsL vs.length i) vs
  | [], _, _, _ => .nil
  | v :: r, i, h1, h2 => by
    refine .cons ⟨h2 0 v rfl, h1 v (by simp)⟩ (argsL_rel (i + 1) (fun x hx => h1 x (by simp [hx])) (fun k x hk => ?_))
    have := h2 (k + 1) x (by simpa using hk)
    have e : i + 1 + k = i + (k + 1) := by omega
    rw [e]
    exact this
end

theorem isList_ok {H : AH} {a b c : Nat} {x : AC} (h : isList H a b c x = true) : ∃ bl xs cs, cellsU H 4 (mul3 a b c) x = some (bl, xs) ∧ splitW xs = some (corners a b c, cs) ∧ cs.length = mul3 a b c := by
  unfold isList at h
  split at h
  · rename_i bl xs hx
    split at h
    · rename_i is cs hs
      have := isCorners_eq h
      subst this
      refine ⟨bl, xs, cs, hx, hs, ?_⟩
      have h1 := (splitW_len hs).2
      rw [corners_length] at h1
      omega
    · cases h
  · cases h

/-- The first values of a list of waves, at the start of a context. -/
def listX (X : Ctx) (vs : List Value) : Ctx := { X with fv := fun i => (vs[i]?).getD (.bool false), lim := 0 }

variable [gi : GoodC]

/-- A list of waves, in a small memory, its numbers as they came. -/
theorem list_in {ρ : Rho} {cs : List AC} {xs : List AC} {a b c : Nat} (hsp : splitW xs = some (corners a b c, cs)) (hl : cs.length = mul3 a b c) {vs : List Value} (hv : RCs ρ xs vs) :
    ∃ pi pc, vs = wavesV pi pc ∧ pc.length = mul3 a b c ∧ RCs ρ cs pc ∧ RCs ρ (corners a b c) pi ∧ (∀ v ∈ pc, v.oneCell' = true) ∧ splitV vs = some pc := by
  obtain ⟨pi, pc, rfl, h1, h2⟩ := splitW_parts hsp hv
  obtain ⟨ps, h3, h4⟩ := splitW_rel hsp hv
  have e : ps = pc := by
    have key : ∀ (pi pc : List Value), pi.length = 3 * pc.length → splitV (wavesV pi pc) = some pc := fun pi => by
      intro pc
      induction pc generalizing pi with
      | nil =>
        intro h
        have : pi = [] := List.eq_nil_of_length_eq_zero (by simpa using h)
        subst this
        rfl
      | cons x r ih =>
        intro h
        match pi, h with
        | [], h => simp at h
        | [_], h => simp at h; omega
        | [_, _], h => simp at h; omega
        | p :: q :: s :: pi', h =>
          have := ih pi' (by simp at h; omega)
          simp only [wavesV, splitV, this]
    have hk := key pi pc (by
      have e1 := h1.length
      have e2 := h2.length
      rw [corners_length] at e1
      omega)
    rw [h3] at hk
    simpa using hk
  subst e
  exact ⟨pi, ps, rfl, by rw [← h2.length, hl], h2, h1, h2.one, h3⟩

/-- A small memory, of the blocks as they stand. -/
theorem small_rhw {gj : GoodC} {ρ : @Rho gi} {H : AH} {w : World} (hH : RH (gi := gi) ρ H w) (X0 : Ctx) (hX : gj.G X0) (h0 : X0.lim = 0) (bs : List Nat) (os : List AO) (hd : distinct bs = true)
    (hb : All2 (fun b o0 => ∃ o c m obj, H.t.get b = some o ∧ Rho.r (gi := gi) ρ b = some (c, m) ∧ w.heap[c]? = some obj ∧ RO (gi := gj) (sub' (gi := gi) gj ρ X0 hX bs) m o0 obj) bs os) : RH (gi := gj) (sub' (gi := gi) gj ρ X0 hX bs) (heapL os) w := by
  have hlen := hb.length
  have key : ∀ i o0, (heapL os).t.get i = some o0 → ∃ b, bs[i]? = some b ∧ ∃ o c m obj, H.t.get b = some o ∧ Rho.r (gi := gi) ρ b = some (c, m) ∧ w.heap[c]? = some obj ∧ RO (gi := gj) (sub' (gi := gi) gj ρ X0 hX bs) m o0 obj := fun i o0 h => by
    rw [heapL_get] at h
    obtain ⟨b, h1, h2⟩ := hb.get' h
    exact ⟨b, h1, h2⟩
  refine @RH.mk gj _ _ _ (fun i o0 h => ?_) (fun i j o o' c m m' hi hj hci hcj => ?_) (fun i hi => ?_) (fun i c m _ => ?_) ?_ (fun c h => ?_)
  · obtain ⟨b, h1, o, c, m, obj, h2, h3, h4, h5⟩ := key i o0 h
    exact ⟨c, m, obj, (sub'_r (gi := gi) ρ X0 hX bs h1).trans h3, h4, h5⟩
  · obtain ⟨b, h1, o1, c1, m1, obj1, h2, h3, h4, h5⟩ := key i o hi
    obtain ⟨b', h1', o1', c1', m1', obj1', h2', h3', h4', h5'⟩ := key j o' hj
    have e := RH.inj (gi := gi) hH b b' o1 o1' c m m' h2 h2' ((sub'_r (gi := gi) ρ X0 hX bs h1).symm.trans hci) ((sub'_r (gi := gi) ρ X0 hX bs h1').symm.trans hcj)
    subst e
    exact distinct_inj hd h1 h1'
  · rw [heapL_n] at hi
    show (bs[i]?).bind (Rho.r (gi := gi) ρ) = none
    rw [List.getElem?_eq_none (by omega)]
    rfl
  · show X0.lim ≤ c; omega
  · show X0.lim ≤ _; omega
  · have : c < X0.lim := h; omega

theorem rowList_ok {a b c f : Nat} {more : List AV} (hmore : intVs more = true) (hrun : fine (listRun a b c f more) = true) {q : QFun} (hq : envQ f = some q) (args : List AV) (H : AH) (r : AT) (H' : AH) (h : rowList a b c more args H = some (r, H')) : RowOK Tryz.prog f args H r H' := by
  unfold rowList at h
  split at h
  case h_2 => cases h
  rename_i x rest
  cases hb : isList H a b c x
  · rw [hb] at h; cases h
  rw [hb, cond_true] at h
  have hkey : rest = more ∧ r = .tup [.c .any, .c (.int .i64 (.ofNat 0))] ∧ H' = H := by
    split at h
    · simp only [Option.some.injEq, Prod.mk.injEq] at h
      exact ⟨rfl, h.1.symm, h.2.symm⟩
    · split at h
      · rename_i is js hsame
        simp only [Option.some.injEq, Prod.mk.injEq] at h
        exact ⟨by rw [sameInts_eq hsame], h.1.symm, h.2.symm⟩
      · cases h
    · cases h
  obtain ⟨rfl, rfl, rfl⟩ := hkey
  obtain ⟨bl, xs, cs, hcu, hsp, hcl⟩ := isList_ok hb
  obtain ⟨⟨fl, hbl⟩, hlx, hvx⟩ := cellsU_ok (gi := gi) hcu
  obtain ⟨y, H0', hr0⟩ := fine_ok hrun
  rw [listRun_eq] at hr0
  refine small_row' (gi := gi) (gj := triv) (run_ok (gi := triv) (ovM_ok (gi := triv)) 1000) (has_body hq) fun ρ w vs hH hargs => ?_
  cases hargs with
  | cons g0 g1 =>
  obtain ⟨cg, mg, kg, r1, rfl, r3⟩ := hvx _ g0
  obtain ⟨cc, m1, obj, o1, o2, arr, ty, pre, rest', o3, o4, o5, o6, o7⟩ := hH.blk bl _ hbl
  obtain ⟨pi, pc, hpre, p1, p2, p3, p4, p5⟩ := list_in hsp hcl o6
  subst hpre
  let X0 := listX ρ.X pc
  let ρ0 : @Rho triv := sub' (gi := gi) triv ρ X0 trivial [bl]
  have hH0 : RH (gi := triv) ρ0 (heapL [.cells (wavesS (corners a b c) (argsL (mul3 a b c) 0)) false]) w := by
    refine small_rhw (gj := triv) hH X0 trivial rfl [bl] _ rfl (.cons ⟨_, cc, m1, obj, hbl, o1, o2, arr, ty, _, rest', o3, o4, o5, ?_, fun h => (by cases h)⟩ .nil)
    refine wavesS_rel (gi := triv) (corners_rel (gi := gi) (gj := triv) p3) ?_
    rw [← p1]
    refine argsL_rel (gi := triv) 0 p4 (fun k v hk => ?_)
    show v = (pc[0 + k]?).getD (.bool false)
    rw [Nat.zero_add, hk]; rfl
  have hargs0 : All2 (RV (gi := triv) ρ0) (.c (.sl 0 0 (mul3 a b c) none) :: rest) (.slice (some ⟨cg, 0, none⟩) (mul3 a b c) kg :: _) :=
    .cons ⟨cg, mg, kg, (sub'_r (gi := gi) (gj := triv) ρ X0 trivial [bl] (i := 0) rfl).trans r1, rfl, r3, fun _ h => by cases h⟩ (ints_rels (i := gi) (j := triv) g1 hmore)
  refine ⟨ρ0, _, _, _, H0', hH0, heapL_shut _, hargs0, hr0, fun v ρ0' w' hk k2 k3 => ⟨ρ, hk.st hH, ?_⟩⟩
  obtain ⟨vv, rfl, hvv⟩ := k3
  cases hvv with
  | cons w0 w1 => cases w1 with
  | cons w1 w2 =>
  cases w2
  exact ⟨_, rfl, .cons (RC.one (gi := triv) w0) (.cons w1 .nil)⟩

end Go.Sv.C

namespace Go.Sv.C
open Go.Sv Go.Proofs Go.Fl

def FX1 : Fm := { id := 1, np := 2, pos := false, bd := some big, fm := none }
def FY1 (m : Nat) : Fm := { id := 0, np := 2, pos := false, bd := some big, fm := none, mm := m }

def headL (x y m : Nat) (n : Nat) : List AC := fzM FX1 fun F => fzM (FY1 m) fun G => .cpx (.s x F) (.s y G) :: argsL (Nat.pred n) 0

noncomputable def friedelRun (a b c x y m : Nat) : Option (AT × AH) :=
  fz (mul3 a b c) fun N => fzL (wavesS (corners a b c) (headL x y m N)) fun ws => evFQ envQ ovM 1000 83 [.c (.sl 0 0 N none)] (heapL [.cells ws false])

theorem friedelRun_eq (a b c x y m : Nat) : friedelRun a b c x y m = evFQ envQ ovM 1000 83 [.c (.sl 0 0 (mul3 a b c) none)] (heapL [.cells (wavesS (corners a b c) (.cpx (.s x FX1) (.s y (FY1 m)) :: argsL (Nat.pred (mul3 a b c)) 0)) false]) := by
  unfold friedelRun headL; rw [fz_eq, fzM_eq, fzM_eq, fzL_eq]

/-- The runs for a shape. -/
structure FriedelOK (a b c : Nat) : Prop where
  z : ∀ x y, fine (friedelRun a b c x y 5) = true
  p : ∀ x y, fine (friedelRun a b c x y 7) = true
  n : ∀ x y, fine (friedelRun a b c x y 8) = true

def rowFriedel (a b c : Nat) (args : List AV) (H : AH) : Option (AT × AH) :=
  match args with
  | [.c x] =>
    match cellsU H 4 (mul3 a b c) x with
    | some (_, xs) =>
      match splitW xs with
      | some (is, .cpx x y :: _) =>
        bif isCorners is a b c then
          match toS x, toS y with
          | some (_, F), some (_, G) =>
            match F.bd, G.bd with
            | some u, some v => bif Nat.ble (max2N u v) big && !Nat.ble (max2N F.np G.np) 1 then some (.tup [.c .any, .c (.int .i64 (.ofNat 0))], H) else none
            | _, _ => none
          | _, _ => none
        else none
      | _ => none
    | none => none
  | _ => none

variable [gi : GoodC]

theorem rowFriedel_ok {a b c : Nat} (hok : FriedelOK a b c) (args : List AV) (H : AH) (r : AT) (H' : AH) (h : rowFriedel a b c args H = some (r, H')) : RowOK Tryz.prog 83 args H r H' := by
  unfold rowFriedel at h
  split at h
  case h_2 => cases h
  rename_i x
  split at h
  case h_2 => cases h
  rename_i bl xs hcu
  split at h
  case h_2 => cases h
  rename_i is xx yy cs hsp
  cases hb : isCorners is a b c
  · rw [hb] at h; cases h
  rw [hb, cond_true] at h
  have hic := isCorners_eq hb
  subst hic
  split at h
  case h_2 => cases h
  rename_i n F m G hxs hys
  split at h
  case h_2 => cases h
  rename_i u v hu hv
  cases hbig : Nat.ble (max2N u v) big && !Nat.ble (max2N F.np G.np) 1
  · rw [hbig] at h; cases h
  rw [hbig, cond_true] at h
  simp only [Option.some.injEq, Prod.mk.injEq] at h
  obtain ⟨rfl, rfl⟩ := h
  simp only [Bool.and_eq_true] at hbig
  have hle := Nat.le_of_ble_eq_true hbig.1
  have hm2 : 2 ≤ max2N F.np G.np := by
    by_cases h2 : max2N F.np G.np ≤ 1
    · rw [Nat.ble_eq_true_of_le h2] at hbig; simp at hbig
    · omega
  have hu' : u ≤ big := Nat.le_trans (max2N_ge u v).1 hle
  have hv' : v ≤ big := Nat.le_trans (max2N_ge u v).2 hle
  have hcl : (AC.cpx xx yy :: cs).length = mul3 a b c := by
    have h1 := (splitW_len hsp).2
    rw [corners_length] at h1
    omega
  obtain ⟨⟨fl, hbl⟩, hlx, hvx⟩ := cellsU_ok (gi := gi) hcu
  refine small_row' (gi := gi) (gj := triv) (run_ok (gi := triv) (ovM_ok (gi := triv)) 1000) (has_body (q := q83) (by kernel_rfl)) fun ρ w vs hH hargs => ?_
  cases hargs with
  | cons g0 g1 =>
  cases g1
  obtain ⟨cg, mg, kg, r1, rfl, r3⟩ := hvx _ g0
  obtain ⟨cc, m1, obj, o1, o2, arr, ty, pre, rest', o3, o4, o5, o6, o7⟩ := hH.blk bl _ hbl
  obtain ⟨pi, pc, hpre, p1, p2, p3, p4, p5⟩ := list_in hsp hcl o6
  subst hpre
  cases p2 with
  | cons t0 t1 =>
  rename_i pv pr
  obtain ⟨n', m', hn, hm, rfl⟩ := t0
  obtain ⟨rfl, hF⟩ := toS_ok hn hxs
  obtain ⟨rfl, hG⟩ := toS_ok hm hys
  have hnp : 2 ≤ ρ.X.np := np_max hF hG (by omega) ▸ hm2
  obtain ⟨p, hp, hpb, hp3⟩ := big_bd hnp hF hu hu'
  obtain ⟨q, hq, hqb, hq3⟩ := big_bd hnp hG hv hv'
  let X0 : Ctx := { tight ρ.X hnp 0 with nm := fun _ => n, fv := fun i => (pr[i]?).getD (.bool false) }
  let ρ0 : @Rho triv := sub' (gi := gi) triv ρ X0 trivial [bl]
  have hFX : Fact X0 FX1 n := by
    refine ⟨fun _ => rfl, fun _ => rfl, Sv.nn_of hp, fun h => (by cases h), fun b hb => ?_, fun cs e h => (by cases h), fun h => absurd rfl h, fun h => absurd rfl h⟩
    simp only [FX1, Option.some.injEq] at hb
    subst hb
    exact ⟨p, hp, Rat.le_trans hpb (Rat.mul_le_mul_of_nonneg_right (cast_le hu') (M0 ρ.X))⟩
  have hYb : ∀ b, some big = some b → ∃ q, val m = some q ∧ ab q * U ≤ (b : Rat) * X0.M := fun b hb => by
    simp only [Option.some.injEq] at hb
    subst hb
    exact ⟨q, hq, Rat.le_trans hqb (Rat.mul_le_mul_of_nonneg_right (cast_le hv') (M0 ρ.X))⟩
  have main : ∀ k, Fact X0 (FY1 k) m → fine (friedelRun a b c n m k) = true → ∃ (ρ0 : @Rho triv) (H0 : AH) (args0 : List AV) (r0 : AT) (H0' : AH),
      RH (gi := triv) ρ0 H0 w ∧ Barred H0 ∧ All2 (RV (gi := triv) ρ0) args0 [.slice (some ⟨cg, 0, none⟩) (mul3 a b c) kg] ∧ evFQ envQ ovM 1000 83 args0 H0 = some (r0, H0') ∧
      ∀ (v : Value) (ρ0' : @Rho triv) (w' : World), Kept w w' → St (gi := triv) ρ0 H0 w ρ0' H0' w' → R1 (gi := triv) ρ0' r0 v → ∃ ρ' : @Rho gi, St (gi := gi) ρ H w ρ' H w' ∧ R1 (gi := gi) ρ' (.tup [.c .any, .c (.int .i64 (.ofNat 0))]) v := fun k hFY hrun => by
    obtain ⟨y, H0', hr0⟩ := fine_ok hrun
    rw [friedelRun_eq] at hr0
    have hH0 : RH (gi := triv) ρ0 (heapL [.cells (wavesS (corners a b c) (.cpx (.s n FX1) (.s m (FY1 k)) :: argsL (Nat.pred (mul3 a b c)) 0)) false]) w := by
      refine small_rhw (gi := gi) (gj := triv) hH X0 trivial rfl [bl] _ rfl (.cons ⟨_, cc, m1, obj, hbl, o1, o2, arr, ty, _, rest', o3, o4, o5, ?_, fun h => (by cases h)⟩ .nil)
      refine wavesS_rel (gi := triv) (corners_rel (gi := gi) (gj := triv) p3) (.cons ⟨n, m, ⟨rfl, hFX⟩, ⟨rfl, hFY⟩, rfl⟩ ?_)
      have e : Nat.pred (mul3 a b c) = pr.length := by
        rw [← p1]; rfl
      rw [e]
      refine argsL_rel (gi := triv) 0 (fun v hv => p4 v (by simp [hv])) (fun k v hk => ?_)
      show v = (pr[0 + k]?).getD (.bool false)
      rw [Nat.zero_add, hk]; rfl
    refine ⟨ρ0, _, [.c (.sl 0 0 (mul3 a b c) none)], _, H0', hH0, heapL_shut _, .cons ⟨cg, mg, kg, (sub'_r (gi := gi) (gj := triv) ρ X0 trivial [bl] (i := 0) rfl).trans r1, rfl, r3, fun _ h => by cases h⟩ .nil, hr0, fun v ρ0' w' hk k2 k3 => ⟨ρ, hk.st hH, ?_⟩⟩
    obtain ⟨vv, rfl, hvv⟩ := k3
    cases hvv with
    | cons w0 w1 => cases w1 with
    | cons w1 w2 =>
    cases w2
    exact ⟨_, rfl, .cons (RC.one (gi := triv) w0) (.cons w1 .nil)⟩
  have mk : ∀ k, (k = 5 ∧ q = 0) ∨ (k = 7 ∧ 0 < q) ∨ (k = 8 ∧ q < 0) → Fact X0 (FY1 k) m := fun k hk => by
    refine ⟨fun h => absurd rfl h, fun _ => rfl, Sv.nn_of hq, fun h => (by cases h), hYb, fun cs e h => (by cases h), fun h => absurd rfl h, fun _ => ⟨q, hq, ?_⟩⟩
    rcases hk with ⟨rfl, h0⟩ | ⟨rfl, h0⟩ | ⟨rfl, h0⟩
    · exact ⟨fun e => (by cases e), fun e => (by cases e), fun e => (by cases e), fun e => (by cases e), fun _ => h0, fun e => (by cases e), fun e => (by cases e), fun e => (by cases e)⟩
    · exact ⟨fun e => (by cases e), fun e => (by cases e), fun e => (by cases e), fun e => (by cases e), fun e => (by cases e), fun e => (by cases e), fun _ => h0, fun e => (by cases e)⟩
    · exact ⟨fun e => (by cases e), fun e => (by cases e), fun e => (by cases e), fun e => (by cases e), fun e => (by cases e), fun e => (by cases e), fun e => (by cases e), fun _ => h0⟩
  by_cases h0 : q = 0
  · exact main 5 (mk 5 (.inl ⟨rfl, h0⟩)) (hok.z n m)
  · by_cases h1 : 0 < q
    · exact main 7 (mk 7 (.inr (.inl ⟨rfl, h1⟩))) (hok.p n m)
    · exact main 8 (mk 8 (.inr (.inr ⟨rfl, by grind⟩))) (hok.n n m)

end Go.Sv.C
