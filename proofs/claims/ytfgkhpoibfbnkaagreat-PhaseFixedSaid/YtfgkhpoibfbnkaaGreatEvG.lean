/-
  Arithmetic: what the model's own operations give where the evaluator's values stand to the model's. No conditions.
-/
import Derived.Test.YtfgkhpoibfbnkaaGreatEvF
namespace Go.Ev

section
variable {P : Program} {ρ : Rho}

theorem nan_read {n : Nat} (h : (FloatKind.f64.decode n).isNaN = true) : ∃ s f, FloatKind.f64.format.read n = .nan s f := by
  have h' : (FloatKind.f64.format.read n).isNaN = true := h
  cases hr : FloatKind.f64.format.read n <;> rw [hr] at h' <;> simp [Ieee.Datum.isNaN] at h'
  exact ⟨_, _, rfl⟩

theorem add_nan {n m : Nat} (h : (FloatKind.f64.decode n).isNaN = true ∨ (FloatKind.f64.decode m).isNaN = true) : FloatKind.f64.format.add n m = none ∧ FloatKind.f64.format.sub n m = none ∧ FloatKind.f64.format.mul n m = none ∧ FloatKind.f64.format.div n m = none ∧ FloatKind.f64.format.order n m = none := by
  unfold Ieee.Format.add Ieee.Format.sub Ieee.Format.mul Ieee.Format.div Ieee.Format.order
  rcases h with h | h
  · obtain ⟨s, f, hr⟩ := nan_read h
    rw [hr]
    refine ⟨?_, ?_, ?_, ?_, ?_⟩ <;> simp [Ieee.Datum.sum, Ieee.Datum.product, Ieee.Datum.quotient, Ieee.Datum.order]
  · obtain ⟨s, f, hr⟩ := nan_read h
    rw [hr]
    generalize FloatKind.f64.format.read n = d
    refine ⟨?_, ?_, ?_, ?_, ?_⟩ <;> cases d <;> simp [Ieee.Datum.sum, Ieee.Datum.product, Ieee.Datum.quotient, Ieee.Datum.order, Ieee.Datum.opposite]

theorem nan_bits (t : Nat) : (FloatKind.f64.decode ((t % 2) * 2 ^ 63 + 0x7ff0000000000000 + 1 + (t / 2) % (2 ^ 52 - 1))).isNaN = true := by
  have hs : FloatKind.f64.format.signWeight = 2 ^ 63 := rfl
  have hb : FloatKind.f64.format.binade = 2 ^ 52 := rfl
  have hi : FloatKind.f64.format.infRung = 0x7ff0000000000000 := rfl
  have hm : (t / 2) % (2 ^ 52 - 1) < 2 ^ 52 - 1 := Nat.mod_lt _ (by decide)
  generalize (t / 2) % (2 ^ 52 - 1) = q at *
  have hr : ((t % 2) * 2 ^ 63 + 0x7ff0000000000000 + 1 + q) % 2 ^ 63 = 0x7ff0000000000000 + 1 + q := by omega
  unfold FloatKind.decode Ieee.Format.read
  simp only [hs, hb, hi, hr]
  rw [if_neg (by omega), if_neg (by omega), if_neg (by omega)]
  rfl

/-- The world behind some draws. -/
def Drawn (w w' : World) : Prop := ∃ n, w' = { w with drawn := n }

theorem Drawn.refl (w : World) : Drawn w w := ⟨w.drawn, rfl⟩
theorem Drawn.drew (w : World) : Drawn w w.drew := ⟨w.drawn + 1, rfl⟩
theorem Drawn.trans {a b c : World} (h : Drawn a b) (h' : Drawn b c) : Drawn a c := by
  obtain ⟨n, rfl⟩ := h
  obtain ⟨m, rfl⟩ := h'
  exact ⟨m, rfl⟩

theorem St.drawn {ρ ρ' : Rho} {H H' : AH} {w w' w'' : World} (h : St ρ H w ρ' H' w') (hd : Drawn w' w'') : St ρ H w ρ' H' w'' := by
  obtain ⟨n, rfl⟩ := hd
  exact ⟨h.ext, ⟨h.rh.blk, h.rh.inj, h.rh.fresh⟩, h.p, h.frame, h.own, h.live, h.os, h.tape, h.output, h.size⟩

/-- One float's sum, product and so on. -/
theorem run_farith {op : BinOp} {x y z : AF} (h : farith op x y = some z) {n m : Nat} (hx : RF x n) (hy : RF y m) :
    (∃ r, z = .f r ∧ ∀ w, (Op.floatArith op .f64 n m).run P w = .ok (.float .f64 r) w) ∨
    (z = .nan ∧ ∀ w, ∃ r, RF .nan r ∧ (Op.floatArith op .f64 n m).run P w = .ok (.float .f64 r) w.drew) := by
  have hnan : ∀ w : World, RF .nan (Question.cut (.nanBits .f64 n m) (w.tape w.drawn (.nanBits .f64 n m))) := fun w => nan_bits _
  have none_case : (match op with | .add | .sub | .mul | .quo => True | _ => False) → (∀ w : World, (Op.floatArith op .f64 n m).run P w = ((choose (.nanBits .f64 n m)).run P w).andThen fun r w' => .ok (.float .f64 r) w') →
      ∀ w : World, ∃ r, RF .nan r ∧ (Op.floatArith op .f64 n m).run P w = .ok (.float .f64 r) w.drew := fun _ hr w => ⟨_, hnan w, by rw [hr w]; simp [Question.forced]⟩
  have both : ∀ (q : Option Nat), (∀ w : World, (Op.floatArith op .f64 n m).run P w = (match q with | some r => .ok (.float .f64 r) w | none => ((choose (.nanBits .f64 n m)).run P w).andThen fun r w' => .ok (.float .f64 r) w')) →
      z = (match q with | some r => .f r | none => .nan) →
      (∃ r, z = .f r ∧ ∀ w, (Op.floatArith op .f64 n m).run P w = .ok (.float .f64 r) w) ∨
      (z = .nan ∧ ∀ w, ∃ r, RF .nan r ∧ (Op.floatArith op .f64 n m).run P w = .ok (.float .f64 r) w.drew) := fun q hr hz => by
    cases q with
    | some r => exact .inl ⟨r, hz, hr⟩
    | none => exact .inr ⟨hz, fun w => ⟨_, hnan w, by rw [hr w]; simp [Question.forced]⟩⟩
  cases x with
  | f b =>
    cases y with
    | f c =>
      simp only [RF] at hx hy
      subst hx; subst hy
      cases op <;> simp only [farith] at h <;> first | (cases h; done) | skip
      all_goals simp only [Option.some.injEq] at h
      · exact both (FloatKind.f64.format.add n m) (fun w => by simp only [Op.floatArith]; cases FloatKind.f64.format.add n m <;> simp) h.symm
      · exact both (FloatKind.f64.format.sub n m) (fun w => by simp only [Op.floatArith]; cases FloatKind.f64.format.sub n m <;> simp) h.symm
      · exact both (FloatKind.f64.format.mul n m) (fun w => by simp only [Op.floatArith]; cases FloatKind.f64.format.mul n m <;> simp) h.symm
      · exact both (FloatKind.f64.format.div n m) (fun w => by simp only [Op.floatArith]; cases FloatKind.f64.format.div n m <;> simp) h.symm
    | nan =>
      obtain ⟨e1, e2, e3, e4, _⟩ := add_nan (n := n) (.inr hy)
      cases op <;> simp only [farith] at h <;> first | (cases h; done) | skip
      all_goals simp only [Option.some.injEq] at h
      all_goals exact both none (fun w => by simp [Op.floatArith, e1, e2, e3, e4]) h.symm
  | nan =>
    obtain ⟨e1, e2, e3, e4, _⟩ := add_nan (m := m) (.inl hx)
    cases y <;> cases op <;> simp only [farith] at h <;> first | (cases h; done) | skip
    all_goals simp only [Option.some.injEq] at h
    all_goals exact both none (fun w => by simp [Op.floatArith, e1, e2, e3, e4]) h.symm

theorem ford_eq {x y : AF} {n m : Nat} (hx : RF x n) (hy : RF y m) : FloatKind.f64.format.order n m = ford x y := by
  cases x with
  | f b =>
    cases y with
    | f c => simp only [RF] at hx hy; subst hx; subst hy; rfl
    | nan => exact (add_nan (.inr hy)).2.2.2.2
  | nan => cases y <;> exact (add_nan (.inl hx)).2.2.2.2

theorem ordIs_eq (c : Option Ordering) (o : Ordering) : (c == some o) = ordIs c o := by
  cases c with
  | none => cases o <;> rfl
  | some d => cases d <;> cases o <;> rfl

theorem run_fcmp {op : BinOp} {x y : AF} {b : Bool} {n m : Nat} (hx : RF x n) (hy : RF y m) (h : fcmp op (ford x y) = some b) (w : World) : (Op.floatCmp op .f64 n m).run P w = .ok (.bool b) w := by
  unfold Op.floatCmp
  rw [ford_eq hx hy]
  cases op <;> simp only [fcmp] at h <;> first | (cases h; done) | skip
  all_goals simp only [Option.some.injEq] at h; subst h
  all_goals simp only [Sem.run_pure, ordIs_eq, bne]

theorem run_icmp {op : BinOp} {x y : Int} {b : Bool} (h : icmp op x y = some b) (w : World) : (Op.intCmp op x y).run P w = .ok (.bool b) w := by
  unfold Op.intCmp
  cases op <;> simp only [icmp] at h <;> first | (cases h; done) | skip
  all_goals simp only [Option.some.injEq] at h; subst h
  all_goals simp

theorem eqGuard_plain {op : BinOp} {t : TypeId} {x y : Operand} {u v : Value} (hu : u ≠ .nilIface) (hu' : ∀ cs, u ≠ .agg cs) (w : World) : (eqGuard op t x y u v).run P w = .ok () w := by
  unfold eqGuard
  cases op <;> simp <;> cases u <;> simp_all

/-- A sum, a comparison and so on, of plain values. -/
theorem run_binC {op : BinOp} {x y z : AC} (h : binC op x y = some z) {u v : Value} (hu : RC ρ x u) (hv : RC ρ y v) (t : TypeId) :
    (∃ q, RC ρ z q ∧ ∀ w, (binOp op t u v).run P w = .ok q w) ∨ (nanC z = true ∧ ∀ w, ∃ q w', RC ρ z q ∧ Drawn w w' ∧ (binOp op t u v).run P w = .ok q w') := by
  cases x <;> cases y <;> simp only [binC] at h <;> first | (cases h; done) | skip
  case int.int k m k' n =>
    simp only [RC] at hu hv
    subst hu; subst hv
    left
    have other : (match op with | .shl | .shr => False | _ => True) → (if k = k' then
        match icmp op m n with
        | some r => some (AC.bool r)
        | none =>
          match iarith op k m n with
          | some r => some (.int k r)
          | none => none
      else none) = some z → ∃ q, RC ρ z q ∧ ∀ w, (binOp op t (.int k m) (.int k' n)).run P w = .ok q w := fun _ g => by
      split at g
      · rename_i hk
        subst hk
        split at g
        · rename_i r hr
          simp only [Option.some.injEq] at g
          subst g
          refine ⟨.bool r, rfl, fun w => ?_⟩
          have := run_icmp (P := P) hr w
          cases op <;> simp only [icmp] at hr <;> first | (cases hr; done) | (simp [binOp, this])
        · split at g
          · rename_i r hr
            simp only [Option.some.injEq] at g
            subst g
            refine ⟨.int k r, rfl, fun w => ?_⟩
            cases op <;> simp only [iarith] at hr <;> first | (cases hr; done) | skip
            all_goals first
              | (simp only [Option.some.injEq] at hr; subst hr; simp [binOp, Op.intArith]; done)
              | (simp only [Option.some.injEq] at hr; subst hr; simp [binOp, Op.intBits]; done)
              | (split at hr
                 · cases hr
                 · rename_i hne
                   simp only [Option.some.injEq] at hr
                   subst hr
                   simp [binOp, Op.intDiv, hne])
          · cases g
      · cases g
    cases op <;> first | exact other trivial h | skip
    · simp only [] at h
      split at h
      · cases h
      · rename_i hn
        simp only [Option.some.injEq] at h
        subst h
        exact ⟨_, rfl, fun w => by simp [binOp, Op.shift, hn]⟩
    · simp only [] at h
      split at h
      · cases h
      · rename_i hn
        simp only [Option.some.injEq] at h
        subst h
        exact ⟨_, rfl, fun w => by simp [binOp, Op.shift, hn]⟩
  case flt.flt p q =>
    obtain ⟨n, hn, rfl⟩ := hu
    obtain ⟨m, hm, rfl⟩ := hv
    split at h
    · rename_i r hr
      simp only [Option.some.injEq] at h
      subst h
      refine .inl ⟨.bool r, rfl, fun w => ?_⟩
      have := run_fcmp (P := P) hn hm hr w
      cases op <;> simp only [fcmp] at hr <;> first | (cases hr; done) | (simp [binOp, this])
    · split at h
      · rename_i r hr
        simp only [Option.some.injEq] at h
        subst h
        have hop : ∀ w, (binOp op t (.float .f64 n) (.float .f64 m)).run P w = (Op.floatArith op .f64 n m).run P w := fun w => by
          cases op <;> simp only [farith] at hr <;> first | (simp [binOp]; done) | (cases p <;> cases q <;> simp at hr)
        rcases run_farith (P := P) hr hn hm with ⟨r', rfl, hrun⟩ | ⟨rfl, hrun⟩
        · exact .inl ⟨_, ⟨r', rfl, rfl⟩, fun w => (hop w).trans (hrun w)⟩
        · refine .inr ⟨rfl, fun w => ?_⟩
          obtain ⟨r', h1, h2⟩ := hrun w
          exact ⟨_, _, ⟨r', h1, rfl⟩, Drawn.drew w, (hop w).trans h2⟩
      · cases h
  case cpx.cpx p q r s =>
    obtain ⟨n1, n2, e1, e2, rfl⟩ := hu
    obtain ⟨m1, m2, e3, e4, rfl⟩ := hv
    have arith : ∀ (o : BinOp), (o = .add ∨ o = .sub) → op = o → (match farith o p r, farith o q s with
        | some x, some y => some (AC.cpx x y)
        | _, _ => none) = some z → (∃ q, RC ρ z q ∧ ∀ w, (binOp op t (.complex .f64 n1 n2) (.complex .f64 m1 m2)).run P w = .ok q w) ∨ (nanC z = true ∧ ∀ w, ∃ q w', RC ρ z q ∧ Drawn w w' ∧ (binOp op t (.complex .f64 n1 n2) (.complex .f64 m1 m2)).run P w = .ok q w') := by
      intro o ho hop h
      subst hop
      have hrun : ∀ w, (binOp op t (.complex .f64 n1 n2) (.complex .f64 m1 m2)).run P w = ((Op.Complex.arith op .f64 n1 m1).run P w).andThen fun a w => ((Op.Complex.arith op .f64 n2 m2).run P w).andThen fun b w => .ok (.complex .f64 a b) w := fun w => by
        rcases ho with rfl | rfl <;> simp [binOp, Op.complexOp]
      split at h
      · rename_i x y hx hy
        simp only [Option.some.injEq] at h
        subst h
        have one : ∀ {x : AF} {u v : AF} {a b : Nat}, farith op u v = some x → RF u a → RF v b → (∃ k, x = .f k ∧ ∀ w, (Op.Complex.arith op .f64 a b).run P w = .ok k w) ∨ (x = .nan ∧ ∀ w, ∃ k, RF .nan k ∧ (Op.Complex.arith op .f64 a b).run P w = .ok k w.drew) := fun hx ha hb => by
          rcases run_farith (P := P) hx ha hb with ⟨r', rfl, hr⟩ | ⟨rfl, hr⟩
          · exact .inl ⟨r', rfl, fun w => by simp [Op.Complex.arith, hr w]⟩
          · refine .inr ⟨rfl, fun w => ?_⟩
            obtain ⟨k, h1, h2⟩ := hr w
            exact ⟨k, h1, by simp [Op.Complex.arith, h2]⟩
        rcases one hx e1 e3 with ⟨k1, rfl, g1⟩ | ⟨rfl, g1⟩
        · rcases one hy e2 e4 with ⟨k2, rfl, g2⟩ | ⟨rfl, g2⟩
          · exact .inl ⟨_, ⟨k1, k2, rfl, rfl, rfl⟩, fun w => by rw [hrun, g1, Result.andThen_ok, g2, Result.andThen_ok]⟩
          · refine .inr ⟨by cases k1 <;> rfl, fun w => ?_⟩
            obtain ⟨k2, h1, h2⟩ := g2 w
            exact ⟨_, _, ⟨k1, k2, rfl, h1, rfl⟩, Drawn.drew w, by rw [hrun, g1, Result.andThen_ok, h2, Result.andThen_ok]⟩
        · refine .inr ⟨rfl, fun w => ?_⟩
          obtain ⟨k1, h1, h2⟩ := g1 w
          rcases one hy e2 e4 with ⟨k2, rfl, g2⟩ | ⟨rfl, g2⟩
          · exact ⟨_, _, ⟨k1, k2, h1, rfl, rfl⟩, Drawn.drew w, by rw [hrun, h2, Result.andThen_ok, g2, Result.andThen_ok]⟩
          · obtain ⟨k2, h3, h4⟩ := g2 w.drew
            exact ⟨_, _, ⟨k1, k2, h1, h3, rfl⟩, (Drawn.drew w).trans (Drawn.drew _), by rw [hrun, h2, Result.andThen_ok, h4, Result.andThen_ok]⟩
      · cases h
    cases op <;> simp only [] at h <;> first | (cases h; done) | skip
    · exact arith .add (.inl rfl) rfl h
    · exact arith .sub (.inr rfl) rfl h
    · simp only [Option.some.injEq] at h
      subst h
      refine .inl ⟨_, rfl, fun w => ?_⟩
      have c1 : ∀ w, (Op.floatCmp .eql .f64 n1 m1).run P w = .ok (.bool (ordIs (ford p r) .eq)) w := run_fcmp (P := P) (op := .eql) e1 e3 rfl
      have c2 : ∀ w, (Op.floatCmp .eql .f64 n2 m2).run P w = .ok (.bool (ordIs (ford q s) .eq)) w := run_fcmp (P := P) (op := .eql) e2 e4 rfl
      have d1 : ∀ w, (Op.Complex.cmp .eql .f64 n1 m1).run P w = .ok (ordIs (ford p r) .eq) w := fun w => by simp [Op.Complex.cmp, c1, asBool]
      have d2 : ∀ w, (Op.Complex.cmp .eql .f64 n2 m2).run P w = .ok (ordIs (ford q s) .eq) w := fun w => by simp [Op.Complex.cmp, c2, asBool]
      simp [binOp, Op.complexOp, d1, d2]
    · simp only [Option.some.injEq] at h
      subst h
      refine .inl ⟨_, rfl, fun w => ?_⟩
      have c1 : ∀ w, (Op.floatCmp .eql .f64 n1 m1).run P w = .ok (.bool (ordIs (ford p r) .eq)) w := run_fcmp (P := P) (op := .eql) e1 e3 rfl
      have c2 : ∀ w, (Op.floatCmp .eql .f64 n2 m2).run P w = .ok (.bool (ordIs (ford q s) .eq)) w := run_fcmp (P := P) (op := .eql) e2 e4 rfl
      have d1 : ∀ w, (Op.Complex.cmp .eql .f64 n1 m1).run P w = .ok (ordIs (ford p r) .eq) w := fun w => by simp [Op.Complex.cmp, c1, asBool]
      have d2 : ∀ w, (Op.Complex.cmp .eql .f64 n2 m2).run P w = .ok (ordIs (ford q s) .eq) w := fun w => by simp [Op.Complex.cmp, c2, asBool]
      simp [binOp, Op.complexOp, d1, d2]

theorem run_unC {op : UnOp} {x z : AC} (h : unC op x = some z) {u : Value} (hu : RC ρ x u) : ∃ q, RC ρ z q ∧ ∀ w, (Op.unary op u).run P w = .ok q w := by
  unfold unC at h
  split at h
  · simp only [RC] at hu; subst hu
    simp only [Option.some.injEq] at h; subst h
    exact ⟨_, rfl, fun w => by simp [Op.unary, Op.intArith]⟩
  · obtain ⟨n, hn, rfl⟩ := hu
    simp only [RF] at hn; subst hn
    simp only [Option.some.injEq] at h; subst h
    exact ⟨_, ⟨_, rfl, rfl⟩, fun w => by simp [Op.unary]⟩
  · simp only [RC] at hu; subst hu
    simp only [Option.some.injEq] at h; subst h
    exact ⟨_, rfl, fun w => by simp [Op.unary]⟩
  · cases h
end
end Go.Ev
