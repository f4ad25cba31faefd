/-
  One operation: what the evaluator says of it is what the model does. No conditions.
-/
import Derived.Test.YtfgkhpoibfbnkaaGreatEvK
namespace Go.Ev

section
variable {P : Program} {ρ : Rho} {T : Tr AT} {a : Act} {w : World} {H : AH} {dst : Option Tmp} {ty : TypeId} {pos : String} {after : Array Edge} {guard : Option (Nat × Bool)}
variable {callf : Nat → List AV → AH → Option (AT × AH)} {r : AT} {H' : AH}

theorem cBuiltin_len {b : Builtin} {ts : List TypeId} (h : cBuiltin P b ts = some .lenM) : b = .len ∧ ∃ t k e, ts = [t] ∧ P.underlying t = some (.map k e) := by
  unfold cBuiltin at h
  split at h
  · rename_i t
    split at h
    · simp at h
    · rename_i k e hu; exact ⟨rfl, t, k, e, rfl, hu⟩
    · cases h
  all_goals first | (simp at h; done) | (split at h <;> first | (simp at h; done) | (split at h <;> simp at h))

theorem cBuiltin_max {b : Builtin} {ts : List TypeId} (h : cBuiltin P b ts = some .max) : b = .max := by
  unfold cBuiltin at h
  split at h
  all_goals first | rfl | (simp at h; done) | (split at h <;> first | (simp at h; done) | (split at h <;> simp at h))

theorem cBuiltin_min {b : Builtin} {ts : List TypeId} (h : cBuiltin P b ts = some .min) : b = .min := by
  unfold cBuiltin at h
  split at h
  all_goals first | rfl | (simp at h; done) | (split at h <;> first | (simp at h; done) | (split at h <;> simp at h))

theorem cBuiltin_append {b : Builtin} {ts : List TypeId} {z bytes : Nat} {zero : List AC} (h : cBuiltin P b ts = some (.append z zero bytes)) :
    b = .append ∧ ∃ t u e e' i, ts = [t, u] ∧ P.underlying t = some (.slice e) ∧ P.underlying u = some (.slice e') ∧ cZero P e = some (z, zero) ∧ P.info? e = some i ∧ i.bytes = bytes := by
  unfold cBuiltin at h
  split at h
  case h_7 =>
    rename_i t u
    split at h
    · rename_i e e' hu hu'
      split at h
      · rename_i z' zero' i hz hi
        simp only [Option.some.injEq, ABi.append.injEq] at h
        obtain ⟨rfl, rfl, rfl⟩ := h
        exact ⟨rfl, t, u, e, e', i, rfl, hu, hu', hz, hi, rfl⟩
      · cases h
    · cases h
  all_goals first | (simp at h; done) | (split at h <;> first | (simp at h; done) | (split at h <;> simp at h))

theorem cBuiltin_copy {b : Builtin} {ts : List TypeId} {z : Nat} (h : cBuiltin P b ts = some (.copy z)) : b = .copy ∧ ∃ t u e, ts = [t, u] ∧ P.underlying t = some (.slice e) ∧ cSize P e = some z := by
  unfold cBuiltin at h
  split at h
  case h_8 =>
    rename_i t u
    split at h
    · rename_i e hu
      split at h
      · rename_i z' hz
        simp only [Option.some.injEq, ABi.copy.injEq] at h
        subst h
        exact ⟨rfl, t, u, e, rfl, hu, hz⟩
      · cases h
    · cases h
  all_goals first | (simp at h; done) | (split at h <;> first | (simp at h; done) | (split at h <;> simp at h))

/-- The built-in functions, all of them. -/
theorem d_bi (hT : RT ρ T a.tmps) (hH : RH ρ H w) {c : Call} {b : Builtin} {b' : ABi} {xs : List AOpnd} (hc : c.callee = .builtin b) (hb : cBuiltin P b c.argTypes.toList = some b') (hxs : cOs c.args.toList = some xs) (he : evOp callf T (.bi b' xs) H = some (r, H')) :
    Does P ρ H a w ⟨dst, .call c, ty, pos, after, guard⟩ r H' := by
  by_cases hq : quiet (.bi b' xs) = true
  · exact Does.of_yld hH (y_bi hT hc hb hxs hq he)
  simp only [evOp, biA] at he
  split at he
  · cases he
  rename_i vs hvs
  have hrel := evVs_rel (a := a) hT hxs hvs
  have hargs : ∀ l : List Value, c.args.toList.map a.eval = l → c.args.map a.eval = l.toArray := fun l hl => Array.ext' (by simp [hl])
  split at he
  · simp [quiet] at hq
  · -- len of a nil map
    simp only [Option.some.injEq, Prod.mk.injEq] at he
    obtain ⟨rfl, rfl⟩ := he
    obtain ⟨rfl, t, k, e, h1, h2⟩ := cBuiltin_len hb
    generalize hl : c.args.toList.map a.eval = l at hrel
    cases hrel with
    | cons g0 g1 =>
      cases g1
      have g0' : _ = Value.map none := g0
      subst g0'
      refine Does.bi (b := .len) hc (s := Builtin.len_ c.argTypes ty (c.args.map a.eval)) (v := goInt 0) (w' := w) (fun _ => rfl) ?_ (St.refl hH) rfl
      rw [hargs _ hl, show c.argTypes = #[t] from Array.ext' h1]
      simp [Builtin.len_, run_underlying h2]
  · -- len of a map
    rename_i b0
    split at he
    · rename_i es hes
      simp only [Option.some.injEq, Prod.mk.injEq] at he
      obtain ⟨rfl, rfl⟩ := he
      obtain ⟨rfl, t, k, e, h1, h2⟩ := cBuiltin_len hb
      generalize hl : c.args.toList.map a.eval = l at hrel
      cases hrel with
      | cons g0 g1 =>
        cases g1
        obtain ⟨c0, m0, hc0, rfl⟩ : RC ρ (.map b0) _ := g0
        obtain ⟨_, ens, e1, e2, _⟩ := hH.map hes hc0
        have hg : (getObj c0).run P w = .ok (.map ens ens.size) w := by simp [getObj, Sem.run, e1]
        have hlen : es.length = ens.size := by have := e2.length; simpa using this
        refine Does.bi (b := .len) hc (s := Builtin.len_ c.argTypes ty (c.args.map a.eval)) (v := goInt ens.size) (w' := w) (fun _ => rfl) ?_ (St.refl hH) (by rw [hlen]; rfl)
        rw [hargs _ hl, show c.argTypes = #[t] from Array.ext' h1]
        simp [Builtin.len_, run_underlying h2, hg]
    · cases he
  · simp [quiet] at hq
  · simp [quiet] at hq
  · simp [quiet] at hq
  · -- max
    rename_i x rest
    split at he
    · rename_i z hz
      simp only [Option.some.injEq, Prod.mk.injEq] at he
      obtain ⟨rfl, rfl⟩ := he
      obtain rfl := cBuiltin_max hb
      generalize hl : c.args.toList.map a.eval = l at hrel
      cases hrel with
      | cons g0 g1 =>
        rename_i v m
        obtain ⟨q, w', e1, e2, e3⟩ := run_foldC (P := P) (G := Builtin.max2) (fun h _ _ hu hv w => run_max2 h hu hv w) g1 hz g0 w
        refine Does.bi (b := .max) hc (s := Builtin.max_ c.argTypes ty (c.args.map a.eval)) (v := q) (w' := w') (fun _ => rfl) ?_ (St.of_drawn hH e2) e1
        rw [hargs _ hl]
        exact e3
    · cases he
  · -- min
    rename_i x rest
    split at he
    · rename_i z hz
      simp only [Option.some.injEq, Prod.mk.injEq] at he
      obtain ⟨rfl, rfl⟩ := he
      obtain rfl := cBuiltin_min hb
      generalize hl : c.args.toList.map a.eval = l at hrel
      cases hrel with
      | cons g0 g1 =>
        rename_i v m
        obtain ⟨q, w', e1, e2, e3⟩ := run_foldC (P := P) (G := Builtin.min2) (fun h _ _ hu hv w => run_min2 h hu hv w) g1 hz g0 w
        refine Does.bi (b := .min) hc (s := Builtin.min_ c.argTypes ty (c.args.map a.eval)) (v := q) (w' := w') (fun _ => rfl) ?_ (St.of_drawn hH e2) e1
        rw [hargs _ hl]
        exact e3
    · cases he
  · -- append
    rename_i z zero bytes s x
    obtain ⟨rfl, t, u, e, e', i, h1, h2, h3, h4, h5, rfl⟩ := cBuiltin_append hb
    generalize hl : c.args.toList.map a.eval = l at hrel
    cases hrel with
    | cons g0 g1 =>
      cases g1 with
      | cons g1 g2 =>
        cases g2
        obtain ⟨i', zv, f1, f2, f3, f4, f5⟩ := cZero_spec h4
        rw [h5] at f1
        simp only [Option.some.injEq] at f1
        subst f1
        have hzs : zv.cells.size = zero.length := by have := (f5 ρ).length; simp at this; exact this.symm
        obtain ⟨v, w', ρ', q1, q2, q3⟩ := run_append (P := P) (ty := ty) h2 h3 h5 f2 f3 hzs hH g0 g1 he
        refine Does.bi (b := .append) hc (s := Builtin.append_ c.argTypes ty (c.args.map a.eval)) (fun _ => rfl) ?_ q2 q3
        rw [hargs _ hl, show c.argTypes = #[t, u] from Array.ext' h1]
        exact q1
  · -- copy
    rename_i z d x
    obtain ⟨rfl, t, u, e, h1, h2, h3⟩ := cBuiltin_copy hb
    generalize hl : c.args.toList.map a.eval = l at hrel
    cases hrel with
    | cons g0 g1 =>
      cases g1 with
      | cons g1 g2 =>
        cases g2
        obtain ⟨i, f1, f2⟩ := cSize_spec h3
        obtain ⟨v, w', q1, q2, q3⟩ := run_copy (P := P) (u := u) (ty := ty) h2 f1 f2 hH g0 g1 he
        refine Does.bi (b := .copy) hc (s := Builtin.copy_ c.argTypes ty (c.args.map a.eval)) (fun _ => rfl) ?_ q2 q3
        rw [hargs _ hl, show c.argTypes = #[t, u] from Array.ext' h1]
        exact q1
  · cases he

/- ### Functions without a Go body -/

theorem find_bits {fn : Func} (h : fn.name = "math.Float64bits") : Extern.find fn = some Extern.MathFloatBits.float64bits := by
  unfold Extern.find
  rw [h]
  rfl

theorem find_from {fn : Func} (h : fn.name = "math.Float64frombits") : Extern.find fn = some Extern.MathFloatBits.float64frombits := by
  unfold Extern.find
  rw [h]
  rfl

theorem find_sqrt {fn : Func} (h : fn.name = "math.sqrt") : Extern.find fn = some Extern.MathSqrt.sqrt := by
  unfold Extern.find
  rw [h]
  rfl

theorem exec_fn {c : Call} {f : Operand} {g : Nat} {caps : Array Value} (hc : c.callee = .value f) (hf : a.eval f = .func (.func g) #[] caps) (w : World) :
    (execOp a.eval ⟨dst, .call c, ty, pos, after, guard⟩).run P w = (callFunc g (c.args.map a.eval ++ caps)).run P w := by
  obtain ⟨callee, args, ts⟩ := c
  simp only [] at hc
  subst hc
  simp [execOp, resolve, Deferred.ofValue, hf, invoke]

theorem run_ext {c : Call} {g : Nat} {fn : Func} {e : Array Value → Sem Value} (hc : c.callee = .value (.func g)) (hf : P.funcs[g]? = some fn) (hb : fn.body.isNone = true) (hn : ¬ (Extern.findNext fn).isSome = true) (hname : fn.name ≠ "runtime.NumGoroutine") (he : Extern.find fn = some e) (w : World) :
    (execOp a.eval ⟨dst, .call c, ty, pos, after, guard⟩).run P w = ((e (c.args.map a.eval)).run P w).andThen fun v w' => .ok (.value v) w' := by
  rw [exec_fn (caps := #[]) hc rfl w, Array.append_empty]
  exact run_callFunc_extern hf (by simpa using hname) hb (by simpa using hn) he _ w

theorem cCall_ext {c : Call} {ao : AOp} (h : cCall P c = some ao) (hno : ∀ f xs, ao ≠ .call f xs) (hno' : ∀ b xs, ao ≠ .bi b xs) :
    ∃ g fn x y, c.callee = .value (.func g) ∧ P.funcs[g]? = some fn ∧ fn.body.isNone = true ∧ ¬ (Extern.findNext fn).isSome = true ∧ c.args = #[x] ∧ cO x = some y ∧
      ((fn.name = "math.Float64bits" ∧ ao = .fbits y) ∨ (fn.name = "math.Float64frombits" ∧ ao = .ffrom y) ∨ (fn.name = "math.sqrt" ∧ ao = .sqrt y)) := by
  unfold cCall at h
  split at h
  · split at h
    · simp only [Option.some.injEq] at h; exact absurd h.symm (hno' _ _)
    · cases h
  · cases h
  · rename_i f hf
    split at h
    · rename_i g
      split at h
      · cases h
      · rename_i fn hfn
        split at h
        · rename_i hb
          split at h
          · cases h
          · rename_i hn
            split at h
            · rename_i x hx
              split at h
              · cases h
              · rename_i y hy
                refine ⟨g, fn, x, y, hf, hfn, hb, hn, Array.ext' hx, hy, ?_⟩
                split at h
                · rename_i hname; simp only [Option.some.injEq] at h; exact .inl ⟨hname, h.symm⟩
                · split at h
                  · rename_i hname; simp only [Option.some.injEq] at h; exact .inr (.inl ⟨hname, h.symm⟩)
                  · split at h
                    · rename_i hname; simp only [Option.some.injEq] at h; exact .inr (.inr ⟨hname, h.symm⟩)
                    · cases h
            · cases h
        · split at h
          · simp only [Option.some.injEq] at h; exact absurd h.symm (hno _ _)
          · cases h
    · split at h
      · simp only [Option.some.injEq] at h; exact absurd h.symm (hno _ _)
      · cases h

theorem y_fbits (hT : RT ρ T a.tmps) {c : Call} {y : AOpnd} (hc : cCall P c = some (.fbits y)) (he : evOp callf T (.fbits y) H = some (r, H')) : H' = H ∧ Yld P ρ none a w ⟨dst, .call c, ty, pos, after, guard⟩ r := by
  obtain ⟨g, fn, x, y', h1, h2, h3, h4, h5, h6, h7⟩ := cCall_ext hc (by simp) (by simp)
  rcases h7 with ⟨hn, h7⟩ | ⟨_, h7⟩ | ⟨_, h7⟩ <;> simp only [AOp.fbits.injEq, reduceCtorEq] at h7
  subst h7
  simp only [evOp] at he
  split at he
  · rename_i b hb
    simp only [Option.some.injEq, Prod.mk.injEq] at he
    obtain ⟨rfl, rfl⟩ := he
    obtain ⟨n, hn', hv⟩ := evC_rel (a := a) hT h6 hb
    simp only [RF] at hn'
    subst hn'
    refine ⟨rfl, _, rfl, fun w' _ => ?_⟩
    rw [run_ext h1 h2 h3 h4 (by rw [hn]; decide) (find_bits hn) w', h5]
    simp only [List.map_toArray, List.map_cons, List.map_nil, hv]
    rfl
  · cases he

theorem y_ffrom (hT : RT ρ T a.tmps) {c : Call} {y : AOpnd} (hc : cCall P c = some (.ffrom y)) (he : evOp callf T (.ffrom y) H = some (r, H')) : H' = H ∧ Yld P ρ none a w ⟨dst, .call c, ty, pos, after, guard⟩ r := by
  obtain ⟨g, fn, x, y', h1, h2, h3, h4, h5, h6, h7⟩ := cCall_ext hc (by simp) (by simp)
  rcases h7 with ⟨_, h7⟩ | ⟨hn, h7⟩ | ⟨_, h7⟩ <;> simp only [AOp.ffrom.injEq, reduceCtorEq] at h7
  subst h7
  simp only [evOp] at he
  split at he
  · rename_i n hb
    simp only [Option.some.injEq, Prod.mk.injEq] at he
    obtain ⟨rfl, rfl⟩ := he
    have hv : a.eval x = .int .u64 n := evC_rel (a := a) hT h6 hb
    refine ⟨rfl, _, ⟨_, rfl, rfl⟩, fun w' _ => ?_⟩
    rw [run_ext h1 h2 h3 h4 (by rw [hn]; decide) (find_from hn) w', h5]
    simp only [List.map_toArray, List.map_cons, List.map_nil, hv]
    rfl
  · cases he

theorem d_sqrt (hT : RT ρ T a.tmps) (hH : RH ρ H w) {c : Call} {y : AOpnd} (hc : cCall P c = some (.sqrt y)) (he : evOp callf T (.sqrt y) H = some (r, H')) : Does P ρ H a w ⟨dst, .call c, ty, pos, after, guard⟩ r H' := by
  obtain ⟨g, fn, x, y', h1, h2, h3, h4, h5, h6, h7⟩ := cCall_ext hc (by simp) (by simp)
  rcases h7 with ⟨_, h7⟩ | ⟨_, h7⟩ | ⟨hn, h7⟩ <;> simp only [AOp.sqrt.injEq, reduceCtorEq] at h7
  subst h7
  simp only [evOp] at he
  split at he
  · rename_i b hb
    simp only [Option.some.injEq, Prod.mk.injEq] at he
    obtain ⟨rfl, rfl⟩ := he
    obtain ⟨n, hn', hv⟩ := evC_rel (a := a) hT h6 hb
    simp only [RF] at hn'
    subst hn'
    have hrun := run_ext (P := P) (a := a) (dst := dst) (ty := ty) (pos := pos) (after := after) (guard := guard) h1 h2 h3 h4 (by rw [hn]; decide) (find_sqrt hn) w
    rw [h5] at hrun
    simp only [List.map_toArray, List.map_cons, List.map_nil, hv] at hrun
    have hsq : Extern.MathSqrt.sqrt #[.float .f64 n] = (match FloatKind.f64.format.sqrt n with | some r => pure (.float .f64 r) | none => do pure (.float .f64 (← choose (.nanBits .f64 n n)))) := rfl
    rw [hsq] at hrun
    cases hs : FloatKind.f64.format.sqrt n with
    | some q =>
      simp only [hs, Sem.run_pure, Result.andThen_ok] at hrun
      exact ⟨_, w, ρ, .inl hrun, St.refl hH, ⟨q, rfl, rfl⟩⟩
    | none =>
      simp only [hs, Sem.run_bind, run_choose, Question.forced, Bool.false_eq_true, if_false, Result.andThen_ok, Sem.run_pure] at hrun
      exact ⟨_, _, ρ, .inl hrun, St.of_drawn hH (Drawn.drew w), ⟨_, nan_bits _, rfl⟩⟩
  · cases he

/- ### Any operation -/

theorem beq_neg {op : BinOp} : (op = if true then BinOp.neq else .eql) = (op = .neq) := by simp

/-- An operation that only looks. -/
theorem op_quiet (hT : RT ρ T a.tmps) (hH : RH ρ H w) {o : Oper} {ao : AOp} (hc : cOp P o.op = some ao) (hq : quiet ao = true) (he : evOp callf T ao H = some (r, H')) :
    H' = H ∧ (Yld P ρ (rblk T ao) a w o r ∨ (drewNan ao r = true ∧ ∀ w, ∃ q w', R1 ρ r q ∧ Drawn w w' ∧ (execOp a.eval o).run P w = .ok (.value q) w')) := by
  have left : ∀ {ao : AOp}, rblk T ao = none → (H' = H ∧ Yld P ρ none a w o r) → H' = H ∧ (Yld P ρ (rblk T ao) a w o r ∨ (drewNan ao r = true ∧ ∀ w, ∃ q w', R1 ρ r q ∧ Drawn w w' ∧ (execOp a.eval o).run P w = .ok (.value q) w')) := fun hb h => ⟨h.1, .inl (by rw [hb]; exact h.2)⟩
  obtain ⟨dst, op, ty, pos, after, guard⟩ := o
  simp only [] at hc
  cases op with
  | move x =>
    simp only [cOp] at hc
    split at hc
    · rename_i y hy
      simp only [Option.some.injEq] at hc; subst hc
      obtain ⟨h1, h2⟩ := y_mov hT hy he
      exact left rfl ⟨h1, _, h2, fun w' _ => rfl⟩
    · cases hc
  | assign x =>
    simp only [cOp] at hc
    split at hc
    · rename_i y hy
      simp only [Option.some.injEq] at hc; subst hc
      obtain ⟨h1, h2⟩ := y_mov hT hy he
      exact left rfl ⟨h1, _, h2, fun w' _ => rfl⟩
    · cases hc
  | pick c x y =>
    simp only [cOp] at hc
    split at hc
    · rename_i c' x' y' h1 h2 h3
      simp only [Option.some.injEq] at hc; subst hc
      exact left rfl (y_pick hT h1 h2 h3 he)
    · cases hc
  | alloc e =>
    simp only [cOp] at hc
    split at hc
    · simp only [Option.some.injEq] at hc; subst hc; simp [quiet] at hq
    · cases hc
  | box e x =>
    simp only [cOp] at hc
    split at hc
    · simp only [Option.some.injEq] at hc; subst hc; simp [quiet] at hq
    · cases hc
  | build t ps =>
    simp only [cOp] at hc
    split at hc
    · rename_i z zero fs hz hu
      split at hc
      · rename_i hs
        split at hc
        · rename_i qs hp
          simp only [Option.some.injEq] at hc; subst hc
          exact left rfl (y_build_struct hT hz hu hs hp he)
        · cases hc
      · cases hc
    · rename_i z zero n e hz hu
      split at hc
      · rename_i sz hs
        split at hc
        · rename_i qs hp
          simp only [Option.some.injEq] at hc; subst hc
          exact left rfl (y_build_array hT hz hu hs hp he)
        · cases hc
      · cases hc
    · cases hc
  | buildSlice t len ps =>
    simp only [cOp] at hc
    split at hc
    · split at hc
      · split at hc
        · split at hc
          · simp only [Option.some.injEq] at hc; subst hc; simp [quiet] at hq
          · cases hc
        · cases hc
      · cases hc
    · cases hc
  | insert => simp [cOp] at hc
  | load t x =>
    simp only [cOp] at hc
    split at hc
    · rename_i z y hz hy
      simp only [Option.some.injEq] at hc; subst hc
      obtain ⟨h1, h2⟩ := y_load (dst := dst) (ty := ty) (pos := pos) (after := after) (guard := guard) hT hH hz hy he
      exact ⟨h1, .inl h2⟩
    · cases hc
  | store t x y =>
    simp only [cOp] at hc
    split at hc
    · simp only [Option.some.injEq] at hc; subst hc; simp [quiet] at hq
    · cases hc
  | ready => simp [cOp] at hc
  | waits => simp [cOp] at hc
  | nilCheck x =>
    simp only [cOp] at hc
    split at hc
    · rename_i y hy
      simp only [Option.some.injEq] at hc; subst hc
      exact left rfl (y_nilCheck hT hy he)
    · cases hc
  | binOp op t x y yt =>
    simp only [cOp] at hc
    split at hc
    · rename_i x' y' hx hy
      unfold cBin at hc
      split at hc
      · simp only [Option.some.injEq] at hc; subst hc; exact y_bin hT hx hy he
      · simp only [Option.some.injEq] at hc; subst hc; exact y_bin hT hx hy he
      · simp only [Option.some.injEq] at hc; subst hc; exact y_bin hT hx hy he
      · rename_i e hu
        split at hc
        · simp only [Option.some.injEq] at hc; subst hc
          refine left rfl (y_isNil hT (op := .eql) rfl hu hx ?_ he)
          exact ev_rel (a := a) (T := T) hT hy (r := .v (.c .nils)) rfl
        · simp only [Option.some.injEq] at hc; subst hc
          refine left rfl (y_isNil hT (op := .neq) rfl hu hx ?_ he)
          exact ev_rel (a := a) (T := T) hT hy (r := .v (.c .nils)) rfl
        · cases hc
      · rename_i hu
        split at hc
        · simp only [Option.some.injEq] at hc; subst hc; exact left rfl (y_eqB hT (op := .eql) rfl hu hx hy he)
        · simp only [Option.some.injEq] at hc; subst hc; exact left rfl (y_eqB hT (op := .neq) rfl hu hx hy he)
        · cases hc
      · split at hc
        · cases hc
        · rename_i n hn
          split at hc
          · cases hc
          · rename_i hg
            split at hc
            · simp only [Option.some.injEq] at hc; subst hc; exact left rfl (y_eqA hT (op := .eql) rfl hn (by simpa using hg) hx hy he)
            · simp only [Option.some.injEq] at hc; subst hc; exact left rfl (y_eqA hT (op := .neq) rfl hn (by simpa using hg) hx hy he)
            · cases hc
      · cases hc
    · cases hc
  | unOp op t x =>
    simp only [cOp] at hc
    split at hc
    · rename_i y hy
      simp only [Option.some.injEq] at hc; subst hc
      exact left rfl (y_un hT hy he)
    · cases hc
  | convert s d x =>
    simp only [cOp] at hc
    split at hc
    · rename_i ds k y hs hd hy
      simp only [Option.some.injEq] at hc; subst hc
      exact left rfl (y_toInt hT hs hd hy he)
    · rename_i ds y hs hd hy
      simp only [Option.some.injEq] at hc; subst hc
      exact left rfl (y_toFlt hT hs hd hy he)
    · cases hc
  | sliceToArrayPointer => simp [cOp] at hc
  | makeInterface => simp [cOp] at hc
  | makeFunc fn first caps =>
    simp only [cOp] at hc
    split at hc
    · rename_i f xs hf hxs
      simp only [Option.some.injEq] at hc; subst hc
      exact left rfl (y_mkFn hT hf hxs he)
    · cases hc
  | makeMap t x =>
    simp only [cOp] at hc
    split at hc
    · simp only [Option.some.injEq] at hc; subst hc; simp [quiet] at hq
    · cases hc
  | makeChan => simp [cOp] at hc
  | makeSlice t l c =>
    simp only [cOp] at hc
    split at hc
    · split at hc
      · split at hc
        · simp only [Option.some.injEq] at hc; subst hc; simp [quiet] at hq
        · cases hc
      · cases hc
    · cases hc
  | slice t x lo hi mx =>
    simp only [cOp] at hc
    split at hc
    · cases hc
    · split at hc
      · rename_i x' lo' hi' hx hlo hhi
        split at hc
        · rename_i n e hu
          split at hc
          · rename_i z hz
            simp only [Option.some.injEq] at hc; subst hc
            exact left rfl (y_slice hT hx hlo hhi (.inl ⟨n, e, rfl, hu, hz⟩) he)
          · cases hc
        · rename_i e hu
          split at hc
          · rename_i z hz
            split at hc
            · simp only [Option.some.injEq] at hc; subst hc
              exact left rfl (y_slice hT hx hlo hhi (.inr ⟨e, rfl, hu, hz⟩) he)
            · cases hc
          · cases hc
        · cases hc
      · cases hc
  | fieldAddr t x i =>
    simp only [cOp] at hc
    split at hc
    · rename_i fs x' hu hx
      split at hc
      · rename_i f hf
        split at hc
        · rename_i z hz
          simp only [Option.some.injEq] at hc; subst hc
          exact left rfl (y_addr hT hu hf hz hx he)
        · cases hc
      · cases hc
    · cases hc
  | field t x i =>
    simp only [cOp] at hc
    split at hc
    · rename_i fs x' hu hx
      split at hc
      · rename_i f hf
        split at hc
        · rename_i z hz
          simp only [Option.some.injEq] at hc; subst hc
          exact left rfl (y_field hT hu hf hz hx he)
        · cases hc
      · cases hc
    · cases hc
  | indexAddr t x i =>
    simp only [cOp] at hc
    split at hc
    · rename_i n e x' i' hu hx hi
      split at hc
      · rename_i z hz
        simp only [Option.some.injEq] at hc; subst hc
        exact left rfl (y_indexAddr_arr hT hu hz hx hi he)
      · cases hc
    · rename_i e x' i' hu hx hi
      split at hc
      · rename_i z hz
        simp only [Option.some.injEq] at hc; subst hc
        exact left rfl (y_indexAddr_slice hT hu hz hx hi he)
      · cases hc
    · cases hc
  | index t x i =>
    simp only [cOp] at hc
    split at hc
    · rename_i s
      split at hc
      · rename_i i' hu hi
        simp only [Option.some.injEq] at hc; subst hc
        exact left rfl (y_strAt hT hu hi he)
      · cases hc
    · split at hc
      · rename_i n e x' i' hu hx hi
        split at hc
        · rename_i z sz hz hs
          simp only [Option.some.injEq] at hc; subst hc
          exact left rfl (y_index hT hu hz hs hx hi he)
        · cases hc
      · cases hc
  | lookup t m k ok =>
    simp only [cOp] at hc
    split at hc
    · rename_i kt e m' k' hu hm hk
      split at hc
      · rename_i key z hkey hz
        simp only [Option.some.injEq] at hc; subst hc
        obtain ⟨h1, h2⟩ := y_lookup (dst := dst) (ty := ty) (pos := pos) (after := after) (guard := guard) hT hH hu hkey hz hm hk he
        exact ⟨h1, .inl h2⟩
      · cases hc
    · cases hc
  | mapUpdate t m k x =>
    simp only [cOp] at hc
    split at hc
    · split at hc
      · simp only [Option.some.injEq] at hc; subst hc; simp [quiet] at hq
      · cases hc
    · cases hc
  | mapEntry t m k =>
    simp only [cOp] at hc
    split at hc
    · split at hc
      · simp only [Option.some.injEq] at hc; subst hc; simp [quiet] at hq
      · cases hc
    · cases hc
  | entryStore t m s x =>
    simp only [cOp] at hc
    split at hc
    · simp only [Option.some.injEq] at hc; subst hc; simp [quiet] at hq
    · cases hc
  | range => simp [cOp] at hc
  | next => simp [cOp] at hc
  | entry => simp [cOp] at hc
  | typeAssert => simp [cOp] at hc
  | extract x i =>
    simp only [cOp] at hc
    split at hc
    · rename_i y hy
      simp only [Option.some.injEq] at hc; subst hc
      exact left rfl (y_extract hT hy he)
    · cases hc
  | call c =>
    simp only [cOp] at hc
    cases ao <;> simp only [quiet] at hq <;> first | (cases hq; done) | skip
    case fbits y => exact left rfl (y_fbits hT hc he)
    case ffrom y => exact left rfl (y_ffrom hT hc he)
    case bi b xs =>
      unfold cCall at hc
      split at hc
      · rename_i b0 hb0
        split at hc
        · rename_i b1 xs1 hb1 hxs1
          simp only [Option.some.injEq, AOp.bi.injEq] at hc
          obtain ⟨rfl, rfl⟩ := hc
          exact left rfl (y_bi hT hb0 hb1 hxs1 hq he)
        · cases hc
      · cases hc
      · split at hc
        · split at hc
          · cases hc
          · split at hc
            · split at hc
              · cases hc
              · split at hc
                · split at hc
                  · cases hc
                  · split at hc
                    · simp at hc
                    · split at hc
                      · simp at hc
                      · split at hc <;> simp at hc
                · cases hc
            · split at hc <;> simp at hc
        · split at hc <;> simp at hc
    all_goals
      exfalso
      unfold cCall at hc
      split at hc
      · split at hc <;> simp at hc
      · cases hc
      · split at hc
        · split at hc
          · cases hc
          · split at hc
            · split at hc
              · cases hc
              · split at hc
                · split at hc
                  · cases hc
                  · split at hc
                    · simp at hc
                    · split at hc
                      · simp at hc
                      · split at hc <;> simp at hc
                · cases hc
            · split at hc <;> simp at hc
        · split at hc <;> simp at hc
  | go => simp [cOp] at hc
  | defer => simp [cOp] at hc
  | panic => simp [cOp] at hc
  | send => simp [cOp] at hc
  | recv => simp [cOp] at hc
  | select => simp [cOp] at hc

/-- Any operation but a call of a Go function. -/
theorem op_does (hT : RT ρ T a.tmps) (hH : RH ρ H w) {o : Oper} {ao : AOp} (hc : cOp P o.op = some ao) (hno : ∀ f xs, ao ≠ .call f xs) (he : evOp callf T ao H = some (r, H')) : Does P ρ H a w o r H' := by
  by_cases hq : quiet ao = true
  · obtain ⟨rfl, h | ⟨_, h⟩⟩ := op_quiet (a := a) hT hH hc hq he
    · exact Does.of_yld hH ⟨rfl, h⟩
    · obtain ⟨q, w', h1, h2, h3⟩ := h w
      exact ⟨q, w', ρ, .inl h3, St.of_drawn hH h2, h1⟩
  obtain ⟨dst, op, ty, pos, after, guard⟩ := o
  simp only [] at hc
  cases op with
  | alloc e =>
    simp only [cOp] at hc
    split at hc
    · rename_i z xs hz
      simp only [Option.some.injEq] at hc; subst hc
      exact d_alloc hH hz he
    · cases hc
  | box e x =>
    simp only [cOp] at hc
    split at hc
    · rename_i y hy
      simp only [Option.some.injEq] at hc; subst hc
      exact d_box hT hH hy he
    · cases hc
  | buildSlice t len ps =>
    simp only [cOp] at hc
    split at hc
    · rename_i e hu
      split at hc
      · rename_i z zero hz
        split at hc
        · rename_i hl
          split at hc
          · rename_i qs hp
            simp only [Option.some.injEq] at hc; subst hc
            exact d_buildSlice hT hH hu hz hl hp he
          · cases hc
        · cases hc
      · cases hc
    · cases hc
  | store t x y =>
    simp only [cOp] at hc
    split at hc
    · rename_i z x' y' hz hx hy
      simp only [Option.some.injEq] at hc; subst hc
      exact d_store hT hH hz hx hy he
    · cases hc
  | makeMap t x =>
    simp only [cOp] at hc
    split at hc
    · simp only [Option.some.injEq] at hc; subst hc
      exact d_mkMap hH he
    · cases hc
  | makeSlice t l c =>
    simp only [cOp] at hc
    split at hc
    · rename_i e hu
      split at hc
      · rename_i z zero i l' c' hz hi hl hc'
        split at hc
        · rename_i hz1
          simp only [Option.some.injEq] at hc; subst hc
          exact d_mkSlice hT hH hu hz hi hz1 hl hc' he
        · cases hc
      · cases hc
    · cases hc
  | mapUpdate t m k x =>
    simp only [cOp] at hc
    split at hc
    · rename_i kt e m' k' x' hu hm hk hx
      split at hc
      · rename_i key hkey
        simp only [Option.some.injEq] at hc; subst hc
        exact d_mapUpdate hT hH hu hkey hm hk hx rfl he
      · cases hc
    · cases hc
  | mapEntry t m k =>
    simp only [cOp] at hc
    split at hc
    · rename_i kt e m' k' hu hm hk
      split at hc
      · rename_i key z hkey hz
        simp only [Option.some.injEq] at hc; subst hc
        exact d_mapEntry hT hH hu hkey hz hm hk he
      · cases hc
    · cases hc
  | entryStore t m s x =>
    simp only [cOp] at hc
    split at hc
    · rename_i m' s' x' hm hs hx
      simp only [Option.some.injEq] at hc; subst hc
      exact d_entryStore hT hH hm hs hx he
    · cases hc
  | call c =>
    simp only [cOp] at hc
    cases ao <;> first | (simp [quiet] at hq; done) | skip
    case call f xs => exact absurd rfl (hno f xs)
    case sqrt y => exact d_sqrt hT hH hc he
    case bi b xs =>
      unfold cCall at hc
      split at hc
      · rename_i b0 hb0
        split at hc
        · rename_i b1 xs1 hb1 hxs1
          simp only [Option.some.injEq, AOp.bi.injEq] at hc
          obtain ⟨rfl, rfl⟩ := hc
          exact d_bi hT hH hb0 hb1 hxs1 he
        · cases hc
      · cases hc
      · split at hc
        · split at hc
          · cases hc
          · split at hc
            · split at hc
              · cases hc
              · split at hc
                · split at hc
                  · cases hc
                  · split at hc
                    · simp at hc
                    · split at hc
                      · simp at hc
                      · split at hc <;> simp at hc
                · cases hc
            · split at hc <;> simp at hc
        · split at hc <;> simp at hc
    all_goals
      exfalso
      unfold cCall at hc
      split at hc
      · split at hc <;> simp at hc
      · cases hc
      · split at hc
        · split at hc
          · cases hc
          · split at hc
            · split at hc
              · cases hc
              · split at hc
                · split at hc
                  · cases hc
                  · split at hc
                    · simp at hc
                    · split at hc
                      · simp at hc
                      · split at hc <;> simp at hc
                · cases hc
            · split at hc <;> simp at hc
        · split at hc <;> simp at hc
  | _ =>
    exfalso
    simp only [cOp, cBin] at hc
    first
      | (cases hc; done)
      | ((repeat' split at hc) <;> first | (cases hc; done) | (simp only [Option.some.injEq] at hc; subst hc; exact hq rfl))
end
end Go.Ev
