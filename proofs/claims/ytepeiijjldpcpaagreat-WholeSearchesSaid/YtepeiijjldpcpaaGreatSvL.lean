/- One operation, and regions in the text's order. No conditions.
-/
import Derived.Test.YtepeiijjldpcpaaGreatSvI
import Derived.OrdersHeld
set_option linter.all false
namespace Go.Sv
variable [gi : GoodC]

section
variable {P : Program} {ρ : Rho} {T : Tr AT} {a : Act} {w : World} {H : AH} {dst : Option Tmp} {ty : TypeId} {pos : String} {after : Array Edge} {guard : Option (Nat × Bool)}
variable {callf : Nat → List AV → AH → Option (AT × AH)} {r : AT} {H' : AH}

theorem cBuiltin_len {b : Builtin} {ts : List TypeId} (h : cBuiltin P b ts = some .lenM) : b = .len ∧ ∃ t k e, ts = [t] ∧ P.underlying t = some (.map k e) := by
  unfold cBuiltin at h
  split at h
  · rename_i t
    split at h
    · simp at h
    · rename_i k e hu; exact ⟨rfl, t, k, e, rfl, hu⟩
    · cases h
  all_goals first | (simp at h; done) | (split at h <;> first | (simp at h; done) | (split at h <;> simp at h))

theorem cBuiltin_max {b : Builtin} {ts : List TypeId} (h : cBuiltin P b ts = some .max) : b = .max := by
  unfold cBuiltin at h
  split at h
  all_goals first | rfl | (simp at h; done) | (split at h <;> first | (simp at h; done) | (split at h <;> simp at h))

theorem cBuiltin_min {b : Builtin} {ts : List TypeId} (h : cBuiltin P b ts = some .min) : b = .min := by
  unfold cBuiltin at h
  split at h
  all_goals first | rfl | (simp at h; done) | (split at h <;> first | (simp at h; done) | (split at h <;> simp at h))

theorem cBuiltin_append {b : Builtin} {ts : List TypeId} {z bytes : Nat} {zero : List AC} (h : cBuiltin P b ts = some (.append z zero bytes)) :
    b = .append ∧ ∃ t u e e' i, ts = [t, u] ∧ P.underlying t = some (.slice e) ∧ P.underlying u = some (.slice e') ∧ cZero P e = some (z, zero) ∧ P.info? e = some i ∧ i.bytes = bytes := by
  unfold cBuiltin at h
  split at h
  case h_7 =>
    rename_i t u
    split at h
    · rename_i e e' hu hu'
      split at h
      · rename_i z' zero' i hz hi
        simp only [Option.some.injEq, ABi.append.injEq] at h
        obtain ⟨rfl, rfl, rfl⟩ := h
        exact ⟨rfl, t, u, e, e', i, rfl, hu, hu', hz, hi, rfl⟩
      · cases h
    · cases h
  all_goals first | (simp at h; done) | (split at h <;> first | (simp at h; done) | (split at h <;> simp at h))

theorem cBuiltin_copy {b : Builtin} {ts : List TypeId} {z : Nat} (h : cBuiltin P b ts = some (.copy z)) : b = .copy ∧ ∃ t u e, ts = [t, u] ∧ P.underlying t = some (.slice e) ∧ cSize P e = some z := by
  unfold cBuiltin at h
  split at h
  case h_8 =>
    rename_i t u
    split at h
    · rename_i e hu
      split at h
      · rename_i z' hz
        simp only [Option.some.injEq, ABi.copy.injEq] at h
        subst h
        exact ⟨rfl, t, u, e, rfl, hu, hz⟩
      · cases h
    · cases h
  all_goals first | (simp at h; done) | (split at h <;> first | (simp at h; done) | (split at h <;> simp at h))

/-- The built-in functions, all of them. -/
theorem d_bi (hT : RT ρ T a.tmps) (hH : RH ρ H w) {c : Call} {b : Builtin} {b' : ABi} {xs : List AOpnd} (hc : c.callee = .builtin b) (hb : cBuiltin P b c.argTypes.toList = some b') (hxs : cOs c.args.toList = some xs) (he : evOp callf T (.bi b' xs) H = some (r, H')) :
    Does P ρ H a w ⟨dst, .call c, ty, pos, after, guard⟩ r H' := by
  by_cases hq : quiet (.bi b' xs) = true
  · exact Does.of_yld hH (y_bi hT hc hb hxs hq he)
  simp only [evOp, biA] at he
  split at he
  · cases he
  rename_i vs hvs
  have hrel := evVs_rel (a := a) hT hxs hvs
  have hargs : ∀ l : List Value, c.args.toList.map a.eval = l → c.args.map a.eval = l.toArray := fun l hl => Array.ext' (by simp [hl])
  split at he
  · simp [quiet] at hq
  · -- len of a nil map
    simp only [Option.some.injEq, Prod.mk.injEq] at he
    obtain ⟨rfl, rfl⟩ := he
    obtain ⟨rfl, t, k, e, h1, h2⟩ := cBuiltin_len hb
    generalize hl : c.args.toList.map a.eval = l at hrel
    cases hrel with
    | cons g0 g1 =>
      cases g1
      have g0' : _ = Value.map none := g0
      subst g0'
      refine Does.bi (b := .len) hc (s := Builtin.len_ c.argTypes ty (c.args.map a.eval)) (v := goInt 0) (w' := w) (fun _ => rfl) ?_ (St.refl hH) rfl
      rw [hargs _ hl, show c.argTypes = #[t] from Array.ext' h1]
      simp [Builtin.len_, run_underlying h2]
  · -- len of a map
    rename_i b0
    split at he
    · rename_i es hes
      simp only [Option.some.injEq, Prod.mk.injEq] at he
      obtain ⟨rfl, rfl⟩ := he
      obtain ⟨rfl, t, k, e, h1, h2⟩ := cBuiltin_len hb
      generalize hl : c.args.toList.map a.eval = l at hrel
      cases hrel with
      | cons g0 g1 =>
        cases g1
        obtain ⟨c0, m0, hc0, rfl⟩ : RC ρ (.map b0) _ := g0
        obtain ⟨_, ens, e1, e2, _⟩ := hH.map hes hc0
        have hg : (getObj c0).run P w = .ok (.map ens ens.size) w := by simp [getObj, Sem.run, e1]
        have hlen : es.length = ens.size := by have := e2.length; simpa using this
        refine Does.bi (b := .len) hc (s := Builtin.len_ c.argTypes ty (c.args.map a.eval)) (v := goInt ens.size) (w' := w) (fun _ => rfl) ?_ (St.refl hH) (by rw [hlen]; rfl)
        rw [hargs _ hl, show c.argTypes = #[t] from Array.ext' h1]
        simp [Builtin.len_, run_underlying h2, hg]
    · cases he
  · simp [quiet] at hq
  · simp [quiet] at hq
  · simp [quiet] at hq
  · -- max
    rename_i x rest
    split at he
    · rename_i z hz
      simp only [Option.some.injEq, Prod.mk.injEq] at he
      obtain ⟨rfl, rfl⟩ := he
      obtain rfl := cBuiltin_max hb
      generalize hl : c.args.toList.map a.eval = l at hrel
      cases hrel with
      | cons g0 g1 =>
        rename_i v m
        obtain ⟨q, w', e1, e2, e3⟩ := run_foldC (P := P) (G := Builtin.max2) (fun h _ _ hu hv w => run_max2 h hu hv w) g1 hz g0 w
        refine Does.bi (b := .max) hc (s := Builtin.max_ c.argTypes ty (c.args.map a.eval)) (v := q) (w' := w') (fun _ => rfl) ?_ (St.of_drawn hH e2) e1
        rw [hargs _ hl]
        exact e3
    · cases he
  · -- min
    rename_i x rest
    split at he
    · rename_i z hz
      simp only [Option.some.injEq, Prod.mk.injEq] at he
      obtain ⟨rfl, rfl⟩ := he
      obtain rfl := cBuiltin_min hb
      generalize hl : c.args.toList.map a.eval = l at hrel
      cases hrel with
      | cons g0 g1 =>
        rename_i v m
        obtain ⟨q, w', e1, e2, e3⟩ := run_foldC (P := P) (G := Builtin.min2) (fun h _ _ hu hv w => run_min2 h hu hv w) g1 hz g0 w
        refine Does.bi (b := .min) hc (s := Builtin.min_ c.argTypes ty (c.args.map a.eval)) (v := q) (w' := w') (fun _ => rfl) ?_ (St.of_drawn hH e2) e1
        rw [hargs _ hl]
        exact e3
    · cases he
  · -- append
    rename_i z zero bytes s x
    obtain ⟨rfl, t, u, e, e', i, h1, h2, h3, h4, h5, rfl⟩ := cBuiltin_append hb
    generalize hl : c.args.toList.map a.eval = l at hrel
    cases hrel with
    | cons g0 g1 =>
      cases g1 with
      | cons g1 g2 =>
        cases g2
        obtain ⟨i', zv, f1, f2, f3, f4, f5⟩ := cZero_spec h4
        rw [h5] at f1
        simp only [Option.some.injEq] at f1
        subst f1
        have hzs : zv.cells.size = zero.length := by have := (f5 ρ).length; simp at this; exact this.symm
        obtain ⟨v, w', ρ', q1, q2, q3⟩ := run_append (P := P) (ty := ty) h2 h3 h5 f2 f3 hzs hH g0 g1 he
        refine Does.bi (b := .append) hc (s := Builtin.append_ c.argTypes ty (c.args.map a.eval)) (fun _ => rfl) ?_ q2 q3
        rw [hargs _ hl, show c.argTypes = #[t, u] from Array.ext' h1]
        exact q1
  · -- copy
    rename_i z d x
    obtain ⟨rfl, t, u, e, h1, h2, h3⟩ := cBuiltin_copy hb
    generalize hl : c.args.toList.map a.eval = l at hrel
    cases hrel with
    | cons g0 g1 =>
      cases g1 with
      | cons g1 g2 =>
        cases g2
        obtain ⟨i, f1, f2⟩ := cSize_spec h3
        obtain ⟨v, w', q1, q2, q3⟩ := run_copy (P := P) (u := u) (ty := ty) h2 f1 f2 hH g0 g1 he
        refine Does.bi (b := .copy) hc (s := Builtin.copy_ c.argTypes ty (c.args.map a.eval)) (fun _ => rfl) ?_ q2 q3
        rw [hargs _ hl, show c.argTypes = #[t, u] from Array.ext' h1]
        exact q1
  · cases he

/- ### Functions without a Go body -/

theorem find_bits {fn : Func} (h : fn.name = "math.Float64bits") : Extern.find fn = some Extern.MathFloatBits.float64bits := by
  unfold Extern.find
  rw [h]
  rfl

theorem find_from {fn : Func} (h : fn.name = "math.Float64frombits") : Extern.find fn = some Extern.MathFloatBits.float64frombits := by
  unfold Extern.find
  rw [h]
  rfl

theorem find_sqrt {fn : Func} (h : fn.name = "math.sqrt") : Extern.find fn = some Extern.MathSqrt.sqrt := by
  unfold Extern.find
  rw [h]
  rfl

theorem exec_fn {c : Call} {f : Operand} {g : Nat} {caps : Array Value} (hc : c.callee = .value f) (hf : a.eval f = .func (.func g) #[] caps) (w : World) :
    (execOp a.eval ⟨dst, .call c, ty, pos, after, guard⟩).run P w = (callFunc g (c.args.map a.eval ++ caps)).run P w := by
  obtain ⟨callee, args, ts⟩ := c
  simp only [] at hc
  subst hc
  simp [execOp, resolve, Deferred.ofValue, hf, invoke]

theorem run_ext {c : Call} {g : Nat} {fn : Func} {e : Array Value → Sem Value} (hc : c.callee = .value (.func g)) (hf : P.funcs[g]? = some fn) (hb : fn.body.isNone = true) (hn : ¬ (Extern.findNext fn).isSome = true) (hname : fn.name ≠ "runtime.NumGoroutine") (he : Extern.find fn = some e) (w : World) :
    (execOp a.eval ⟨dst, .call c, ty, pos, after, guard⟩).run P w = ((e (c.args.map a.eval)).run P w).andThen fun v w' => .ok (.value v) w' := by
  rw [exec_fn (caps := #[]) hc rfl w, Array.append_empty]
  exact run_callFunc_extern hf (by simpa using hname) hb (by simpa using hn) he _ w

theorem cCall_ext {c : Call} {ao : AOp} (h : cCall P c = some ao) (hno : ∀ f xs, ao ≠ .call f xs) (hno' : ∀ b xs, ao ≠ .bi b xs) :
    ∃ g fn x y, c.callee = .value (.func g) ∧ P.funcs[g]? = some fn ∧ fn.body.isNone = true ∧ ¬ (Extern.findNext fn).isSome = true ∧ c.args = #[x] ∧ cO x = some y ∧
      ((fn.name = "math.Float64bits" ∧ ao = .fbits y) ∨ (fn.name = "math.Float64frombits" ∧ ao = .ffrom y) ∨ (fn.name = "math.sqrt" ∧ ao = .sqrt y)) := by
  unfold cCall at h
  split at h
  · split at h
    · simp only [Option.some.injEq] at h; exact absurd h.symm (hno' _ _)
    · cases h
  · cases h
  · rename_i f hf
    split at h
    · rename_i g
      split at h
      · cases h
      · rename_i fn hfn
        split at h
        · rename_i hb
          split at h
          · cases h
          · rename_i hn
            split at h
            · rename_i x hx
              split at h
              · cases h
              · rename_i y hy
                refine ⟨g, fn, x, y, hf, hfn, hb, hn, Array.ext' hx, hy, ?_⟩
                split at h
                · rename_i hname; simp only [Option.some.injEq] at h; exact .inl ⟨hname, h.symm⟩
                · split at h
                  · rename_i hname; simp only [Option.some.injEq] at h; exact .inr (.inl ⟨hname, h.symm⟩)
                  · split at h
                    · rename_i hname; simp only [Option.some.injEq] at h; exact .inr (.inr ⟨hname, h.symm⟩)
                    · cases h
            · cases h
        · split at h
          · simp only [Option.some.injEq] at h; exact absurd h.symm (hno _ _)
          · cases h
    · split at h
      · simp only [Option.some.injEq] at h; exact absurd h.symm (hno _ _)
      · cases h

theorem y_fbits (hT : RT ρ T a.tmps) {c : Call} {y : AOpnd} (hc : cCall P c = some (.fbits y)) (he : evOp callf T (.fbits y) H = some (r, H')) : H' = H ∧ Yld P ρ none a w ⟨dst, .call c, ty, pos, after, guard⟩ r := by
  obtain ⟨g, fn, x, y', h1, h2, h3, h4, h5, h6, h7⟩ := cCall_ext hc (by simp) (by simp)
  rcases h7 with ⟨hn, h7⟩ | ⟨_, h7⟩ | ⟨_, h7⟩ <;> simp only [AOp.fbits.injEq, reduceCtorEq] at h7
  subst h7
  simp only [evOp] at he
  split at he
  · rename_i b hb
    simp only [Option.some.injEq, Prod.mk.injEq] at he
    obtain ⟨rfl, rfl⟩ := he
    obtain ⟨n, hn', hv⟩ := evC_rel (a := a) hT h6 hb
    simp only [RF] at hn'
    subst hn'
    refine ⟨rfl, _, rfl, fun w' _ => ?_⟩
    rw [run_ext h1 h2 h3 h4 (by rw [hn]; decide) (find_bits hn) w', h5]
    simp only [List.map_toArray, List.map_cons, List.map_nil, hv]
    rfl
  · rename_i k F hb
    simp only [Option.some.injEq, Prod.mk.injEq] at he
    obtain ⟨rfl, rfl⟩ := he
    obtain ⟨n, hn', hv⟩ := evC_rel (a := a) hT h6 hb
    obtain ⟨rfl, hF⟩ := hn'
    refine ⟨rfl, _, ⟨rfl, hF⟩, fun w' _ => ?_⟩
    rw [run_ext h1 h2 h3 h4 (by rw [hn]; decide) (find_bits hn) w', h5]
    simp only [List.map_toArray, List.map_cons, List.map_nil, hv]
    rfl
  · cases he

theorem y_ffrom (hT : RT ρ T a.tmps) {c : Call} {y : AOpnd} (hc : cCall P c = some (.ffrom y)) (he : evOp callf T (.ffrom y) H = some (r, H')) : H' = H ∧ Yld P ρ none a w ⟨dst, .call c, ty, pos, after, guard⟩ r := by
  obtain ⟨g, fn, x, y', h1, h2, h3, h4, h5, h6, h7⟩ := cCall_ext hc (by simp) (by simp)
  rcases h7 with ⟨_, h7⟩ | ⟨hn, h7⟩ | ⟨_, h7⟩ <;> simp only [AOp.ffrom.injEq, reduceCtorEq] at h7
  subst h7
  simp only [evOp] at he
  split at he
  · rename_i n hb
    simp only [Option.some.injEq, Prod.mk.injEq] at he
    obtain ⟨rfl, rfl⟩ := he
    have hv : a.eval x = .int .u64 n := evC_rel (a := a) hT h6 hb
    refine ⟨rfl, _, ⟨_, rfl, rfl⟩, fun w' _ => ?_⟩
    rw [run_ext h1 h2 h3 h4 (by rw [hn]; decide) (find_from hn) w', h5]
    simp only [List.map_toArray, List.map_cons, List.map_nil, hv]
    rfl
  · rename_i k F hb
    simp only [Option.some.injEq, Prod.mk.injEq] at he
    obtain ⟨rfl, rfl⟩ := he
    obtain ⟨hv, hF⟩ := evC_rel (a := a) hT h6 hb
    refine ⟨rfl, _, ⟨k, ⟨rfl, hF⟩, rfl⟩, fun w' _ => ?_⟩
    rw [run_ext h1 h2 h3 h4 (by rw [hn]; decide) (find_from hn) w', h5]
    simp only [List.map_toArray, List.map_cons, List.map_nil, hv]
    rfl
  · cases he

theorem d_sqrt (hT : RT ρ T a.tmps) (hH : RH ρ H w) {c : Call} {y : AOpnd} (hc : cCall P c = some (.sqrt y)) (he : evOp callf T (.sqrt y) H = some (r, H')) : Does P ρ H a w ⟨dst, .call c, ty, pos, after, guard⟩ r H' := by
  obtain ⟨g, fn, x, y', h1, h2, h3, h4, h5, h6, h7⟩ := cCall_ext hc (by simp) (by simp)
  rcases h7 with ⟨_, h7⟩ | ⟨_, h7⟩ | ⟨hn, h7⟩ <;> simp only [AOp.sqrt.injEq, reduceCtorEq] at h7
  subst h7
  simp only [evOp] at he
  split at he
  · rename_i b hb
    simp only [Option.some.injEq, Prod.mk.injEq] at he
    obtain ⟨rfl, rfl⟩ := he
    obtain ⟨n, hn', hv⟩ := evC_rel (a := a) hT h6 hb
    simp only [RF] at hn'
    subst hn'
    have hrun := run_ext (P := P) (a := a) (dst := dst) (ty := ty) (pos := pos) (after := after) (guard := guard) h1 h2 h3 h4 (by rw [hn]; decide) (find_sqrt hn) w
    rw [h5] at hrun
    simp only [List.map_toArray, List.map_cons, List.map_nil, hv] at hrun
    have hsq : Extern.MathSqrt.sqrt #[.float .f64 n] = (match FloatKind.f64.format.sqrt n with | some r => pure (.float .f64 r) | none => do pure (.float .f64 (← choose (.nanBits .f64 n n)))) := rfl
    rw [hsq] at hrun
    cases hs : FloatKind.f64.format.sqrt n with
    | some q =>
      simp only [hs, Sem.run_pure, Result.andThen_ok] at hrun
      exact ⟨_, w, ρ, .inl hrun, St.refl hH, ⟨q, rfl, rfl⟩⟩
    | none =>
      simp only [hs, Sem.run_bind, run_choose, Question.forced, Bool.false_eq_true, if_false, Result.andThen_ok, Sem.run_pure] at hrun
      exact ⟨_, _, ρ, .inl hrun, St.of_drawn hH (Drawn.drew w), ⟨_, nan_bits _, rfl⟩⟩
  · rename_i k F hb
    split at he
    · rename_i bb hbd
      cases hl : Nat.beq F.lw 2 && Nat.ble bb top
      · rw [hl] at he; cases he
      · rw [hl, cond_true] at he
        simp only [Option.some.injEq, Prod.mk.injEq] at he
        obtain ⟨rfl, rfl⟩ := he
        simp only [Bool.and_eq_true] at hl
        obtain ⟨n, hn', hv⟩ := evC_rel (a := a) hT h6 hb
        obtain ⟨rfl, hF⟩ := hn'
        obtain ⟨hs, hK⟩ := sqrtS_ok hF hbd (Nat.eq_of_beq_eq_true hl.1) (Nat.le_of_ble_eq_true hl.2)
        have hrun := run_ext (P := P) (a := a) (dst := dst) (ty := ty) (pos := pos) (after := after) (guard := guard) h1 h2 h3 h4 (by rw [hn]; decide) (find_sqrt hn) w
        rw [h5] at hrun
        simp only [List.map_toArray, List.map_cons, List.map_nil, hv] at hrun
        have hsq : Extern.MathSqrt.sqrt #[.float .f64 n] = (match FloatKind.f64.format.sqrt n with | some r => pure (.float .f64 r) | none => do pure (.float .f64 (← choose (.nanBits .f64 n n)))) := rfl
        rw [hsq] at hrun
        have hs' : FloatKind.f64.format.sqrt n = some (fsqrt n) := hs
        simp only [hs', Sem.run_pure, Result.andThen_ok] at hrun
        exact ⟨_, w, ρ, .inl hrun, St.refl hH, ⟨_, ⟨rfl, hK⟩, rfl⟩⟩
    · cases he
  · cases he

/- ### Any operation -/

theorem beq_neg {op : BinOp} : (op = if true then BinOp.neq else .eql) = (op = .neq) := by simp

/-- An operation that only looks. -/
theorem op_quiet (hT : RT ρ T a.tmps) (hH : RH ρ H w) {o : Oper} {ao : AOp} (hc : cOp P o.op = some ao) (hq : quiet ao = true) (he : evOp callf T ao H = some (r, H')) :
    H' = H ∧ (Yld P ρ (rblk T ao) a w o r ∨ (drewNan ao r = true ∧ ∀ w, ∃ q w', R1 ρ r q ∧ Drawn w w' ∧ (execOp a.eval o).run P w = .ok (.value q) w')) := by
  have left : ∀ {ao : AOp}, rblk T ao = none → (H' = H ∧ Yld P ρ none a w o r) → H' = H ∧ (Yld P ρ (rblk T ao) a w o r ∨ (drewNan ao r = true ∧ ∀ w, ∃ q w', R1 ρ r q ∧ Drawn w w' ∧ (execOp a.eval o).run P w = .ok (.value q) w')) := fun hb h => ⟨h.1, .inl (by rw [hb]; exact h.2)⟩
  obtain ⟨dst, op, ty, pos, after, guard⟩ := o
  simp only [] at hc
  cases op with
  | move x =>
    simp only [cOp] at hc
    split at hc
    · rename_i y hy
      simp only [Option.some.injEq] at hc; subst hc
      obtain ⟨h1, h2⟩ := y_mov hT hy he
      exact left rfl ⟨h1, _, h2, fun w' _ => rfl⟩
    · cases hc
  | assign x =>
    simp only [cOp] at hc
    split at hc
    · rename_i y hy
      simp only [Option.some.injEq] at hc; subst hc
      obtain ⟨h1, h2⟩ := y_mov hT hy he
      exact left rfl ⟨h1, _, h2, fun w' _ => rfl⟩
    · cases hc
  | pick c x y =>
    simp only [cOp] at hc
    split at hc
    · rename_i c' x' y' h1 h2 h3
      simp only [Option.some.injEq] at hc; subst hc
      exact left rfl (y_pick hT h1 h2 h3 he)
    · cases hc
  | alloc e =>
    simp only [cOp] at hc
    split at hc
    · simp only [Option.some.injEq] at hc; subst hc; simp [quiet] at hq
    · cases hc
  | box e x =>
    simp only [cOp] at hc
    split at hc
    · simp only [Option.some.injEq] at hc; subst hc; simp [quiet] at hq
    · cases hc
  | build t ps =>
    simp only [cOp] at hc
    split at hc
    · rename_i z zero fs hz hu
      split at hc
      · rename_i hs
        split at hc
        · rename_i qs hp
          simp only [Option.some.injEq] at hc; subst hc
          exact left rfl (y_build_struct hT hz hu hs hp he)
        · cases hc
      · cases hc
    · rename_i z zero n e hz hu
      split at hc
      · rename_i sz hs
        split at hc
        · rename_i qs hp
          simp only [Option.some.injEq] at hc; subst hc
          exact left rfl (y_build_array hT hz hu hs hp he)
        · cases hc
      · cases hc
    · cases hc
  | buildSlice t len ps =>
    simp only [cOp] at hc
    split at hc
    · split at hc
      · split at hc
        · split at hc
          · simp only [Option.some.injEq] at hc; subst hc; simp [quiet] at hq
          · cases hc
        · cases hc
      · cases hc
    · cases hc
  | insert => simp [cOp] at hc
  | load t x =>
    simp only [cOp] at hc
    split at hc
    · rename_i z y hz hy
      simp only [Option.some.injEq] at hc; subst hc
      obtain ⟨h1, h2⟩ := y_load (dst := dst) (ty := ty) (pos := pos) (after := after) (guard := guard) hT hH hz hy he
      exact ⟨h1, .inl h2⟩
    · cases hc
  | store t x y =>
    simp only [cOp] at hc
    split at hc
    · simp only [Option.some.injEq] at hc; subst hc; simp [quiet] at hq
    · cases hc
  | ready => simp [cOp] at hc
  | waits => simp [cOp] at hc
  | nilCheck x =>
    simp only [cOp] at hc
    split at hc
    · rename_i y hy
      simp only [Option.some.injEq] at hc; subst hc
      exact left rfl (y_nilCheck hT hy he)
    · cases hc
  | binOp op t x y yt =>
    simp only [cOp] at hc
    split at hc
    · rename_i x' y' hx hy
      unfold cBin at hc
      split at hc
      · simp only [Option.some.injEq] at hc; subst hc; exact y_bin hT hx hy he
      · simp only [Option.some.injEq] at hc; subst hc; exact y_bin hT hx hy he
      · simp only [Option.some.injEq] at hc; subst hc; exact y_bin hT hx hy he
      · rename_i e hu
        split at hc
        · simp only [Option.some.injEq] at hc; subst hc
          refine left rfl (y_isNil hT (op := .eql) rfl hu hx ?_ he)
          exact ev_rel (a := a) (T := T) hT hy (r := .v (.c .nils)) rfl
        · simp only [Option.some.injEq] at hc; subst hc
          refine left rfl (y_isNil hT (op := .neq) rfl hu hx ?_ he)
          exact ev_rel (a := a) (T := T) hT hy (r := .v (.c .nils)) rfl
        · cases hc
      · rename_i hu
        split at hc
        · simp only [Option.some.injEq] at hc; subst hc; exact left rfl (y_eqB hT (op := .eql) rfl hu hx hy he)
        · simp only [Option.some.injEq] at hc; subst hc; exact left rfl (y_eqB hT (op := .neq) rfl hu hx hy he)
        · cases hc
      · split at hc
        · cases hc
        · rename_i n hn
          split at hc
          · cases hc
          · rename_i hg
            split at hc
            · simp only [Option.some.injEq] at hc; subst hc; exact left rfl (y_eqA hT (op := .eql) rfl hn (by simpa using hg) hx hy he)
            · simp only [Option.some.injEq] at hc; subst hc; exact left rfl (y_eqA hT (op := .neq) rfl hn (by simpa using hg) hx hy he)
            · cases hc
      · cases hc
    · cases hc
  | unOp op t x =>
    simp only [cOp] at hc
    split at hc
    · rename_i y hy
      simp only [Option.some.injEq] at hc; subst hc
      exact left rfl (y_un hT hy he)
    · cases hc
  | convert s d x =>
    simp only [cOp] at hc
    split at hc
    · rename_i ds k y hs hd hy
      simp only [Option.some.injEq] at hc; subst hc
      exact left rfl (y_toInt hT hs hd hy he)
    · rename_i ds y hs hd hy
      simp only [Option.some.injEq] at hc; subst hc
      exact left rfl (y_toFlt hT hs hd hy he)
    · cases hc
  | sliceToArrayPointer => simp [cOp] at hc
  | makeInterface => simp [cOp] at hc
  | makeFunc fn first caps =>
    simp only [cOp] at hc
    split at hc
    · rename_i f xs hf hxs
      simp only [Option.some.injEq] at hc; subst hc
      exact left rfl (y_mkFn hT hf hxs he)
    · cases hc
  | makeMap t x =>
    simp only [cOp] at hc
    split at hc
    · simp only [Option.some.injEq] at hc; subst hc; simp [quiet] at hq
    · cases hc
  | makeChan => simp [cOp] at hc
  | makeSlice t l c =>
    simp only [cOp] at hc
    split at hc
    · split at hc
      · split at hc
        · simp only [Option.some.injEq] at hc; subst hc; simp [quiet] at hq
        · cases hc
      · cases hc
    · cases hc
  | slice t x lo hi mx =>
    simp only [cOp] at hc
    split at hc
    · cases hc
    · split at hc
      · rename_i x' lo' hi' hx hlo hhi
        split at hc
        · rename_i n e hu
          split at hc
          · rename_i z hz
            simp only [Option.some.injEq] at hc; subst hc
            exact left rfl (y_slice hT hx hlo hhi (.inl ⟨n, e, rfl, hu, hz⟩) he)
          · cases hc
        · rename_i e hu
          split at hc
          · rename_i z hz
            split at hc
            · simp only [Option.some.injEq] at hc; subst hc
              exact left rfl (y_slice hT hx hlo hhi (.inr ⟨e, rfl, hu, hz⟩) he)
            · cases hc
          · cases hc
        · cases hc
      · cases hc
  | fieldAddr t x i =>
    simp only [cOp] at hc
    split at hc
    · rename_i fs x' hu hx
      split at hc
      · rename_i f hf
        split at hc
        · rename_i z hz
          simp only [Option.some.injEq] at hc; subst hc
          exact left rfl (y_addr hT hu hf hz hx he)
        · cases hc
      · cases hc
    · cases hc
  | field t x i =>
    simp only [cOp] at hc
    split at hc
    · rename_i fs x' hu hx
      split at hc
      · rename_i f hf
        split at hc
        · rename_i z hz
          simp only [Option.some.injEq] at hc; subst hc
          exact left rfl (y_field hT hu hf hz hx he)
        · cases hc
      · cases hc
    · cases hc
  | indexAddr t x i =>
    simp only [cOp] at hc
    split at hc
    · rename_i n e x' i' hu hx hi
      split at hc
      · rename_i z hz
        simp only [Option.some.injEq] at hc; subst hc
        exact left rfl (y_indexAddr_arr hT hu hz hx hi he)
      · cases hc
    · rename_i e x' i' hu hx hi
      split at hc
      · rename_i z hz
        simp only [Option.some.injEq] at hc; subst hc
        exact left rfl (y_indexAddr_slice hT hu hz hx hi he)
      · cases hc
    · cases hc
  | index t x i =>
    simp only [cOp] at hc
    split at hc
    · rename_i s
      split at hc
      · rename_i i' hu hi
        simp only [Option.some.injEq] at hc; subst hc
        exact left rfl (y_strAt hT hu hi he)
      · cases hc
    · split at hc
      · rename_i n e x' i' hu hx hi
        split at hc
        · rename_i z sz hz hs
          simp only [Option.some.injEq] at hc; subst hc
          exact left rfl (y_index hT hu hz hs hx hi he)
        · cases hc
      · cases hc
  | lookup t m k ok =>
    simp only [cOp] at hc
    split at hc
    · rename_i kt e m' k' hu hm hk
      split at hc
      · rename_i key z hkey hz
        simp only [Option.some.injEq] at hc; subst hc
        obtain ⟨h1, h2⟩ := y_lookup (dst := dst) (ty := ty) (pos := pos) (after := after) (guard := guard) hT hH hu hkey hz hm hk he
        exact ⟨h1, .inl h2⟩
      · cases hc
    · cases hc
  | mapUpdate t m k x =>
    simp only [cOp] at hc
    split at hc
    · split at hc
      · simp only [Option.some.injEq] at hc; subst hc; simp [quiet] at hq
      · cases hc
    · cases hc
  | mapEntry t m k =>
    simp only [cOp] at hc
    split at hc
    · split at hc
      · simp only [Option.some.injEq] at hc; subst hc; simp [quiet] at hq
      · cases hc
    · cases hc
  | entryStore t m s x =>
    simp only [cOp] at hc
    split at hc
    · simp only [Option.some.injEq] at hc; subst hc; simp [quiet] at hq
    · cases hc
  | range => simp [cOp] at hc
  | next => simp [cOp] at hc
  | entry => simp [cOp] at hc
  | typeAssert => simp [cOp] at hc
  | extract x i =>
    simp only [cOp] at hc
    split at hc
    · rename_i y hy
      simp only [Option.some.injEq] at hc; subst hc
      exact left rfl (y_extract hT hy he)
    · cases hc
  | call c =>
    simp only [cOp] at hc
    cases ao <;> simp only [quiet] at hq <;> first | (cases hq; done) | skip
    case fbits y => exact left rfl (y_fbits hT hc he)
    case ffrom y => exact left rfl (y_ffrom hT hc he)
    case bi b xs =>
      unfold cCall at hc
      split at hc
      · rename_i b0 hb0
        split at hc
        · rename_i b1 xs1 hb1 hxs1
          simp only [Option.some.injEq, AOp.bi.injEq] at hc
          obtain ⟨rfl, rfl⟩ := hc
          exact left rfl (y_bi hT hb0 hb1 hxs1 hq he)
        · cases hc
      · cases hc
      · split at hc
        · split at hc
          · cases hc
          · split at hc
            · split at hc
              · cases hc
              · split at hc
                · split at hc
                  · cases hc
                  · split at hc
                    · simp at hc
                    · split at hc
                      · simp at hc
                      · split at hc <;> simp at hc
                · cases hc
            · split at hc <;> simp at hc
        · split at hc <;> simp at hc
    all_goals
      exfalso
      unfold cCall at hc
      split at hc
      · split at hc <;> simp at hc
      · cases hc
      · split at hc
        · split at hc
          · cases hc
          · split at hc
            · split at hc
              · cases hc
              · split at hc
                · split at hc
                  · cases hc
                  · split at hc
                    · simp at hc
                    · split at hc
                      · simp at hc
                      · split at hc <;> simp at hc
                · cases hc
            · split at hc <;> simp at hc
        · split at hc <;> simp at hc
  | go => simp [cOp] at hc
  | defer => simp [cOp] at hc
  | panic => simp [cOp] at hc
  | send => simp [cOp] at hc
  | recv => simp [cOp] at hc
  | select => simp [cOp] at hc

/-- Any operation but a call of a Go function. -/
theorem op_does (hT : RT ρ T a.tmps) (hH : RH ρ H w) {o : Oper} {ao : AOp} (hc : cOp P o.op = some ao) (hno : ∀ f xs, ao ≠ .call f xs) (he : evOp callf T ao H = some (r, H')) : Does P ρ H a w o r H' := by
  by_cases hq : quiet ao = true
  · obtain ⟨rfl, h | ⟨_, h⟩⟩ := op_quiet (a := a) hT hH hc hq he
    · exact Does.of_yld hH ⟨rfl, h⟩
    · obtain ⟨q, w', h1, h2, h3⟩ := h w
      exact ⟨q, w', ρ, .inl h3, St.of_drawn hH h2, h1⟩
  obtain ⟨dst, op, ty, pos, after, guard⟩ := o
  simp only [] at hc
  cases op with
  | alloc e =>
    simp only [cOp] at hc
    split at hc
    · rename_i z xs hz
      simp only [Option.some.injEq] at hc; subst hc
      exact d_alloc hH hz he
    · cases hc
  | box e x =>
    simp only [cOp] at hc
    split at hc
    · rename_i y hy
      simp only [Option.some.injEq] at hc; subst hc
      exact d_box hT hH hy he
    · cases hc
  | buildSlice t len ps =>
    simp only [cOp] at hc
    split at hc
    · rename_i e hu
      split at hc
      · rename_i z zero hz
        split at hc
        · rename_i hl
          split at hc
          · rename_i qs hp
            simp only [Option.some.injEq] at hc; subst hc
            exact d_buildSlice hT hH hu hz hl hp he
          · cases hc
        · cases hc
      · cases hc
    · cases hc
  | store t x y =>
    simp only [cOp] at hc
    split at hc
    · rename_i z x' y' hz hx hy
      simp only [Option.some.injEq] at hc; subst hc
      exact d_store hT hH hz hx hy he
    · cases hc
  | makeMap t x =>
    simp only [cOp] at hc
    split at hc
    · simp only [Option.some.injEq] at hc; subst hc
      exact d_mkMap hH he
    · cases hc
  | makeSlice t l c =>
    simp only [cOp] at hc
    split at hc
    · rename_i e hu
      split at hc
      · rename_i z zero i l' c' hz hi hl hc'
        split at hc
        · rename_i hz1
          simp only [Option.some.injEq] at hc; subst hc
          exact d_mkSlice hT hH hu hz hi hz1 hl hc' he
        · cases hc
      · cases hc
    · cases hc
  | mapUpdate t m k x =>
    simp only [cOp] at hc
    split at hc
    · rename_i kt e m' k' x' hu hm hk hx
      split at hc
      · rename_i key hkey
        simp only [Option.some.injEq] at hc; subst hc
        exact d_mapUpdate hT hH hu hkey hm hk hx rfl he
      · cases hc
    · cases hc
  | mapEntry t m k =>
    simp only [cOp] at hc
    split at hc
    · rename_i kt e m' k' hu hm hk
      split at hc
      · rename_i key z hkey hz
        simp only [Option.some.injEq] at hc; subst hc
        exact d_mapEntry hT hH hu hkey hz hm hk he
      · cases hc
    · cases hc
  | entryStore t m s x =>
    simp only [cOp] at hc
    split at hc
    · rename_i m' s' x' hm hs hx
      simp only [Option.some.injEq] at hc; subst hc
      exact d_entryStore hT hH hm hs hx he
    · cases hc
  | call c =>
    simp only [cOp] at hc
    cases ao <;> first | (simp [quiet] at hq; done) | skip
    case call f xs => exact absurd rfl (hno f xs)
    case sqrt y => exact d_sqrt hT hH hc he
    case bi b xs =>
      unfold cCall at hc
      split at hc
      · rename_i b0 hb0
        split at hc
        · rename_i b1 xs1 hb1 hxs1
          simp only [Option.some.injEq, AOp.bi.injEq] at hc
          obtain ⟨rfl, rfl⟩ := hc
          exact d_bi hT hH hb0 hb1 hxs1 he
        · cases hc
      · cases hc
      · split at hc
        · split at hc
          · cases hc
          · split at hc
            · split at hc
              · cases hc
              · split at hc
                · split at hc
                  · cases hc
                  · split at hc
                    · simp at hc
                    · split at hc
                      · simp at hc
                      · split at hc <;> simp at hc
                · cases hc
            · split at hc <;> simp at hc
        · split at hc <;> simp at hc
    all_goals
      exfalso
      unfold cCall at hc
      split at hc
      · split at hc <;> simp at hc
      · cases hc
      · split at hc
        · split at hc
          · cases hc
          · split at hc
            · split at hc
              · cases hc
              · split at hc
                · split at hc
                  · cases hc
                  · split at hc
                    · simp at hc
                    · split at hc
                      · simp at hc
                      · split at hc <;> simp at hc
                · cases hc
            · split at hc <;> simp at hc
        · split at hc <;> simp at hc
  | _ =>
    exfalso
    simp only [cOp, cBin] at hc
    first
      | (cases hc; done)
      | ((repeat' split at hc) <;> first | (cases hc; done) | (simp only [Option.some.injEq] at hc; subst hc; exact hq rfl))
end
end Go.Sv

namespace Go.Sv
variable [gi : GoodC]

section
variable {P : Program} {callf : Nat → List AV → AH → Option (AT × AH)}

/-- What the evaluator says of a call is what the call does. -/
def CallsOK (P : Program) (callf : Nat → List AV → AH → Option (AT × AH)) : Prop := ∀ f args H r H', callf f args H = some (r, H') →
  (∃ fn, P.funcs[f]? = some fn ∧ fn.name ≠ "runtime.NumGoroutine" ∧ fn.body.isSome = true) ∧
  ∀ (ρ : Rho) (w : World) (vs : List Value), RH ρ H w → All2 (RV ρ) args vs → Calls P f vs.toArray w fun e w' => ∃ v ρ', e = .returned v ∧ St ρ H w ρ' H' w' ∧ R1 ρ' r v

theorem cCall_call {c : Call} {f : AOpnd} {xs : List AOpnd} (h : cCall P c = some (.call f xs)) : ∃ f0, c.callee = .value f0 ∧ cO f0 = some f ∧ cOs c.args.toList = some xs := by
  unfold cCall at h
  split at h
  · split at h <;> simp at h
  · cases h
  · rename_i f0 hf0
    split at h
    · rename_i g
      split at h
      · cases h
      · split at h
        · split at h
          · cases h
          · split at h
            · split at h
              · cases h
              · split at h
                · simp at h
                · split at h
                  · simp at h
                  · split at h <;> simp at h
            · cases h
        · split at h
          · rename_i xs' hxs
            simp only [Option.some.injEq, AOp.call.injEq] at h
            obtain ⟨rfl, rfl⟩ := h
            exact ⟨_, hf0, rfl, hxs⟩
          · cases h
    · split at h
      · rename_i f' xs' hf' hxs
        simp only [Option.some.injEq, AOp.call.injEq] at h
        obtain ⟨rfl, rfl⟩ := h
        exact ⟨_, hf0, hf', hxs⟩
      · cases h

theorem caps_rel {ρ : Rho} {caps : List (Nat × Nat)} {vs : List Value} (h : All2 (RPtr ρ) caps vs) : All2 (RV ρ) (caps.map fun (b, o) => AV.c (.ptr b o)) vs := by
  induction h with
  | nil => exact .nil
  | cons h0 _ ih => exact .cons h0 ih

/-- One operation, a call or not. -/
theorem op_wp (hcall : CallsOK P callf) {ρ : Rho} {T : Tr AT} {a : Act} {w : World} {H H' : AH} {r : AT} (hT : RT ρ T a.tmps) (hH : RH ρ H w) {o : Oper} {ao : AOp} (hc : cOp P o.op = some ao) (he : evOp callf T ao H = some (r, H'))
    {next : Act → World → Prop} {Q : Exit → Act → World → Prop} (hn : ∀ v w' ρ', St ρ H w ρ' H' w' → R1 ρ' r v → next (a.put o.dst v) w') : o.wp P a w next Q := by
  by_cases hcl : ∃ f xs, ao = .call f xs
  · obtain ⟨f, xs, rfl⟩ := hcl
    have hop : ∃ c, o.op = .call c ∧ cCall P c = some (.call f xs) := by
      obtain ⟨dst, op, ty, pos, after, guard⟩ := o
      simp only [] at hc
      cases op with
      | call c => exact ⟨c, rfl, hc⟩
      | _ =>
        exfalso
        simp only [cOp, cBin] at hc
        first
          | (cases hc; done)
          | ((repeat' split at hc) <;> first | (cases hc; done) | (simp at hc; done))
    obtain ⟨c, ho, hcc⟩ := hop
    obtain ⟨f0, h1, h2, h3⟩ := cCall_call hcc
    simp only [evOp] at he
    split at he
    · rename_i g caps vs hf hvs
      rw [fzVs_eq] at he
      obtain ⟨capv, hfv, hcap⟩ := evC_rel (a := a) hT h2 hf
      have hargs := evVs_rel (a := a) hT h3 hvs
      obtain ⟨⟨fn, g1, g2, g3⟩, hcalls⟩ := hcall _ _ _ _ _ he
      have hrel := hargs.append (caps_rel hcap)
      have hC := hcalls ρ w _ hH hrel
      obtain ⟨dst, op, ty, pos, after, guard⟩ := o
      simp only [] at ho
      subst ho
      have hrun := exec_fn (P := P) (a := a) (dst := dst) (ty := ty) (pos := pos) (after := after) (guard := guard) h1 hfv w
      have hargsv : c.args.map a.eval ++ capv.toArray = (c.args.toList.map a.eval ++ capv).toArray := by
        apply Array.ext'
        simp
      have hent : (callFunc g (c.args.map a.eval ++ capv.toArray)).run P w = .ok (.enter g (c.args.toList.map a.eval ++ capv).toArray) w := by
        rw [hargsv]
        cases hbody : fn.body with
        | none => simp [hbody] at g3
        | some code => simp [callFunc, g1, g2, hbody]
      unfold Oper.wp
      rw [hrun, hent, Oper.upon_enter]
      refine hC.mono fun e w' he' => ?_
      obtain ⟨v, ρ', rfl, hst, hr⟩ := he'
      exact hn v w' ρ' hst hr
    · cases he
  · obtain ⟨v, w', ρ', hrun, hst, hr⟩ := op_does (a := a) hT hH hc (fun f xs e => hcl ⟨f, xs, e⟩) he
    unfold Oper.wp
    rcases hrun with h | ⟨h, rfl⟩
    · rw [h, Oper.upon_value]; exact hn v w' ρ' hst hr
    · rw [h, Oper.upon_skip]; exact hn undef w' ρ' hst hr

/- ### Blocks that are kept -/

theorem addP_spec {H : AH} {e : Option Nat} {inc p : List Nat} : ∀ {ls : List LR} {q : List Nat}, addP H e inc p ls = some q →
    (∀ i, i ∈ p → i ∈ q) ∧ (∀ i, i ∈ q → i ∈ p ∨ ∃ o, H.t.get i = some o) ∧ ∀ x ∈ ls, memN inc x.i = true → askAgain e x = false → x.b ∈ q ∧ ∃ o, H.t.get x.b = some o
  | [], q, h => by simp [addP] at h; subst h; exact ⟨fun _ h => h, fun _ h => .inl h, by simp⟩
  | x :: ls, q, h => by
    simp only [addP] at h
    split at h
    · cases h
    · rename_i q1 h1
      obtain ⟨g1, g2, g3⟩ := addP_spec h1
      cases hm : memN inc x.i && !askAgain e x
      · rw [hm, cond_false] at h
        simp only [Option.some.injEq] at h
        subst h
        refine ⟨g1, g2, fun y hy hi ha => ?_⟩
        rcases List.mem_cons.1 hy with rfl | hy
        · rw [hi, ha] at hm; simp at hm
        · exact g3 y hy hi ha
      · rw [hm, cond_true] at h
        split at h
        · rename_i o ho
          simp only [Option.some.injEq] at h
          subst h
          refine ⟨fun i hi => List.mem_cons_of_mem _ (g1 i hi), fun i hi => ?_, fun y hy hi ha => ?_⟩
          · rcases List.mem_cons.1 hi with rfl | hi
            · exact .inr ⟨o, ho⟩
            · exact g2 i hi
          · rcases List.mem_cons.1 hy with rfl | hy
            · exact ⟨List.mem_cons_self, o, ho⟩
            · obtain ⟨e1, e2⟩ := g3 y hy hi ha
              exact ⟨List.mem_cons_of_mem _ e1, e2⟩
        · cases h

/-- What is kept besides is given free again. -/
theorem St.unkeep {ρ ρ' : Rho} {H H₁ : AH} {w w' : World} {q : List Nat} (h : St ρ { t := H.t, n := H.n, p := q } w ρ' H₁ w') (hH : RH ρ H w) (h1 : ∀ i, i ∈ H.p → i ∈ q) (h2 : ∀ i, i ∈ q → i ∈ H.p ∨ ∃ o, H.t.get i = some o) :
    St ρ H w ρ' { t := H₁.t, n := H₁.n, p := H.p } w' := by
  refine ⟨h.ext, h.rh.congr (fun _ => rfl) rfl, rfl, fun c hc hw => h.frame c hc (fun ⟨i, o, m, g1, g2, g3⟩ => hw ⟨i, o, m, g1, fun hp => g2 (h1 i hp), g3⟩), fun c hc => ?_, fun c hc => h.live c hc, h.os, h.tape, h.output, h.size⟩
  obtain ⟨i, o, m, g1, g2, g3⟩ := hc
  have hp1 : H₁.p = q := h.p
  by_cases hi : i ∈ q
  · rcases h2 i hi with hp | ⟨o', ho'⟩
    · exact absurd hp g2
    · obtain ⟨c', m', obj, e1, _, _⟩ := hH.blk i o' ho'
      have := h.ext.le i _ e1
      rw [g3] at this
      obtain ⟨rfl, rfl⟩ : c = c' ∧ m = m' := by simpa using this
      exact .inr ⟨i, o', m, ho', g2, e1⟩
  · rcases h.own c ⟨i, o, m, g1, by rw [hp1]; exact hi, g3⟩ with hs | ⟨j, o', m', e1, e2, e3⟩
    · exact .inl hs
    · exact .inr ⟨j, o', m', e1, fun hp => e2 (h1 j hp), e3⟩

/-- A kept block is as it was. -/
theorem St.kept {ρ ρ' : Rho} {H H₁ : AH} {w w' : World} (h : St ρ H w ρ' H₁ w') (hH : RH ρ H w) {b c m : Nat} {o : AO} (hb : H.t.get b = some o) (hc : ρ b = some (c, m)) (hp : b ∈ H.p) : w'.heap[c]? = w.heap[c]? := by
  refine h.frame c (hH.lt hb hc) fun ⟨i, o', m', e1, e2, e3⟩ => e2 ?_
  rw [hH.inj i b o' o c m' m e1 hb e3 hc]
  exact hp

/- ### Slots -/

theorem RT.put {ρ : Rho} {T : Tr AT} {a : Act} (hT : RT ρ T a.tmps) {dst : Option Tmp} {r : AT} {v : Value} (hr : R1 ρ r v) {nt : Nat} (hd : dstOk nt dst = true) (hn : nt ≤ a.tmps.size) : RT ρ (putT T dst r) (a.put dst v).tmps := by
  cases dst with
  | none => exact hT
  | some d =>
    have hlt : d < a.tmps.size := by
      have : d < nt := of_decide_eq_true hd
      exact Nat.lt_of_lt_of_le this hn
    intro i x hx
    simp only [putT, Tr.get_put] at hx
    simp only [Act.put]
    split at hx
    · rename_i e
      subst e
      simp only [Option.some.injEq] at hx
      subst hx
      exact ⟨v, by simp [hlt], hr⟩
    · rename_i e
      obtain ⟨u, h1, h2⟩ := hT i x hx
      exact ⟨u, by rw [Array.getElem?_setIfInBounds_ne e]; exact h1, h2⟩

theorem put_size (a : Act) (dst : Option Tmp) (v : Value) : (a.put dst v).tmps.size = a.tmps.size ∧ (a.put dst v).defers = a.defers := by
  cases dst <;> simp [Act.put]

theorem wanted_rel {ρ : Rho} {T : Tr AT} {a : Act} (hT : RT ρ T a.tmps) {ops : Array Oper} {o : Oper} {g : Option (Nat × Bool)} (hg : cGuard ops o.guard = some g) {b : Bool} (hb : wantedA T g = some b) : Region.wanted o (yielded ops a.tmps) = b := by
  unfold Region.wanted
  cases hgu : o.guard with
  | none =>
    rw [hgu] at hg
    simp only [cGuard, Option.some.injEq] at hg
    subst hg
    simp only [wantedA, Option.some.injEq] at hb
    exact hb
  | some p =>
    obtain ⟨j, want⟩ := p
    rw [hgu] at hg
    simp only [cGuard] at hg
    split at hg
    · rename_i t ht
      simp only [Option.some.injEq] at hg
      subst hg
      simp only [wantedA] at hb
      simp only [yielded, ht, Option.bind_some]
      split at hb
      · cases hb
      · rename_i q hq
        simp only [Option.some.injEq] at hb
        obtain ⟨v, h1, h2⟩ := hT t _ hq
        have h2' : v = .bool q := h2
        rw [h1, h2']
        simp only []
        rw [← hb]
        cases q <;> cases want <;> rfl
      · cases hb
      · cases hb
      · cases hb
      · rename_i x hno hno1 hno2 hno3 hq
        simp only [Option.some.injEq] at hb
        subst hb
        obtain ⟨v, h1, h2⟩ := hT t x hq
        rw [h1]
        cases v with
        | bool q =>
          exfalso
          cases x with
          | tup xs => obtain ⟨vs, e, _⟩ := h2; cases e
          | v x =>
            cases x with
            | agg xs => obtain ⟨vs, e, _⟩ := h2; cases e
            | c x =>
              have h2' : RC ρ x (.bool q) := h2
              cases x <;> simp only [RC, RPtr] at h2'
              case bool b' => exact hno b' rfl
              case int => cases h2'
              case flt => obtain ⟨_, _, e⟩ := h2'; cases e
              case cpx => obtain ⟨_, _, _, _, e⟩ := h2'; cases e
              case nilp => cases h2'
              case ptr => obtain ⟨_, _, _, e⟩ := h2'; cases e
              case nils => cases h2'
              case sl => obtain ⟨_, _, _, _, e, _⟩ := h2'; cases e
              case osl => obtain ⟨_, _, _, _, e, _⟩ := h2'; cases e
              case nilm => cases h2'
              case map => obtain ⟨_, _, _, e⟩ := h2'; cases e
              case fn => obtain ⟨_, e, _⟩ := h2'; cases e
              case nilf => cases h2'
              case sb b' => exact hno1 b' rfl
              case si => cases h2'.1
              case fb => cases h2'.1
              case xs => obtain ⟨_, _, _, e, _⟩ := h2'; cases e
              case fp => obtain ⟨_, _, _, e, _⟩ := h2'; cases e
              case arg j' => exact hno2 j' rfl
              case any => exact hno3 rfl
        | _ => simp
    · cases hg

theorem undef_rel (ρ : Rho) : R1 ρ undefA undef := ⟨[], rfl, .nil⟩

theorem cI_spec {nt : Nat} {ops : Array Oper} {i : Nat} {q : Bool} {inc : List Nat} {x : AI} (h : cI P nt ops i q inc = some x) :
    ∃ o, ops[i]? = some o ∧ cOp P o.op = some x.op ∧ cGuard ops o.guard = some x.guard ∧ dstOk nt o.dst = true ∧ x.i = i ∧ x.dst = o.dst ∧ x.q = q ∧ x.inc = inc := by
  unfold cI at h
  split at h
  · cases h
  · rename_i o ho
    split at h
    · rename_i op g hop hg
      split at h
      · rename_i hd
        simp only [Option.some.injEq] at h
        subst h
        exact ⟨o, ho, hop, hg, hd, rfl, rfl, rfl, rfl⟩
      · cases h
    · cases h

/-- What is asked behind a piece of code, where the evaluator's state has become (T', H'). -/
def Post (Q : Exit → Act → World → Prop) (e : Exit) (ρ : Rho) (H : AH) (w : World) (a : Act) (T' : Tr AT) (H' : AH) : Prop :=
  ∀ a' w' ρ', St ρ H w ρ' H' w' → RT ρ' T' a'.tmps → a'.tmps.size = a.tmps.size → a'.defers = a.defers → Q e a' w'

/-- A region in the text's order. -/
theorem text_wp (hcall : CallsOK P callf) {nt : Nat} {ops : Array Oper} {Q : Exit → Act → World → Prop} : ∀ (is : List Nat) {xs : List AI}, cText P nt ops is = some xs → ∀ {ρ : Rho} {T T' : Tr AT} {a : Act} {w : World} {H H' : AH} {ls : List LR},
    RT ρ T a.tmps → RH ρ H w → nt ≤ a.tmps.size → evIs callf xs ls T H = some (T', H') → Post Q .normal ρ H w a T' H' → wpOps P ops Q is a w
  | [], xs, hx, ρ, T, T', a, w, H, H', ls, hT, hH, hn, he, hp => by
    simp [cText] at hx
    subst hx
    simp [evIs] at he
    obtain ⟨rfl, rfl⟩ := he
    exact hp a w ρ (St.refl hH) hT rfl rfl
  | i :: is, xs, hx, ρ, T, T', a, w, H, H', ls, hT, hH, hn, he, hp => by
    simp only [cText] at hx
    split at hx
    · cases hx
    rename_i x hxi
    split at hx
    · cases hx
    rename_i xs' hxs
    simp only [Option.some.injEq] at hx
    subst hx
    obtain ⟨o, h1, h2, h3, h4, h5, h6, h7, h8⟩ := cI_spec hxi
    simp only [evIs] at he
    simp only [wpOps, h1]
    split at he
    · cases he
    · rename_i hw
      have hw' := wanted_rel (a := a) hT h3 hw
      simp only [hw', Bool.false_eq_true, if_false]
      have hT' : RT ρ (putT T x.dst undefA) (a.put o.dst undef).tmps := by rw [h6]; exact hT.put (undef_rel ρ) h4 hn
      refine text_wp hcall is hxs hT' hH (by rw [(put_size a _ _).1]; exact hn) he fun a' w' ρ' e1 e2 e3 e4 => hp a' w' ρ' e1 e2 ?_ ?_
      · rw [e3, (put_size a _ _).1]
      · rw [e4, (put_size a _ _).2]
    · rename_i hw
      have hw' := wanted_rel (a := a) hT h3 hw
      simp only [hw', if_true]
      split at he
      · cases he
      rename_i v H₁ hi
      rw [fzT_eq] at he
      unfold evI at hi
      rw [h7, h8, cond_false] at hi
      simp only [isNil, cond_true] at hi
      refine .inl (op_wp hcall hT hH h2 hi fun u w1 ρ1 hst hr => ?_)
      have hT' : RT ρ1 (putT T x.dst v) (a.put o.dst u).tmps := by rw [h6]; exact (hT.ext hst.ext).put hr h4 hn
      refine text_wp hcall is hxs hT' hst.rh (by rw [(put_size a _ _).1]; exact hn) he fun a' w' ρ' e1 e2 e3 e4 => hp a' w' ρ' (hst.trans e1) e2 ?_ ?_
      · rw [e3, (put_size a _ _).1]
      · rw [e4, (put_size a _ _).2]
end
end Go.Sv

namespace Go.Sv
variable [gi : GoodC]

/-- m, but S at number i. -/
def upm (m : Nat → World → Prop) (i : Nat) (S : World → Prop) : Nat → World → Prop := fun j => if j = i then S else m j

theorem upm_same (m : Nat → World → Prop) (i : Nat) (S : World → Prop) : upm m i S i = S := by simp [upm]
theorem upm_ne {m : Nat → World → Prop} {i j : Nat} {S : World → Prop} (h : j ≠ i) : upm m i S j = m j := by simp [upm, h]
theorem upm_comm {m : Nat → World → Prop} {i j : Nat} {S S' : World → Prop} (h : i ≠ j) : upm (upm m i S) j S' = upm (upm m j S') i S := by
  funext k
  unfold upm
  by_cases h1 : k = i <;> by_cases h2 : k = j <;> simp [h1, h2]
  · exact absurd (h1.symm.trans h2) h
  · intro e; exact absurd e h
  · intro e; exact absurd e.symm h

section
variable {P : Program} {ops : Array Oper} {Q : Exit → Act → World → Prop}

/-- Whatever order is picked, and behind each operation what the reads hang on is as it was. -/
def wpAnyM (P : Program) (ops : Array Oper) (Q : Exit → Act → World → Prop) (inc : Nat → Nat → Bool) : Nat → Array Bool → (Nat → World → Prop) → Act → World → Prop
  | 0, listed, _, a, w => Region.ready .any ops listed = [] ∧ Q .normal a w
  | fuel + 1, listed, m, a, w =>
    (Region.ready .any ops listed = [] → Q .normal a w) ∧
    ∀ j ∈ Region.ready .any ops listed, wpOp P ops Q j (fun a' w' => (∀ i, inc j i = true → m i w → m i w') ∧ ∃ S, wpAnyM P ops Q inc fuel (listed.setIfInBounds j true) (upm m j S) a' w') a w

theorem wpAny_of_M {inc : Nat → Nat → Bool} : ∀ (fuel : Nat) (listed : Array Bool) (m : Nat → World → Prop) (a : Act) (w : World), wpAnyM P ops Q inc fuel listed m a w → wpAny P .any ops Q fuel listed a w
  | 0, _, _, _, _, h => h
  | fuel + 1, _, _, _, _, h => ⟨h.1, fun i hi => wpOp_mono (fun a' w' h' => let ⟨_, hS⟩ := h'.2; wpAny_of_M fuel _ _ a' w' hS) (h.2 i hi)⟩

/-- Nobody stands in a list who has somebody before him that is not in it. -/
def Shut (A : List Nat) (listed : Array Bool) : Prop := ∀ x i, listed.getD x false = true → isAnc A x i = true → listed.getD i false = true

theorem fold_bit (A : List Nat) (i : Nat) : ∀ (es : List Edge) (s : Nat), (es.foldl (fun s e => if Region.binds .any e then s ||| 2 ^ e.on ||| A.getD e.on 0 else s) s).testBit i = true →
    s.testBit i = true ∨ ∃ e ∈ es, Region.binds .any e = true ∧ (e.on = i ∨ isAnc A e.on i = true)
  | [], s, h => .inl h
  | e :: es, s, h => by
    simp only [List.foldl_cons] at h
    rcases fold_bit A i es _ h with h | ⟨e', h1, h2⟩
    · by_cases hb : Region.binds .any e = true
      · rw [if_pos hb] at h
        simp only [Nat.testBit_or, Bool.or_eq_true] at h
        rcases h with (h | h) | h
        · exact .inl h
        · refine .inr ⟨e, List.mem_cons_self, hb, .inl ?_⟩
          rw [Nat.testBit_two_pow] at h
          simpa using h
        · exact .inr ⟨e, List.mem_cons_self, hb, .inr h⟩
      · rw [if_neg hb] at h
        exact .inl h
    · exact .inr ⟨e', List.mem_cons_of_mem _ h1, h2⟩

theorem anc_done {A : List Nat} (hA : ancOk ops A = true) {listed : Array Bool} (hs : Shut A listed) {x i : Nat} (hx : x ∈ Region.ready .any ops listed) (ha : isAnc A x i = true) : listed.getD i false = true := by
  obtain ⟨_, o, ho, hall⟩ := mem_ready.1 hx
  have hlt : x < ops.size := (Array.getElem?_eq_some_iff.1 ho).1
  unfold ancOk at hA
  rw [List.all_eq_true] at hA
  have h1 := hA x (List.mem_range.2 hlt)
  simp only [ho, beq_iff_eq] at h1
  unfold isAnc at ha
  rw [h1] at ha
  rcases fold_bit A i _ _ ha with h | ⟨e, he, hb, h⟩
  · simp at h
  · have hd := hall e (by simpa using he) hb
    rcases h with rfl | h
    · exact hd
    · exact hs _ _ hd h

theorem getD_set {listed : Array Bool} {i j : Nat} {d : Bool} : (listed.setIfInBounds i true).getD j d = if i = j ∧ j < listed.size then true else listed.getD j d := by
  by_cases h : i = j
  · subst h
    by_cases hlt : i < listed.size
    · simp [hlt]
    · simp [hlt]
  · simp [Array.getElem?_setIfInBounds_ne h, h]

theorem Shut.set {A : List Nat} (hA : ancOk ops A = true) {listed : Array Bool} (hs : Shut A listed) {x : Nat} (hx : x ∈ Region.ready .any ops listed) : Shut A (listed.setIfInBounds x true) := by
  intro y i hy ha
  apply getD_set_true
  rw [getD_set] at hy
  split at hy
  · rename_i h
    rw [← h.1] at ha
    exact anc_done hA hs hx ha
  · exact hs _ _ hy ha

theorem getD_tf {listed : Array Bool} {i : Nat} (h : listed.getD i true = false) : listed.getD i false = false := by
  rcases Nat.lt_or_ge i listed.size with h' | h'
  · simp [h'] at h ⊢; exact h
  · simp [Array.getElem?_eq_none h']

/-- The reads that may stand before or behind operation j. -/
def incN (A : List Nat) (ks : List (Option AOp)) (j i : Nat) : Bool := readAt ks i && !(i == j) && !isAnc A j i && !isAnc A i j

/-- Number i may be taken ahead. -/
theorem wpAnyM_first {A : List Nat} {ks : List (Option AOp)} (hA : ancOk ops A = true) (hsel : Region.noSelect ops = true) {i : Nat} {oi : Oper} {v : Value} {S : World → Prop} (hi : ops[i]? = some oi)
    (hS : (∀ w, S w) ∨ readAt ks i = true) (hQ : ∀ c a w, ¬ Q (.panic c) a w) :
    ∀ (fuel : Nat) (listed : Array Bool) (m : Nat → World → Prop) (a : Act) (w : World),
      (∀ j oj, ops[j]? = some oj → j ≠ i → listed.getD j true = false → isAnc A j i = false → oi.apart ops oj = true) → Shut A listed →
      i ∈ Region.ready .any ops listed → (∀ w, m i w) → YieldsIf P ops S oi v a → S w →
      wpAnyM P ops Q (incN A ks) fuel (listed.setIfInBounds i true) (upm m i S) (a.put oi.dst v) w → wpAnyM P ops Q (incN A ks) (fuel + 1) listed m a w := by
  intro fuel
  induction fuel with
  | zero =>
    intro listed m a w _ _ hr hm hy hSw H
    refine ⟨fun h => (by rw [h] at hr; cases hr), fun j hj => ?_⟩
    by_cases hji : j = i
    · subst hji; exact hy.wpOp hi hSw ⟨fun _ _ h => h, S, H⟩
    · have := ready_mono hj hji
      rw [H.1] at this
      cases this
  | succ fuel ih =>
    intro listed m a w hfree hsh hr hm hy hSw H
    refine ⟨fun h => (by rw [h] at hr; cases hr), fun j hj => ?_⟩
    by_cases hji : j = i
    · subst hji; exact hy.wpOp hi hSw ⟨fun _ _ h => h, S, H⟩
    · have h1 := H.2 j (ready_mono hj hji)
      obtain ⟨hjun, oj, hoj, hall⟩ := mem_ready.1 hj
      have hiun := (mem_ready.1 hr).1
      have n1 : isAnc A j i = false := by
        cases hb : isAnc A j i
        · rfl
        · have := anc_done hA hsh hj hb
          rw [getD_tf hiun] at this
          cases this
      have n2 : isAnc A i j = false := by
        cases hb : isAnc A i j
        · rfl
        · have := anc_done hA hsh hr hb
          rw [getD_tf hjun] at this
          cases this
      have h2 := wpOp_putIf hoj (hfree j oj hoj hji hjun n1) (fun cs b => Region.noSelect_spec hsel i oi cs b hi) (fun cs b => Region.noSelect_spec hsel j oj cs b hoj) (fun c a w h => absurd h (hQ c _ w)) hy h1
      refine wpOp_mono (fun a' w' h3 => ?_) h2
      obtain ⟨hy', hkeep, S', h4⟩ := h3
      have hS' : S w' := by
        rcases hS with hS | hS
        · exact hS w'
        · have := hkeep i (by simp [incN, hS, n1, n2, Ne.symm hji])
          rw [upm_same] at this
          exact this hSw
      refine ⟨fun k hk hmk => ?_, S', ?_⟩
      · by_cases hki : k = i
        · subst hki; exact hm w'
        · have := hkeep k hk
          rw [upm_ne hki] at this
          exact this hmk
      · refine ih (listed.setIfInBounds j true) (upm m j S') a' w' (fun k ok hk hki hun hno => ?_) (hsh.set hA hj) (ready_mono hr (Ne.symm hji)) (by rw [upm_ne (Ne.symm hji)]; exact hm) hy' hS' ?_
        · refine hfree k ok hk hki ?_ hno
          by_cases hjk : j = k
          · subst hjk; exact hjun
          · rw [getD_set_ne true hjk] at hun; exact hun
        · rw [Array.setIfInBounds_comm _ _ hji, upm_comm hji]
          exact h4
end
end Go.Sv

namespace Go.Sv
variable [gi : GoodC]

section
variable {P : Program} {callf : Nat → List AV → AH → Option (AT × AH)} {ops : Array Oper} {ks : List (Option AOp)}

theorem live_read {T : Tr AT} {ao : AOp} {H H' : AH} {r : AT} {b : Nat} (hb : rblk T ao = some b) (he : evOp callf T ao H = some (r, H')) : ∃ o, H.t.get b = some o := by
  unfold rblk at hb
  split at hb
  · rename_i z x
    split at hb
    · rename_i b' off hx
      simp only [Option.some.injEq] at hb
      subst hb
      simp only [evOp, hx] at he
      cases hg : H.t.get b' with
      | some o => exact ⟨o, rfl⟩
      | none =>
        exfalso
        cases z <;> simp [AH.read1, AH.read, hg, some1] at he
    · rename_i b' j' i' x' hx
      simp only [Option.some.injEq] at hb
      subst hb
      simp only [evOp, hx] at he
      cases hg : H.t.get b' with
      | some o => exact ⟨o, rfl⟩
      | none =>
        exfalso
        cases z <;> simp [hg] at he
    · cases hb
  · rename_i key zero m k ok
    split at hb
    · rename_i b' hx
      simp only [Option.some.injEq] at hb
      subst hb
      simp only [evOp, hx] at he
      cases hg : H.t.get b' with
      | some o => exact ⟨o, rfl⟩
      | none =>
        exfalso
        cases hk : k.evV T with
        | none => simp [hk] at he
        | some k1 =>
          cases hko : keyOk key k1 <;> simp [hk, hko, AH.getMap, hg] at he
    · cases hb
  · cases hb

theorem isRead_of {T : Tr AT} {ao : AOp} {b : Nat} (hb : rblk T ao = some b) : isRead ao = true := by
  unfold rblk at hb
  split at hb
  · rfl
  · rfl
  · cases hb

theorem readOf_of {T : Tr AT} {ao : AOp} {b i : Nat} {r : AT} (hb : rblk T ao = some b) : ∃ x, readOf T i ao r = some x ∧ x.i = i ∧ x.b = b ∧
    ∀ k q n, x.k = some (k, q, n) → ∃ key zero m' k', ao = .lookup key zero m' k' false ∧ m'.evC T = some (.map b) ∧ k'.evV T = some k ∧ r = .v (.c (.int q n)) := by
  unfold rblk at hb
  split at hb
  · rename_i z x
    split at hb
    · rename_i b' off hx
      simp only [Option.some.injEq] at hb
      subst hb
      exact ⟨{ i := i, b := b', k := none }, by simp [readOf, hx], rfl, rfl, fun _ _ _ h => by cases h⟩
    · rename_i b' j' i' x' hx
      simp only [Option.some.injEq] at hb
      subst hb
      exact ⟨{ i := i, b := b', k := none }, by simp [readOf, hx], rfl, rfl, fun _ _ _ h => by cases h⟩
    · cases hb
  · rename_i key zero m k ok
    split at hb
    · rename_i b' hx
      simp only [Option.some.injEq] at hb
      subst hb
      simp only [readOf, hx]
      split
      · rename_i q n k1 hk1
        refine ⟨_, rfl, rfl, rfl, fun k2 q2 n2 h => ?_⟩
        simp only [Option.some.injEq, Prod.mk.injEq] at h
        obtain ⟨rfl, rfl, rfl⟩ := h
        exact ⟨key, zero, m, k, rfl, hx, hk1, rfl⟩
      · exact ⟨_, rfl, rfl, rfl, fun _ _ _ h => by cases h⟩
    · cases hb
  · cases hb

/-- What is known of what a read hangs on. -/
def KM (ks : List (Option AOp)) (ρ : Rho) (w : World) (ls : List LR) (mi : World → Prop) (i : Nat) : Prop :=
  (∀ w, mi w) ∨ (readAt ks i = true ∧ ∃ x ∈ ls, x.i = i ∧ ∃ c n, ρ x.b = some (c, n) ∧ c < w.heap.size ∧ (∀ w1 w2 : World, w2.heap[c]? = w1.heap[c]? → mi w1 → mi w2) ∧
    ∀ k q n, x.k = some (k, q, n) → ∀ (ρ' : Rho) (H' : AH) (w' : World) (es : List (AV × AV)) (j : Nat), Ext ρ ρ' → RH ρ' H' w' → H'.getMap x.b = some es → findK k es 0 = some (some (j, .c (.int q n))) → mi w')

theorem KM.mono {ρ ρ' : Rho} {w w' : World} {ls ls' : List LR} {mi : World → Prop} {i : Nat} (h : KM ks ρ w ls mi i) (h1 : Ext ρ ρ') (h2 : w.heap.size ≤ w'.heap.size) (h3 : ∀ x ∈ ls, x ∈ ls') : KM ks ρ' w' ls' mi i := by
  rcases h with h | ⟨g0, x, g1, g2, c, n, g3, g4, g5, g6⟩
  · exact .inl h
  · exact .inr ⟨g0, x, h3 x g1, g2, c, n, h1.le _ _ g3, Nat.lt_of_lt_of_le g4 h2, g5, fun k q n hk ρ2 H2 w2 es j e1 e2 e3 e4 => g6 k q n hk ρ2 H2 w2 es j (h1.trans e1) e2 e3 e4⟩

theorem read_km {ρ : Rho} {T : Tr AT} {a : Act} {w : World} {H : AH} {r : AT} (hT : RT ρ T a.tmps) (hH : RH ρ H w) {o : Oper} {ao : AOp} (hc : cOp P o.op = some ao) (hq : quiet ao = true) (he : evOp callf T ao H = some (r, H))
    {v : Value} (hv : R1 ρ r v) (hrun : ∀ w', Looks ρ (rblk T ao) w w' → (execOp a.eval o).run P w' = .ok (.value v) w') {i : Nat} (hk : readAt ks i = isRead ao) (ls : List LR) :
    ∃ S : World → Prop, ((∀ w, S w) ∨ readAt ks i = true) ∧ S w ∧ (∀ w', S w' → (execOp a.eval o).run P w' = .ok (.value v) w') ∧ KM ks ρ w (addR (readOf T i ao r) ls) S i := by
  cases hb : rblk T ao with
  | none =>
    refine ⟨fun _ => True, .inl fun _ => trivial, trivial, fun w' _ => hrun w' (by rw [hb]; intro _ _ _ h; cases h), .inl fun _ => trivial⟩
  | some b =>
    obtain ⟨ob, hob⟩ := live_read hb he
    obtain ⟨c, n, _, hρ, hcw, _⟩ := hH.blk b ob hob
    have hlt := hH.lt hob hρ
    obtain ⟨x, hx, hxi, hxb, hxk⟩ := readOf_of (i := i) (r := r) hb
    refine ⟨fun w' => ∀ w'' : World, w''.heap[c]? = w'.heap[c]? → (execOp a.eval o).run P w'' = .ok (.value v) w'', .inr (hk.trans (isRead_of hb)), fun w'' hw => hrun w'' ?_, fun w' h => h w' rfl, .inr ⟨hk.trans (isRead_of hb), x, by simp [hx, addR], hxi, c, n, by rw [hxb]; exact hρ, hlt, fun w1 w2 h12 h1 w3 h3 => h1 w3 (h3.trans h12), ?_⟩⟩
    · intro b' c' m' e1 e2
      rw [hb] at e1
      simp only [Option.some.injEq] at e1
      subst e1
      rw [hρ] at e2
      simp only [Option.some.injEq, Prod.mk.injEq] at e2
      rw [← e2.1]
      exact hw
    · intro k q n' hxk' ρ' H' w' es j e1 e2 e3 e4 w'' hw''
      obtain ⟨key, zero, m', k', rfl, g1, g2, rfl⟩ := hxk k q n' hxk'
      have hko : keyOk key k = true := by
        cases hko : keyOk key k
        · simp [evOp, g1, g2, hko] at he
        · rfl
      rw [hxb] at e3
      have he' : evOp callf T (.lookup key zero m' k' false) H' = some (.v (.c (.int q n')), H') := by
        simp [evOp, g1, g2, hko, e3, e4]
      obtain ⟨_, hy | ⟨hd, _⟩⟩ := op_quiet (a := a) (hT.ext e1) e2 hc hq he'
      · obtain ⟨v', hv', hrun'⟩ := hy
        have h1 : v' = .int q n' := hv'
        have h2 : v = .int q n' := hv
        rw [h2, ← h1]
        refine hrun' w'' fun b' c' m' f1 f2 => ?_
        rw [hb] at f1
        simp only [Option.some.injEq] at f1
        subst f1
        rw [e1.le _ _ hρ] at f2
        simp only [Option.some.injEq, Prod.mk.injEq] at f2
        rw [← f2.1]
        exact hw''
      · simp [drewNan] at hd

theorem asIs_spec {H : AH} {e : Option Nat} {inc : List Nat} : ∀ {ls : List LR}, asIs H e inc ls = true → ∀ x ∈ ls, memN inc x.i = true → askAgain e x = true →
    ∃ k q n es j, x.k = some (k, q, n) ∧ H.getMap x.b = some es ∧ findK k es 0 = some (some (j, .c (.int q n)))
  | [], _, x, hx, _, _ => by cases hx
  | y :: ls, h, x, hx, hm, ha => by
    simp only [asIs, Bool.and_eq_true] at h
    rcases List.mem_cons.1 hx with rfl | hx
    · have h1 := h.1
      rw [hm, ha] at h1
      simp only [Bool.and_self, cond_true] at h1
      split at h1
      · rename_i k q n es hk hes
        split at h1
        · rename_i j q' n' hf
          simp only [Bool.and_eq_true, decide_eq_true_eq] at h1
          obtain ⟨rfl, rfl⟩ := h1
          exact ⟨k, q, n, es, j, hk, hes, hf⟩
        · cases h1
      · cases h1
    · exact asIs_spec h.2 x hx hm ha

/-- An operation that is not taken ahead. -/
theorem eff_wp (hcall : CallsOK P callf) {ρ : Rho} {T : Tr AT} {a : Act} {w : World} {H H' : AH} {r : AT} {ls : List LR} (hT : RT ρ T a.tmps) (hH : RH ρ H w) {o : Oper} {x : AI} (hq : x.q = false) (hc : cOp P o.op = some x.op) (he : evI callf x ls T H = some (r, H'))
    {next : Act → World → Prop} {Q : Exit → Act → World → Prop} (hn : ∀ v w' ρ', St ρ H w ρ' H' w' → R1 ρ' r v → (∀ i m, memN x.inc i = true → KM ks ρ w ls m i → m w → m w') → next (a.put o.dst v) w') : o.wp P a w next Q := by
  unfold evI at he
  rw [hq, cond_false] at he
  cases hinc : isNil x.inc
  · rw [hinc, cond_false] at he
    split at he
    · cases he
    rename_i p hp
    split at he
    · rename_i v H₁ hev
      cases has : asIs H₁ (entryOf T x.op) x.inc ls
      · rw [has] at he; cases he
      rw [has, cond_true] at he
      simp only [Option.some.injEq, Prod.mk.injEq] at he
      obtain ⟨rfl, rfl⟩ := he
      obtain ⟨p1, p2, p3⟩ := addP_spec hp
      have hH' : RH ρ { t := H.t, n := H.n, p := p } w := hH.congr (fun _ => rfl) rfl
      refine op_wp hcall hT hH' hc hev fun u w' ρ' hst hr => hn u w' ρ' (hst.unkeep hH p1 p2) hr fun i m hi hkm hmw => ?_
      rcases hkm with hkm | ⟨_, y, hy, hyi, c, n, hρ, hlt, hdep, hask⟩
      · exact hkm w'
      · rw [← hyi] at hi
        cases ha : askAgain (entryOf T x.op) y
        · obtain ⟨g1, ob, g2⟩ := p3 y hy hi ha
          exact hdep w w' (hst.kept hH' g2 hρ g1) hmw
        · obtain ⟨k, q, n', es, j, f1, f2, f3⟩ := asIs_spec has y hy hi ha
          exact hask k q n' f1 ρ' H₁ w' es j hst.ext hst.rh f2 f3
    · cases he
  · rw [hinc, cond_true] at he
    refine op_wp hcall hT hH hc he fun u w' ρ' hst hr => hn u w' ρ' hst hr fun i m hi _ _ => ?_
    cases hx : x.inc with
    | nil => rw [hx] at hi; simp [memN] at hi
    | cons y l => rw [hx] at hinc; simp [isNil] at hinc
end
end Go.Sv
