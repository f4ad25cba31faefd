/-
  Code and calls: what the evaluator says is what the model does. No conditions.
-/
import Derived.Test.YtfgkhpoibfbnkaaGreatEvU
import Derived.LoopN
namespace Go.Ev

section
variable {P : Program} {callf : Nat → List AV → AH → Option (AT × AH)} {ops : Array Oper} {Q : Exit → Act → World → Prop}

theorem wipe_get : ∀ (er : List Nat) (T : Tr AT) (i : Nat), (wipe er T).get i = if i ∈ er then none else T.get i
  | [], T, i => by simp [wipe]
  | d :: r, T, i => by
    rw [wipe, wipe_get r, Tr.get_put]
    by_cases h : i ∈ r
    · simp [h]
    · by_cases h' : d = i
      · simp [h']
      · simp [h, h', Ne.symm h']

theorem RT.wipe {ρ : Rho} {T : Tr AT} {t : Array Value} (h : RT ρ T t) (er : List Nat) : RT ρ (wipe er T) t := fun i x hx => by
  rw [wipe_get] at hx
  split at hx
  · cases hx
  · exact h i x hx

/-- A region. -/
theorem region_wp (hcall : CallsOK P callf) (hm : P.follows .mixedOrders = true) {nt id : Nat} {draw : Bool} {er : List Nat} {xs : List AI} (hx : cRegion P nt ops draw = some (er, xs)) {ρ : Rho} {T T' : Tr AT} {a : Act} {w : World} {H H' : AH}
    (hT : RT ρ T a.tmps) (hH : RH ρ H w) (hn : nt ≤ a.tmps.size) (hQ : ∀ c a w, ¬ Q (.panic c) a w) (he : evIs callf xs [] (wipe er T) H = some (T', H')) (hp : Post Q .normal ρ H w a T' H') : (Code.region id ops draw).wp P Q a w := by
  unfold cRegion at hx
  cases draw with
  | false =>
    simp only [Bool.false_eq_true, if_false] at hx
    split at hx
    · rename_i xs' hxs
      simp only [Option.some.injEq, Prod.mk.injEq] at hx
      obtain ⟨rfl, rfl⟩ := hx
      exact wp_region (text_wp hcall _ hxs (hT.wipe []) hH hn he hp)
    · cases hx
  | true =>
    simp only [if_true] at hx
    split at hx
    · rename_i hchk
      split at hx
      · rename_i xs' hxs
        simp only [Option.some.injEq, Prod.mk.injEq] at hx
        obtain ⟨rfl, rfl⟩ := hx
        simp only [Bool.and_eq_true, List.all_eq_true] at hchk
        obtain ⟨⟨⟨k1, k2⟩, k3⟩, k4⟩ := hchk
        have R : Reg P ops (Region.before ops).toList ((List.range ops.size).map (kindOf P ops)) := by
          refine ⟨rfl, k1, k2, fun i hl => k4 i (List.mem_filter.2 ⟨?_, hl⟩), fun i o ho => ?_⟩
          · obtain ⟨o, _, _, ho, _⟩ := late_spec hl
            exact List.mem_range.2 (Array.getElem?_eq_some_iff.1 ho).1
          · have := k3 (kindOf P ops i) (List.mem_map.2 ⟨i, List.mem_range.2 (Array.getElem?_eq_some_iff.1 ho).1, rfl⟩)
            simpa [kindOf, ho] using this
        have hrep : ∀ i, (Array.replicate ops.size false).getD i false = false := fun i => by
          by_cases h : i < ops.size <;> simp [h]
        have hst : St ρ H w ρ H w.drew := (St.refl hH).drew
        refine wp_region_any hm (wpAny_of_M (inc := incN (Region.before ops).toList ((List.range ops.size).map (kindOf P ops))) _ _ (fun _ _ => True) _ _ ?_)
        refine sim (ρ0 := ρ) (H0 := H) (w0 := w.drew) (a0 := a) hcall R hn hQ (T' := T') (H' := H') (fun a' w' ρ' e1 e2 e3 e4 => hp a' w' ρ' (hst.trans e1) e2 e3 e4) _ ops.size ops.size _ (Array.replicate ops.size false) xs' _ a w.drew ρ _ H [] (fun _ => none) (Nat.lt_succ_self _) (by simp [pend]) hxs ?_ he
        refine ⟨by simp, by simp, fun i => by simp, fun _ _ h => (nomatch h), fun x i h => (by rw [hrep] at h; cases h), fun _ _ h => (nomatch h), fun _ _ _ h => (nomatch h), fun i o d hl _ ho hd => ?_, fun i => .inl fun _ => trivial, fun _ _ _ => trivial, St.refl hst.rh, hT.wipe _, rfl, rfl⟩
        rw [wipe_get, if_pos]
        unfold erOf
        exact List.mem_filterMap.2 ⟨i, List.mem_filter.2 ⟨List.mem_range.2 (Array.getElem?_eq_some_iff.1 ho).1, hl⟩, by simp [ho, hd]⟩
      · cases hx
    · cases hx

def toE : AE → Exit
  | .normal => .normal
  | .exit id => .exit id
  | .ret => .ret

/-- A call, where 'self' evaluates code. -/
def callE (env : Nat → Option AFun) (self : ACode → Tr AT → AH → Ans) (f : Nat) (args : List AV) (H : AH) : Option (AT × AH) :=
  match env f with
  | none => none
  | some fn =>
    match self fn.code (enter args 0 .nil) H with
    | none => none
    | some (.exit _, _, _) => none
    | some (_, T, H) =>
      match resA T H fn.res with
      | some vs => some (one vs, H)
      | none => none

theorem enter_rel {ρ : Rho} : ∀ {args : List AV} {vs : List Value}, All2 (RV ρ) args vs → ∀ (i : Nat) (T : Tr AT) (t : Array Value), RT ρ T t → (∀ j v, vs[j]? = some v → t[i + j]? = some v) → RT ρ (enter args i T) t
  | [], _, _, _, T, t, hT, _ => hT
  | x :: r, _, .cons (b := v) (m := vs) h0 h1, i, T, t, hT, ht => by
    simp only [enter]
    refine enter_rel h1 (i + 1) _ t (fun j y hy => ?_) fun j u hu => ?_
    · rw [Tr.get_put] at hy
      split at hy
      · rename_i e
        subst e
        simp only [Option.some.injEq] at hy
        subst hy
        exact ⟨v, by simpa using ht 0 v (by simp), h0⟩
      · exact hT j y hy
    · have := ht (j + 1) u (by simpa using hu)
      rw [← this]
      congr 1
      omega

/-- How a result is read. -/
def resSem (tmps : Array Value) : ResultVar → Sem Value
  | .tmp t => pure (tmps.getD t undef)
  | .cell a t => do loadVar t (← asAddr (tmps.getD a undef))

theorem res_rel {ρ : Rho} {T : Tr AT} {H : AH} {w : World} {t : Array Value} (hT : RT ρ T t) (hH : RH ρ H w) : ∀ {rs : List ResultVar} {ars : List (Nat × Option (Option Nat))} {vs : List AV}, cRes P rs = some ars → resA T H ars = some vs →
    ∃ us : List Value, (rs.mapM (resSem t)).run P w = .ok us w ∧ All2 (RV ρ) vs us
  | [], ars, vs, hc, he => by
    simp only [cRes, Option.some.injEq] at hc
    subst hc
    simp only [resA, Option.some.injEq] at he
    subst he
    exact ⟨[], by simp, .nil⟩
  | x :: r, ars, vs, hc, he => by
    simp only [cRes] at hc
    split at hc
    · cases hc
    rename_i ars' hars
    have key : ∀ {y : Nat × Option (Option Nat)}, ars = y :: ars' → (∀ v, resA T H [y] = some [v] → ∃ u, (resSem t x).run P w = .ok u w ∧ RV ρ v u) → ∃ us : List Value, ((x :: r).mapM (resSem t)).run P w = .ok us w ∧ All2 (RV ρ) vs us := fun {y} hy h1 => by
      obtain ⟨a, z⟩ := y
      subst hy
      simp only [resA] at he h1
      split at he
      · cases he
      rename_i v hv
      split at he
      · rename_i vs' hvs
        simp only [Option.some.injEq] at he
        subst he
        obtain ⟨us, g1, g2⟩ := res_rel hT hH hars hvs
        obtain ⟨u, g3, g4⟩ := h1 v (by rw [hv])
        exact ⟨u :: us, by simp [g3, g1], .cons g4 g2⟩
      · cases he
    split at hc
    · rename_i s
      simp only [Option.some.injEq] at hc
      refine key hc.symm fun v hv => ?_
      simp only [resA] at hv
      split at hv
      · cases hv
      rename_i v' hv'
      simp only [Option.some.injEq, List.cons.injEq, and_true] at hv
      subst hv
      split at hv'
      · rename_i x' hx'
        simp only [Option.some.injEq] at hv'
        subst hv'
        obtain ⟨u, h1, h2⟩ := hT _ _ hx'
        exact ⟨u, by simp [resSem, h1], h2⟩
      · cases hv'
    · rename_i s ty
      split at hc
      · rename_i z hz
        simp only [Option.some.injEq] at hc
        refine key hc.symm fun v hv => ?_
        simp only [resA] at hv
        split at hv
        · cases hv
        rename_i v' hv'
        simp only [Option.some.injEq, List.cons.injEq, and_true] at hv
        subst hv
        split at hv'
        · rename_i b o hb
          obtain ⟨u, h1, h2⟩ := hT _ _ hb
          obtain ⟨c, m, hc', hu⟩ := h2
          have hget : t.getD s undef = .pointer (some ⟨c, o, none⟩) := by
            simp only [Array.getD_eq_getD_getElem?, h1, Option.getD_some]; exact hu
          rcases cShape_spec hz with ⟨rfl, e1⟩ | ⟨n, rfl, e1, e2⟩
          · simp only [] at hv'
            split at hv'
            · rename_i x' hx'
              simp only [Option.some.injEq] at hv'
              subst hv'
              obtain ⟨u', f1, f2⟩ := run_read1 (P := P) hH hx' hc'
              exact ⟨u', by simp only [resSem, hget, asAddr, loadVar, Sem.run_bind, Sem.run_pure, Result.andThen_ok, e1, Bool.false_eq_true, if_false]; exact f2 w rfl, f1⟩
            · cases hv'
          · simp only [] at hv'
            split at hv'
            · rename_i xs hxs
              simp only [Option.some.injEq] at hv'
              subst hv'
              obtain ⟨us, f1, _, f2⟩ := run_read (P := P) hH hxs hc'
              exact ⟨.agg us.toArray, by simp only [resSem, hget, asAddr, loadVar, Sem.run_bind, Sem.run_pure, Result.andThen_ok, e1, e2, if_true, f2 w rfl], us, rfl, f1⟩
            · cases hv'
        · cases hv'
      · cases hc

theorem results_rel {ρ : Rho} {T : Tr AT} {H : AH} {w : World} {t : Array Value} (hT : RT ρ T t) (hH : RH ρ H w) {fn : Func} {ars : List (Nat × Option (Option Nat))} {vs : List AV} (hc : cRes P fn.results.toList = some ars) (he : resA T H ars = some vs) :
    ∃ v, (results fn t).run P w = .ok v w ∧ R1 ρ (one vs) v := by
  obtain ⟨us, h1, h2⟩ := res_rel hT hH hc he
  have hres : (results fn t).run P w = .ok (if h : us.toArray.size = 1 then us.toArray[0] else .tuple us.toArray) w := by
    have hf : results fn t = (do
      let vs ← fn.results.mapM (resSem t)
      pure (if h : vs.size = 1 then vs[0] else .tuple vs)) := by
      unfold results
      congr 1
    rw [hf, Array.mapM_eq_mapM_toList]
    simp [h1]
  refine ⟨_, hres, ?_⟩
  cases h2 with
  | nil => exact ⟨[], by simp, .nil⟩
  | cons h0 h3 =>
    cases h3 with
    | nil => exact h0
    | cons h4 h5 =>
      simp only [List.size_toArray, List.length_cons]
      rw [dif_neg (by omega)]
      exact ⟨_, rfl, .cons h0 (.cons h4 h5)⟩
end
end Go.Ev
