/-
  One operation of a region, and a region in the text's order. No conditions.
-/
import Derived.Test.YtfgkhpoibfbnkaaGreatEvL
namespace Go.Ev

section
variable {P : Program} {callf : Nat → List AV → AH → Option (AT × AH)}

/-- What the evaluator says of a call is what the call does. -/
def CallsOK (P : Program) (callf : Nat → List AV → AH → Option (AT × AH)) : Prop := ∀ f args H r H', callf f args H = some (r, H') →
  (∃ fn, P.funcs[f]? = some fn ∧ fn.name ≠ "runtime.NumGoroutine" ∧ fn.body.isSome = true) ∧
  ∀ (ρ : Rho) (w : World) (vs : List Value), RH ρ H w → All2 (RV ρ) args vs → Calls P f vs.toArray w fun e w' => ∃ v ρ', e = .returned v ∧ St ρ H w ρ' H' w' ∧ R1 ρ' r v

theorem cCall_call {c : Call} {f : AOpnd} {xs : List AOpnd} (h : cCall P c = some (.call f xs)) : ∃ f0, c.callee = .value f0 ∧ cO f0 = some f ∧ cOs c.args.toList = some xs := by
  unfold cCall at h
  split at h
  · split at h <;> simp at h
  · cases h
  · rename_i f0 hf0
    split at h
    · rename_i g
      split at h
      · cases h
      · split at h
        · split at h
          · cases h
          · split at h
            · split at h
              · cases h
              · split at h
                · simp at h
                · split at h
                  · simp at h
                  · split at h <;> simp at h
            · cases h
        · split at h
          · rename_i xs' hxs
            simp only [Option.some.injEq, AOp.call.injEq] at h
            obtain ⟨rfl, rfl⟩ := h
            exact ⟨_, hf0, rfl, hxs⟩
          · cases h
    · split at h
      · rename_i f' xs' hf' hxs
        simp only [Option.some.injEq, AOp.call.injEq] at h
        obtain ⟨rfl, rfl⟩ := h
        exact ⟨_, hf0, hf', hxs⟩
      · cases h

theorem caps_rel {ρ : Rho} {caps : List (Nat × Nat)} {vs : List Value} (h : All2 (RPtr ρ) caps vs) : All2 (RV ρ) (caps.map fun (b, o) => AV.c (.ptr b o)) vs := by
  induction h with
  | nil => exact .nil
  | cons h0 _ ih => exact .cons h0 ih

/-- One operation, a call or not. -/
theorem op_wp (hcall : CallsOK P callf) {ρ : Rho} {T : Tr AT} {a : Act} {w : World} {H H' : AH} {r : AT} (hT : RT ρ T a.tmps) (hH : RH ρ H w) {o : Oper} {ao : AOp} (hc : cOp P o.op = some ao) (he : evOp callf T ao H = some (r, H'))
    {next : Act → World → Prop} {Q : Exit → Act → World → Prop} (hn : ∀ v w' ρ', St ρ H w ρ' H' w' → R1 ρ' r v → next (a.put o.dst v) w') : o.wp P a w next Q := by
  by_cases hcl : ∃ f xs, ao = .call f xs
  · obtain ⟨f, xs, rfl⟩ := hcl
    have hop : ∃ c, o.op = .call c ∧ cCall P c = some (.call f xs) := by
      obtain ⟨dst, op, ty, pos, after, guard⟩ := o
      simp only [] at hc
      cases op with
      | call c => exact ⟨c, rfl, hc⟩
      | _ =>
        exfalso
        simp only [cOp, cBin] at hc
        first
          | (cases hc; done)
          | ((repeat' split at hc) <;> first | (cases hc; done) | (simp at hc; done))
    obtain ⟨c, ho, hcc⟩ := hop
    obtain ⟨f0, h1, h2, h3⟩ := cCall_call hcc
    simp only [evOp] at he
    split at he
    · rename_i g caps vs hf hvs
      rw [fzVs_eq] at he
      obtain ⟨capv, hfv, hcap⟩ := evC_rel (a := a) hT h2 hf
      have hargs := evVs_rel (a := a) hT h3 hvs
      obtain ⟨⟨fn, g1, g2, g3⟩, hcalls⟩ := hcall _ _ _ _ _ he
      have hrel := hargs.append (caps_rel hcap)
      have hC := hcalls ρ w _ hH hrel
      obtain ⟨dst, op, ty, pos, after, guard⟩ := o
      simp only [] at ho
      subst ho
      have hrun := exec_fn (P := P) (a := a) (dst := dst) (ty := ty) (pos := pos) (after := after) (guard := guard) h1 hfv w
      have hargsv : c.args.map a.eval ++ capv.toArray = (c.args.toList.map a.eval ++ capv).toArray := by
        apply Array.ext'
        simp
      have hent : (callFunc g (c.args.map a.eval ++ capv.toArray)).run P w = .ok (.enter g (c.args.toList.map a.eval ++ capv).toArray) w := by
        rw [hargsv]
        cases hbody : fn.body with
        | none => simp [hbody] at g3
        | some code => simp [callFunc, g1, g2, hbody]
      unfold Oper.wp
      rw [hrun, hent, Oper.upon_enter]
      refine hC.mono fun e w' he' => ?_
      obtain ⟨v, ρ', rfl, hst, hr⟩ := he'
      exact hn v w' ρ' hst hr
    · cases he
  · obtain ⟨v, w', ρ', hrun, hst, hr⟩ := op_does (a := a) hT hH hc (fun f xs e => hcl ⟨f, xs, e⟩) he
    unfold Oper.wp
    rcases hrun with h | ⟨h, rfl⟩
    · rw [h, Oper.upon_value]; exact hn v w' ρ' hst hr
    · rw [h, Oper.upon_skip]; exact hn undef w' ρ' hst hr

/- ### Blocks that are kept -/

theorem addP_spec {H : AH} {e : Option Nat} {inc p : List Nat} : ∀ {ls : List LR} {q : List Nat}, addP H e inc p ls = some q →
    (∀ i, i ∈ p → i ∈ q) ∧ (∀ i, i ∈ q → i ∈ p ∨ ∃ o, H.t.get i = some o) ∧ ∀ x ∈ ls, memN inc x.i = true → askAgain e x = false → x.b ∈ q ∧ ∃ o, H.t.get x.b = some o
  | [], q, h => by simp [addP] at h; subst h; exact ⟨fun _ h => h, fun _ h => .inl h, by simp⟩
  | x :: ls, q, h => by
    simp only [addP] at h
    split at h
    · cases h
    · rename_i q1 h1
      obtain ⟨g1, g2, g3⟩ := addP_spec h1
      cases hm : memN inc x.i && !askAgain e x
      · rw [hm, cond_false] at h
        simp only [Option.some.injEq] at h
        subst h
        refine ⟨g1, g2, fun y hy hi ha => ?_⟩
        rcases List.mem_cons.1 hy with rfl | hy
        · rw [hi, ha] at hm; simp at hm
        · exact g3 y hy hi ha
      · rw [hm, cond_true] at h
        split at h
        · rename_i o ho
          simp only [Option.some.injEq] at h
          subst h
          refine ⟨fun i hi => List.mem_cons_of_mem _ (g1 i hi), fun i hi => ?_, fun y hy hi ha => ?_⟩
          · rcases List.mem_cons.1 hi with rfl | hi
            · exact .inr ⟨o, ho⟩
            · exact g2 i hi
          · rcases List.mem_cons.1 hy with rfl | hy
            · exact ⟨List.mem_cons_self, o, ho⟩
            · obtain ⟨e1, e2⟩ := g3 y hy hi ha
              exact ⟨List.mem_cons_of_mem _ e1, e2⟩
        · cases h

/-- What is kept besides is given free again. -/
theorem St.unkeep {ρ ρ' : Rho} {H H₁ : AH} {w w' : World} {q : List Nat} (h : St ρ { t := H.t, n := H.n, p := q } w ρ' H₁ w') (hH : RH ρ H w) (h1 : ∀ i, i ∈ H.p → i ∈ q) (h2 : ∀ i, i ∈ q → i ∈ H.p ∨ ∃ o, H.t.get i = some o) :
    St ρ H w ρ' { t := H₁.t, n := H₁.n, p := H.p } w' := by
  refine ⟨h.ext, h.rh.congr (fun _ => rfl) rfl, rfl, fun c hc hw => h.frame c hc (fun ⟨i, o, m, g1, g2, g3⟩ => hw ⟨i, o, m, g1, fun hp => g2 (h1 i hp), g3⟩), fun c hc => ?_, fun c hc => h.live c hc, h.os, h.tape, h.output, h.size⟩
  obtain ⟨i, o, m, g1, g2, g3⟩ := hc
  have hp1 : H₁.p = q := h.p
  by_cases hi : i ∈ q
  · rcases h2 i hi with hp | ⟨o', ho'⟩
    · exact absurd hp g2
    · obtain ⟨c', m', obj, e1, _, _⟩ := hH.blk i o' ho'
      have := h.ext i _ e1
      rw [g3] at this
      obtain ⟨rfl, rfl⟩ : c = c' ∧ m = m' := by simpa using this
      exact .inr ⟨i, o', m, ho', g2, e1⟩
  · rcases h.own c ⟨i, o, m, g1, by rw [hp1]; exact hi, g3⟩ with hs | ⟨j, o', m', e1, e2, e3⟩
    · exact .inl hs
    · exact .inr ⟨j, o', m', e1, fun hp => e2 (h1 j hp), e3⟩

/-- A kept block is as it was. -/
theorem St.kept {ρ ρ' : Rho} {H H₁ : AH} {w w' : World} (h : St ρ H w ρ' H₁ w') (hH : RH ρ H w) {b c m : Nat} {o : AO} (hb : H.t.get b = some o) (hc : ρ b = some (c, m)) (hp : b ∈ H.p) : w'.heap[c]? = w.heap[c]? := by
  refine h.frame c (hH.lt hb hc) fun ⟨i, o', m', e1, e2, e3⟩ => e2 ?_
  rw [hH.inj i b o' o c m' m e1 hb e3 hc]
  exact hp

/- ### Slots -/

theorem RT.put {ρ : Rho} {T : Tr AT} {a : Act} (hT : RT ρ T a.tmps) {dst : Option Tmp} {r : AT} {v : Value} (hr : R1 ρ r v) {nt : Nat} (hd : dstOk nt dst = true) (hn : nt ≤ a.tmps.size) : RT ρ (putT T dst r) (a.put dst v).tmps := by
  cases dst with
  | none => exact hT
  | some d =>
    have hlt : d < a.tmps.size := by
      have : d < nt := of_decide_eq_true hd
      exact Nat.lt_of_lt_of_le this hn
    intro i x hx
    simp only [putT, Tr.get_put] at hx
    simp only [Act.put]
    split at hx
    · rename_i e
      subst e
      simp only [Option.some.injEq] at hx
      subst hx
      exact ⟨v, by simp [hlt], hr⟩
    · rename_i e
      obtain ⟨u, h1, h2⟩ := hT i x hx
      exact ⟨u, by rw [Array.getElem?_setIfInBounds_ne e]; exact h1, h2⟩

theorem put_size (a : Act) (dst : Option Tmp) (v : Value) : (a.put dst v).tmps.size = a.tmps.size ∧ (a.put dst v).defers = a.defers := by
  cases dst <;> simp [Act.put]

theorem wanted_rel {ρ : Rho} {T : Tr AT} {a : Act} (hT : RT ρ T a.tmps) {ops : Array Oper} {o : Oper} {g : Option (Nat × Bool)} (hg : cGuard ops o.guard = some g) {b : Bool} (hb : wantedA T g = some b) : Region.wanted o (yielded ops a.tmps) = b := by
  unfold Region.wanted
  cases hgu : o.guard with
  | none =>
    rw [hgu] at hg
    simp only [cGuard, Option.some.injEq] at hg
    subst hg
    simp only [wantedA, Option.some.injEq] at hb
    exact hb
  | some p =>
    obtain ⟨j, want⟩ := p
    rw [hgu] at hg
    simp only [cGuard] at hg
    split at hg
    · rename_i t ht
      simp only [Option.some.injEq] at hg
      subst hg
      simp only [wantedA] at hb
      simp only [yielded, ht, Option.bind_some]
      split at hb
      · cases hb
      · rename_i q hq
        simp only [Option.some.injEq] at hb
        obtain ⟨v, h1, h2⟩ := hT t _ hq
        have h2' : v = .bool q := h2
        rw [h1, h2']
        simp only []
        rw [← hb]
        cases q <;> cases want <;> rfl
      · rename_i x hno hq
        simp only [Option.some.injEq] at hb
        subst hb
        obtain ⟨v, h1, h2⟩ := hT t x hq
        rw [h1]
        cases v with
        | bool q =>
          exfalso
          cases x with
          | tup xs => obtain ⟨vs, e, _⟩ := h2; cases e
          | v x =>
            cases x with
            | agg xs => obtain ⟨vs, e, _⟩ := h2; cases e
            | c x =>
              have h2' : RC ρ x (.bool q) := h2
              cases x <;> simp only [RC, RPtr] at h2'
              case bool b' => exact hno b' rfl
              case int => cases h2'
              case flt => obtain ⟨_, _, e⟩ := h2'; cases e
              case cpx => obtain ⟨_, _, _, _, e⟩ := h2'; cases e
              case nilp => cases h2'
              case ptr => obtain ⟨_, _, _, e⟩ := h2'; cases e
              case nils => cases h2'
              case sl => obtain ⟨_, _, _, _, e, _⟩ := h2'; cases e
              case osl => obtain ⟨_, _, _, _, e, _⟩ := h2'; cases e
              case nilm => cases h2'
              case map => obtain ⟨_, _, _, e⟩ := h2'; cases e
              case fn => obtain ⟨_, e, _⟩ := h2'; cases e
              case nilf => cases h2'
        | _ => simp
    · cases hg

theorem undef_rel (ρ : Rho) : R1 ρ undefA undef := ⟨[], rfl, .nil⟩

theorem cI_spec {nt : Nat} {ops : Array Oper} {i : Nat} {q : Bool} {inc : List Nat} {x : AI} (h : cI P nt ops i q inc = some x) :
    ∃ o, ops[i]? = some o ∧ cOp P o.op = some x.op ∧ cGuard ops o.guard = some x.guard ∧ dstOk nt o.dst = true ∧ x.i = i ∧ x.dst = o.dst ∧ x.q = q ∧ x.inc = inc := by
  unfold cI at h
  split at h
  · cases h
  · rename_i o ho
    split at h
    · rename_i op g hop hg
      split at h
      · rename_i hd
        simp only [Option.some.injEq] at h
        subst h
        exact ⟨o, ho, hop, hg, hd, rfl, rfl, rfl, rfl⟩
      · cases h
    · cases h

/-- What is asked behind a piece of code, where the evaluator's state has become (T', H'). -/
def Post (Q : Exit → Act → World → Prop) (e : Exit) (ρ : Rho) (H : AH) (w : World) (a : Act) (T' : Tr AT) (H' : AH) : Prop :=
  ∀ a' w' ρ', St ρ H w ρ' H' w' → RT ρ' T' a'.tmps → a'.tmps.size = a.tmps.size → a'.defers = a.defers → Q e a' w'

/-- A region in the text's order. -/
theorem text_wp (hcall : CallsOK P callf) {nt : Nat} {ops : Array Oper} {Q : Exit → Act → World → Prop} : ∀ (is : List Nat) {xs : List AI}, cText P nt ops is = some xs → ∀ {ρ : Rho} {T T' : Tr AT} {a : Act} {w : World} {H H' : AH} {ls : List LR},
    RT ρ T a.tmps → RH ρ H w → nt ≤ a.tmps.size → evIs callf xs ls T H = some (T', H') → Post Q .normal ρ H w a T' H' → wpOps P ops Q is a w
  | [], xs, hx, ρ, T, T', a, w, H, H', ls, hT, hH, hn, he, hp => by
    simp [cText] at hx
    subst hx
    simp [evIs] at he
    obtain ⟨rfl, rfl⟩ := he
    exact hp a w ρ (St.refl hH) hT rfl rfl
  | i :: is, xs, hx, ρ, T, T', a, w, H, H', ls, hT, hH, hn, he, hp => by
    simp only [cText] at hx
    split at hx
    · cases hx
    rename_i x hxi
    split at hx
    · cases hx
    rename_i xs' hxs
    simp only [Option.some.injEq] at hx
    subst hx
    obtain ⟨o, h1, h2, h3, h4, h5, h6, h7, h8⟩ := cI_spec hxi
    simp only [evIs] at he
    simp only [wpOps, h1]
    split at he
    · cases he
    · rename_i hw
      have hw' := wanted_rel (a := a) hT h3 hw
      simp only [hw', Bool.false_eq_true, if_false]
      have hT' : RT ρ (putT T x.dst undefA) (a.put o.dst undef).tmps := by rw [h6]; exact hT.put (undef_rel ρ) h4 hn
      refine text_wp hcall is hxs hT' hH (by rw [(put_size a _ _).1]; exact hn) he fun a' w' ρ' e1 e2 e3 e4 => hp a' w' ρ' e1 e2 ?_ ?_
      · rw [e3, (put_size a _ _).1]
      · rw [e4, (put_size a _ _).2]
    · rename_i hw
      have hw' := wanted_rel (a := a) hT h3 hw
      simp only [hw', if_true]
      split at he
      · cases he
      rename_i v H₁ hi
      rw [fzT_eq] at he
      unfold evI at hi
      rw [h7, h8, cond_false] at hi
      simp only [isNil, cond_true] at hi
      refine .inl (op_wp hcall hT hH h2 hi fun u w1 ρ1 hst hr => ?_)
      have hT' : RT ρ1 (putT T x.dst v) (a.put o.dst u).tmps := by rw [h6]; exact (hT.ext hst.ext).put hr h4 hn
      refine text_wp hcall is hxs hT' hst.rh (by rw [(put_size a _ _).1]; exact hn) he fun a' w' ρ' e1 e2 e3 e4 => hp a' w' ρ' (hst.trans e1) e2 ?_ ?_
      · rw [e3, (put_size a _ _).1]
      · rw [e4, (put_size a _ _).2]
end
end Go.Ev
