/-
  Code and calls: what the evaluator says is what the model does. No conditions.
-/
import Derived.Test.YtfgkhpoibfbnkaaGreatEvP
namespace Go.Ev

section
variable {P : Program} {env : Nat → Option AFun}

theorem ev_zero (c : ACode) (T : Tr AT) (H : AH) : ev env 0 c T H = none := rfl
theorem ev_succ (n : Nat) (c : ACode) (T : Tr AT) (H : AH) : ev env (n + 1) c T H = evStep env (ev env n) c T H := rfl

/-- Each function that the evaluator knows is the program's. -/
def EnvOK (P : Program) (env : Nat → Option AFun) : Prop := ∀ f af, env f = some af → ∃ fn, P.funcs[f]? = some fn ∧ cFun P fn = some af

def CodeOK (P : Program) (self : ACode → Tr AT → AH → Ans) : Prop :=
  ∀ {nt : Nat} {c : Code} {ac : ACode}, cCode P nt c = some ac → ∀ {T : Tr AT} {H : AH} {e : AE} {T' : Tr AT} {H' : AH}, self ac T H = some (e, T', H') → ∀ {ρ : Rho} {a : Act} {w : World} {Q : Exit → Act → World → Prop},
    RT ρ T a.tmps → RH ρ H w → nt ≤ a.tmps.size → (∀ c a w, ¬ Q (.panic c) a w) → Post Q (toE e) ρ H w a T' H' → c.wp P Q a w

theorem cFun_spec {fn : Func} {af : AFun} (h : cFun P fn = some af) : fn.name ≠ "runtime.NumGoroutine" ∧ ∃ c, fn.body = some c ∧ cCode P fn.ntmps c = some af.code ∧ cRes P fn.results.toList = some af.res ∧ af.ntmps = fn.ntmps := by
  unfold cFun at h
  split at h
  · cases h
  · rename_i hn
    split at h
    · cases h
    · rename_i c hb
      split at h
      · rename_i ac rs h1 h2
        simp only [Option.some.injEq] at h
        subst h
        exact ⟨hn, c, hb, h1, h2, rfl⟩
      · cases h

theorem calls_ok (henv : EnvOK P env) {self : ACode → Tr AT → AH → Ans} (hself : CodeOK P self) : CallsOK P (callE env self) := by
  intro f args H r H' he
  unfold callE at he
  split at he
  · cases he
  rename_i af haf
  obtain ⟨fn, hfn, hc⟩ := henv f af haf
  obtain ⟨hname, c, hb, h1, h2, _⟩ := cFun_spec hc
  refine ⟨⟨fn, hfn, hname, by rw [hb]; rfl⟩, fun ρ w vs hH hargs => ?_⟩
  refine calls_of_wp hfn hb ?_
  have hT : RT ρ (enter args 0 .nil) (vs.toArray ++ Array.replicate (fn.ntmps - vs.toArray.size) undef) := by
    refine enter_rel hargs 0 .nil _ (fun i x hx => by simp [Tr.get] at hx) fun j v hj => ?_
    have hlt : j < vs.length := (List.getElem?_eq_some_iff.1 hj).1
    rw [Nat.zero_add, Array.getElem?_append_left (by simpa using hlt)]
    simpa using hj
  have hn : fn.ntmps ≤ (vs.toArray ++ Array.replicate (fn.ntmps - vs.toArray.size) undef).size := by
    simp
    omega
  have fin : ∀ {e : AE} {T1 : Tr AT} {H1 : AH} {us : List AV}, self af.code (enter args 0 .nil) H = some (e, T1, H1) → (e = .normal ∨ e = .ret) → resA T1 H1 af.res = some us → r = one us → H' = H1 →
      c.wp P (bodyPost P fn fun e w' => ∃ v ρ', e = .returned v ∧ St ρ H w ρ' H' w' ∧ R1 ρ' r v) { tmps := vs.toArray ++ Array.replicate (fn.ntmps - vs.toArray.size) undef, defers := [] } w := fun {e T1 H1 us} hev hen hres hr hH' => by
    subst hr
    subst hH'
    refine hself h1 hev hT hH hn (fun ch a w hq => ?_) fun a' w' ρ' e1 e2 _ e4 => ?_
    · obtain ⟨_, _, _, h, _⟩ := hq
      cases h
    · obtain ⟨v, g1, g2⟩ := results_rel e2 e1.rh h2 hres
      rcases hen with rfl | rfl <;> exact ⟨e4, v, g1, v, ρ', rfl, e1, g2⟩
  split at he
  · cases he
  · cases he
  · rename_i e T1 H1 hno hev
    split at he
    · rename_i us hus
      simp only [Option.some.injEq, Prod.mk.injEq] at he
      refine fin hev ?_ hus he.1.symm he.2.symm
      cases e with
      | normal => exact .inl rfl
      | ret => exact .inr rfl
      | exit id => exact (hno id rfl).elim
    · cases he

theorem St_post {ρ ρ1 : Rho} {H H1 : AH} {w w1 : World} {a a1 : Act} (hst : St ρ H w ρ1 H1 w1) (h1 : a1.tmps.size = a.tmps.size) (h2 : a1.defers = a.defers) {Q : Exit → Act → World → Prop} {e : Exit} {T' : Tr AT} {H' : AH} (hp : Post Q e ρ H w a T' H') : Post Q e ρ1 H1 w1 a1 T' H' :=
  fun a' w' ρ' e1 e2 e3 e4 => hp a' w' ρ' (hst.trans e1) e2 (e3.trans h1) (e4.trans h2)

/-- Loops, in so many rounds at most. -/
def LoopOK (P : Program) (n : Nat) (self : ACode → Tr AT → AH → Ans) : Prop :=
  ∀ {nt : Nat} {c : Code} {ac : ACode}, cCode P nt c = some ac → ∀ {T : Tr AT} {H : AH} {e : AE} {T' : Tr AT} {H' : AH}, self (.loop ac) T H = some (e, T', H') → ∀ {ρ : Rho} {a : Act} {w : World} {Q : Exit → Act → World → Prop},
    RT ρ T a.tmps → RH ρ H w → nt ≤ a.tmps.size → (∀ c a w, ¬ Q (.panic c) a w) → Post Q (toE e) ρ H w a T' H' → Code.rounds P c Q n a w

theorem loop_ok {self : ACode → Tr AT → AH → Ans} (hself : CodeOK P self) {n : Nat} (hl : LoopOK P n self) : LoopOK P (n + 1) (evStep env self) := by
  intro nt x x' hx T H e T' H' he ρ a w Q hT hH hn hQ hp
  simp only [evStep] at he
  rw [rounds_succ]
  split at he
  · cases he
  · rename_i T1 H1 h1
    refine hself hx h1 hT hH hn (fun c a w h => hQ c a w h) fun a' w' ρ' e1 e2 e3 e4 => ?_
    exact hl hx he e2 e1.rh (by rw [e3]; exact hn) hQ (St_post e1 e3 e4 hp)
  · rename_i r hno h1
    simp only [Option.some.injEq] at he
    subst he
    refine hself hx h1 hT hH hn (fun c a w h => hQ c a w h) fun a' w' ρ' e1 e2 e3 e4 => ?_
    have := hp a' w' ρ' e1 e2 e3 e4
    cases e with
    | normal => exact absurd rfl (hno T' H')
    | exit id => exact this
    | ret => exact this

theorem step_ok (henv : EnvOK P env) (hm : P.follows .mixedOrders = true) {self : ACode → Tr AT → AH → Ans} (hself : CodeOK P self) {n : Nat} (hl : LoopOK P n self) : CodeOK P (evStep env self) := by
  intro nt c ac hc T H e T' H' he ρ a w Q hT hH hn hQ hp
  cases c with
  | skip =>
    simp only [cCode, Option.some.injEq] at hc
    subst hc
    simp only [evStep, Option.some.injEq, Prod.mk.injEq] at he
    obtain ⟨rfl, rfl, rfl⟩ := he
    exact wp_skip (hp a w ρ (St.refl hH) hT rfl rfl)
  | ret =>
    simp only [cCode, Option.some.injEq] at hc
    subst hc
    simp only [evStep, Option.some.injEq, Prod.mk.injEq] at he
    obtain ⟨rfl, rfl, rfl⟩ := he
    exact wp_ret (hp a w ρ (St.refl hH) hT rfl rfl)
  | exit id =>
    simp only [cCode, Option.some.injEq] at hc
    subst hc
    simp only [evStep, Option.some.injEq, Prod.mk.injEq] at he
    obtain ⟨rfl, rfl, rfl⟩ := he
    exact wp_exit (hp a w ρ (St.refl hH) hT rfl rfl)
  | region id ops draw =>
    simp only [cCode] at hc
    split at hc
    · rename_i er is hr
      simp only [Option.some.injEq] at hc
      subst hc
      simp only [evStep] at he
      split at he
      · cases he
      · rename_i T1 H1 hev
        simp only [Option.some.injEq, Prod.mk.injEq] at he
        obtain ⟨rfl, rfl, rfl⟩ := he
        exact region_wp (callf := callE env self) (calls_ok henv hself) hm hr hT hH hn hQ hev hp
    · cases hc
  | seq x y =>
    simp only [cCode] at hc
    split at hc
    · rename_i x' y' hx hy
      simp only [Option.some.injEq] at hc
      subst hc
      simp only [evStep] at he
      refine wp_seq ?_
      split at he
      · cases he
      · rename_i T1 H1 h1
        refine hself hx h1 hT hH hn (fun c a w h => hQ c a w h) fun a' w' ρ' e1 e2 e3 e4 => ?_
        exact hself hy he e2 e1.rh (by rw [e3]; exact hn) hQ (St_post e1 e3 e4 hp)
      · rename_i r hno h1
        simp only [Option.some.injEq] at he
        subst he
        refine hself hx h1 hT hH hn (fun c a w h => hQ c a w h) fun a' w' ρ' e1 e2 e3 e4 => ?_
        have := hp a' w' ρ' e1 e2 e3 e4
        cases e with
        | normal => exact absurd rfl (hno T' H')
        | exit id => exact this
        | ret => exact this
    · cases hc
  | cond x y z =>
    simp only [cCode] at hc
    split at hc
    · rename_i x' y' z' hx hy hz
      simp only [Option.some.injEq] at hc
      subst hc
      simp only [evStep] at he
      split at he
      · rename_i hb
        exact wp_cond_true (evC_rel hT hx hb) (hself hy he hT hH hn hQ hp)
      · rename_i hb
        exact wp_cond_false (evC_rel hT hx hb) (hself hz he hT hH hn hQ hp)
      · cases he
    · cases hc
  | block id x =>
    simp only [cCode] at hc
    split at hc
    · rename_i x' hx
      simp only [Option.some.injEq] at hc
      subst hc
      simp only [evStep] at he
      refine wp_block ?_
      split at he
      · cases he
      · rename_i id' T1 H1 h1
        refine hself hx h1 hT hH hn (fun c a w h => hQ c a w h) fun a' w' ρ' e1 e2 e3 e4 => ?_
        show if id' = id then Q .normal a' w' else Q (.exit id') a' w'
        cases hb : Nat.beq id' id
        · rw [hb, cond_false] at he
          simp only [Option.some.injEq, Prod.mk.injEq] at he
          obtain ⟨rfl, rfl, rfl⟩ := he
          rw [if_neg (fun h => by subst h; simp at hb)]
          exact hp a' w' ρ' e1 e2 e3 e4
        · rw [hb, cond_true] at he
          simp only [Option.some.injEq, Prod.mk.injEq] at he
          obtain ⟨rfl, rfl, rfl⟩ := he
          rw [if_pos (Nat.eq_of_beq_eq_true hb)]
          exact hp a' w' ρ' e1 e2 e3 e4
      · rename_i r hno h1
        simp only [Option.some.injEq] at he
        subst he
        refine hself hx h1 hT hH hn (fun c a w h => hQ c a w h) fun a' w' ρ' e1 e2 e3 e4 => ?_
        have := hp a' w' ρ' e1 e2 e3 e4
        cases e with
        | normal => exact this
        | exit id => exact absurd rfl (hno id T' H')
        | ret => exact this
    · cases hc
  | loop x =>
    simp only [cCode] at hc
    split at hc
    · rename_i x' hx
      simp only [Option.some.injEq] at hc
      subst hc
      exact wp_loop_rounds (n + 1) (loop_ok (env := env) hself hl hx he hT hH hn hQ hp)
    · cases hc
  | _ => simp [cCode] at hc

theorem both_ok (henv : EnvOK P env) (hm : P.follows .mixedOrders = true) : ∀ n, CodeOK P (ev env n) ∧ LoopOK P n (ev env n)
  | 0 => ⟨fun {_ _ _} _ {_ _ _ _ _} h => (by rw [ev_zero] at h; cases h), fun {_ _ _} _ {_ _ _ _ _} h => (by rw [ev_zero] at h; cases h)⟩
  | n + 1 => ⟨step_ok henv hm (both_ok henv hm n).1 (both_ok henv hm n).2, loop_ok (env := env) (both_ok henv hm n).1 (both_ok henv hm n).2⟩

theorem code_ok (henv : EnvOK P env) (hm : P.follows .mixedOrders = true) (n : Nat) : CodeOK P (ev env n) := (both_ok henv hm n).1

/-- What the evaluator says of a call of a function without arguments, in the empty memory, is what the call does. -/
theorem evF_calls (henv : EnvOK P env) (hm : P.follows .mixedOrders = true) {n f : Nat} {r : AT} {H' : AH} (he : evF env n f [] ⟨.nil, 0, []⟩ = some (r, H')) (w : World) :
    Calls P f #[] w fun e w' => ∃ v ρ', e = .returned v ∧ R1 ρ' r v ∧ w'.os = w.os ∧ w'.tape = w.tape ∧ w'.output = w.output ∧ w.heap.size ≤ w'.heap.size ∧ ∀ c, c < w.heap.size → w'.heap[c]? = w.heap[c]? := by
  have h := (calls_ok henv (code_ok henv hm n) f [] ⟨.nil, 0, []⟩ r H' he).2 (fun _ => none) w [] ⟨fun i o h => by simp [Tr.get] at h, fun i j o o' c m m' h => by simp [Tr.get] at h, fun _ _ => rfl⟩ .nil
  refine h.mono fun e w' ⟨v, ρ', h1, h2, h3⟩ => ⟨v, ρ', h1, h3, h2.os, h2.tape, h2.output, h2.size, fun c hc => h2.frame c hc fun ⟨i, o, m, g1, _⟩ => ?_⟩
  simp [Tr.get] at g1
end
end Go.Ev
