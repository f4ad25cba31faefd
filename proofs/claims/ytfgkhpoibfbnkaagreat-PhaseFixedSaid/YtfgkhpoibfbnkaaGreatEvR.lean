/-
  What a region's reads hang on, and what its other operations leave of it. No conditions.
-/
import Derived.Test.YtfgkhpoibfbnkaaGreatEvO
namespace Go.Ev

section
variable {P : Program} {callf : Nat → List AV → AH → Option (AT × AH)} {ops : Array Oper} {ks : List (Option AOp)}

theorem live_read {T : Tr AT} {ao : AOp} {H H' : AH} {r : AT} {b : Nat} (hb : rblk T ao = some b) (he : evOp callf T ao H = some (r, H')) : ∃ o, H.t.get b = some o := by
  unfold rblk at hb
  split at hb
  · rename_i z x
    split at hb
    · rename_i b' off hx
      simp only [Option.some.injEq] at hb
      subst hb
      simp only [evOp, hx] at he
      cases hg : H.t.get b' with
      | some o => exact ⟨o, rfl⟩
      | none =>
        exfalso
        cases z <;> simp [AH.read1, AH.read, hg, some1] at he
    · cases hb
  · rename_i key zero m k ok
    split at hb
    · rename_i b' hx
      simp only [Option.some.injEq] at hb
      subst hb
      simp only [evOp, hx] at he
      cases hg : H.t.get b' with
      | some o => exact ⟨o, rfl⟩
      | none =>
        exfalso
        cases hk : k.evV T with
        | none => simp [hk] at he
        | some k1 =>
          cases hko : keyOk key k1 <;> simp [hk, hko, AH.getMap, hg] at he
    · cases hb
  · cases hb

theorem isRead_of {T : Tr AT} {ao : AOp} {b : Nat} (hb : rblk T ao = some b) : isRead ao = true := by
  unfold rblk at hb
  split at hb
  · rfl
  · rfl
  · cases hb

theorem readOf_of {T : Tr AT} {ao : AOp} {b i : Nat} {r : AT} (hb : rblk T ao = some b) : ∃ x, readOf T i ao r = some x ∧ x.i = i ∧ x.b = b ∧
    ∀ k q n, x.k = some (k, q, n) → ∃ key zero m' k', ao = .lookup key zero m' k' false ∧ m'.evC T = some (.map b) ∧ k'.evV T = some k ∧ r = .v (.c (.int q n)) := by
  unfold rblk at hb
  split at hb
  · rename_i z x
    split at hb
    · rename_i b' off hx
      simp only [Option.some.injEq] at hb
      subst hb
      exact ⟨{ i := i, b := b', k := none }, by simp [readOf, hx], rfl, rfl, fun _ _ _ h => by cases h⟩
    · cases hb
  · rename_i key zero m k ok
    split at hb
    · rename_i b' hx
      simp only [Option.some.injEq] at hb
      subst hb
      simp only [readOf, hx]
      split
      · rename_i q n k1 hk1
        refine ⟨_, rfl, rfl, rfl, fun k2 q2 n2 h => ?_⟩
        simp only [Option.some.injEq, Prod.mk.injEq] at h
        obtain ⟨rfl, rfl, rfl⟩ := h
        exact ⟨key, zero, m, k, rfl, hx, hk1, rfl⟩
      · exact ⟨_, rfl, rfl, rfl, fun _ _ _ h => by cases h⟩
    · cases hb
  · cases hb

/-- What is known of what a read hangs on. -/
def KM (ks : List (Option AOp)) (ρ : Rho) (w : World) (ls : List LR) (mi : World → Prop) (i : Nat) : Prop :=
  (∀ w, mi w) ∨ (readAt ks i = true ∧ ∃ x ∈ ls, x.i = i ∧ ∃ c n, ρ x.b = some (c, n) ∧ c < w.heap.size ∧ (∀ w1 w2 : World, w2.heap[c]? = w1.heap[c]? → mi w1 → mi w2) ∧
    ∀ k q n, x.k = some (k, q, n) → ∀ (ρ' : Rho) (H' : AH) (w' : World) (es : List (AV × AV)) (j : Nat), Ext ρ ρ' → RH ρ' H' w' → H'.getMap x.b = some es → findK k es 0 = some (some (j, .c (.int q n))) → mi w')

theorem KM.mono {ρ ρ' : Rho} {w w' : World} {ls ls' : List LR} {mi : World → Prop} {i : Nat} (h : KM ks ρ w ls mi i) (h1 : Ext ρ ρ') (h2 : w.heap.size ≤ w'.heap.size) (h3 : ∀ x ∈ ls, x ∈ ls') : KM ks ρ' w' ls' mi i := by
  rcases h with h | ⟨g0, x, g1, g2, c, n, g3, g4, g5, g6⟩
  · exact .inl h
  · exact .inr ⟨g0, x, h3 x g1, g2, c, n, h1 _ _ g3, Nat.lt_of_lt_of_le g4 h2, g5, fun k q n hk ρ2 H2 w2 es j e1 e2 e3 e4 => g6 k q n hk ρ2 H2 w2 es j (h1.trans e1) e2 e3 e4⟩

theorem read_km {ρ : Rho} {T : Tr AT} {a : Act} {w : World} {H : AH} {r : AT} (hT : RT ρ T a.tmps) (hH : RH ρ H w) {o : Oper} {ao : AOp} (hc : cOp P o.op = some ao) (hq : quiet ao = true) (he : evOp callf T ao H = some (r, H))
    {v : Value} (hv : R1 ρ r v) (hrun : ∀ w', Looks ρ (rblk T ao) w w' → (execOp a.eval o).run P w' = .ok (.value v) w') {i : Nat} (hk : readAt ks i = isRead ao) (ls : List LR) :
    ∃ S : World → Prop, ((∀ w, S w) ∨ readAt ks i = true) ∧ S w ∧ (∀ w', S w' → (execOp a.eval o).run P w' = .ok (.value v) w') ∧ KM ks ρ w (addR (readOf T i ao r) ls) S i := by
  cases hb : rblk T ao with
  | none =>
    refine ⟨fun _ => True, .inl fun _ => trivial, trivial, fun w' _ => hrun w' (by rw [hb]; intro _ _ _ h; cases h), .inl fun _ => trivial⟩
  | some b =>
    obtain ⟨ob, hob⟩ := live_read hb he
    obtain ⟨c, n, _, hρ, hcw, _⟩ := hH.blk b ob hob
    have hlt := hH.lt hob hρ
    obtain ⟨x, hx, hxi, hxb, hxk⟩ := readOf_of (i := i) (r := r) hb
    refine ⟨fun w' => ∀ w'' : World, w''.heap[c]? = w'.heap[c]? → (execOp a.eval o).run P w'' = .ok (.value v) w'', .inr (hk.trans (isRead_of hb)), fun w'' hw => hrun w'' ?_, fun w' h => h w' rfl, .inr ⟨hk.trans (isRead_of hb), x, by simp [hx, addR], hxi, c, n, by rw [hxb]; exact hρ, hlt, fun w1 w2 h12 h1 w3 h3 => h1 w3 (h3.trans h12), ?_⟩⟩
    · intro b' c' m' e1 e2
      rw [hb] at e1
      simp only [Option.some.injEq] at e1
      subst e1
      rw [hρ] at e2
      simp only [Option.some.injEq, Prod.mk.injEq] at e2
      rw [← e2.1]
      exact hw
    · intro k q n' hxk' ρ' H' w' es j e1 e2 e3 e4 w'' hw''
      obtain ⟨key, zero, m', k', rfl, g1, g2, rfl⟩ := hxk k q n' hxk'
      have hko : keyOk key k = true := by
        cases hko : keyOk key k
        · simp [evOp, g1, g2, hko] at he
        · rfl
      rw [hxb] at e3
      have he' : evOp callf T (.lookup key zero m' k' false) H' = some (.v (.c (.int q n')), H') := by
        simp [evOp, g1, g2, hko, e3, e4]
      obtain ⟨_, hy | ⟨hd, _⟩⟩ := op_quiet (a := a) (hT.ext e1) e2 hc hq he'
      · obtain ⟨v', hv', hrun'⟩ := hy
        have h1 : v' = .int q n' := hv'
        have h2 : v = .int q n' := hv
        rw [h2, ← h1]
        refine hrun' w'' fun b' c' m' f1 f2 => ?_
        rw [hb] at f1
        simp only [Option.some.injEq] at f1
        subst f1
        rw [e1 _ _ hρ] at f2
        simp only [Option.some.injEq, Prod.mk.injEq] at f2
        rw [← f2.1]
        exact hw''
      · simp [drewNan] at hd

theorem asIs_spec {H : AH} {e : Option Nat} {inc : List Nat} : ∀ {ls : List LR}, asIs H e inc ls = true → ∀ x ∈ ls, memN inc x.i = true → askAgain e x = true →
    ∃ k q n es j, x.k = some (k, q, n) ∧ H.getMap x.b = some es ∧ findK k es 0 = some (some (j, .c (.int q n)))
  | [], _, x, hx, _, _ => by cases hx
  | y :: ls, h, x, hx, hm, ha => by
    simp only [asIs, Bool.and_eq_true] at h
    rcases List.mem_cons.1 hx with rfl | hx
    · have h1 := h.1
      rw [hm, ha] at h1
      simp only [Bool.and_self, cond_true] at h1
      split at h1
      · rename_i k q n es hk hes
        split at h1
        · rename_i j q' n' hf
          simp only [Bool.and_eq_true, decide_eq_true_eq] at h1
          obtain ⟨rfl, rfl⟩ := h1
          exact ⟨k, q, n, es, j, hk, hes, hf⟩
        · cases h1
      · cases h1
    · exact asIs_spec h.2 x hx hm ha

/-- An operation that is not taken ahead. -/
theorem eff_wp (hcall : CallsOK P callf) {ρ : Rho} {T : Tr AT} {a : Act} {w : World} {H H' : AH} {r : AT} {ls : List LR} (hT : RT ρ T a.tmps) (hH : RH ρ H w) {o : Oper} {x : AI} (hq : x.q = false) (hc : cOp P o.op = some x.op) (he : evI callf x ls T H = some (r, H'))
    {next : Act → World → Prop} {Q : Exit → Act → World → Prop} (hn : ∀ v w' ρ', St ρ H w ρ' H' w' → R1 ρ' r v → (∀ i m, memN x.inc i = true → KM ks ρ w ls m i → m w → m w') → next (a.put o.dst v) w') : o.wp P a w next Q := by
  unfold evI at he
  rw [hq, cond_false] at he
  cases hinc : isNil x.inc
  · rw [hinc, cond_false] at he
    split at he
    · cases he
    rename_i p hp
    split at he
    · rename_i v H₁ hev
      cases has : asIs H₁ (entryOf T x.op) x.inc ls
      · rw [has] at he; cases he
      rw [has, cond_true] at he
      simp only [Option.some.injEq, Prod.mk.injEq] at he
      obtain ⟨rfl, rfl⟩ := he
      obtain ⟨p1, p2, p3⟩ := addP_spec hp
      have hH' : RH ρ { t := H.t, n := H.n, p := p } w := hH.congr (fun _ => rfl) rfl
      refine op_wp hcall hT hH' hc hev fun u w' ρ' hst hr => hn u w' ρ' (hst.unkeep hH p1 p2) hr fun i m hi hkm hmw => ?_
      rcases hkm with hkm | ⟨_, y, hy, hyi, c, n, hρ, hlt, hdep, hask⟩
      · exact hkm w'
      · rw [← hyi] at hi
        cases ha : askAgain (entryOf T x.op) y
        · obtain ⟨g1, ob, g2⟩ := p3 y hy hi ha
          exact hdep w w' (hst.kept hH' g2 hρ g1) hmw
        · obtain ⟨k, q, n', es, j, f1, f2, f3⟩ := asIs_spec has y hy hi ha
          exact hask k q n' f1 ρ' H₁ w' es j hst.ext hst.rh f2 f3
    · cases he
  · rw [hinc, cond_true] at he
    refine op_wp hcall hT hH hc he fun u w' ρ' hst hr => hn u w' ρ' hst hr fun i m hi _ _ => ?_
    cases hx : x.inc with
    | nil => rw [hx] at hi; simp [memN] at hi
    | cons y l => rw [hx] at hinc; simp [isNil] at hinc
end
end Go.Ev
