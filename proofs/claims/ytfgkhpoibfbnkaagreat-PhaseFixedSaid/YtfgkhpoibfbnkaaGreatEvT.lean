/-
  A region whose order is drawn: the steps. No conditions.
-/
import Derived.Test.YtfgkhpoibfbnkaaGreatEvS
namespace Go.Ev

section
variable {P : Program} {callf : Nat → List AV → AH → Option (AT × AH)} {ops : Array Oper} {ks : List (Option AOp)} {A : List Nat}
variable {ρ0 : Rho} {H0 : AH} {w0 : World} {a0 : Act} {listed listedC : Array Bool} {m : Nat → World → Prop} {a : Act} {w : World} {ρ : Rho} {T : Tr AT} {H : AH} {ls : List LR} {D : Nat → Option Nat}

theorem DD.lt {i c : Nat} (h : DD P ops w0 ρ H a w i c) : c < w.heap.size := by
  obtain ⟨_, _, _, _, _, _, _, _, _, _, _, _, ⟨obj, n, h1, _⟩, _⟩ := h
  exact (Array.getElem?_eq_some_iff.1 h1).1

theorem putT_get (T : Tr AT) (dst : Option Nat) (r : AT) (d : Nat) : (putT T dst r).get d = if dst = some d then some r else T.get d := by
  cases dst with
  | none => simp [putT]
  | some e =>
    simp only [putT, Tr.get_put, Option.some.injEq]

theorem put_get (a : Act) (dst : Option Tmp) (v : Value) (d : Nat) (h : dst ≠ some d) : (a.put dst v).tmps[d]? = a.tmps[d]? := by
  cases dst with
  | none => rfl
  | some e =>
    have hne : e ≠ d := fun he => h (he ▸ rfl)
    simp [Act.put, Array.getElem?_setIfInBounds_ne hne]

/-- One operation that comes up now, here and there. -/
theorem Inv.both (R : Reg P ops A ks) (I : Inv P ops A ks ρ0 H0 w0 a0 listed listedC m a w ρ T H ls D) {j : Nat} (hj : j ∈ Region.ready .any ops listed) {o : Oper} (ho : ops[j]? = some o) {nt : Nat} (hd : dstOk nt o.dst = true) (hn : nt ≤ a0.tmps.size)
    {w' : World} {ρ' : Rho} {H' : AH} {ls' : List LR} {S : World → Prop} {r : AT} {v : Value} (hst : St ρ H w ρ' H' w') (hr : R1 ρ' r v) (hls : ∀ x ∈ ls, x ∈ ls') (hS : KM ks ρ' w' ls' S j) :
    Inv P ops A ks ρ0 H0 w0 a0 (listed.setIfInBounds j true) (listedC.setIfInBounds j true) (upm m j S) (a.put o.dst v) w' ρ' (putT T o.dst r) H' ls' D := by
  have hjl : j < ops.size := (Array.getElem?_eq_some_iff.1 ho).1
  have hju := (mem_ready.1 hj).1
  obtain ⟨hjC, hjD⟩ := I.C_of_not hju
  refine ⟨by simp [I.sz], by simp [I.szC], fun i => ?_, fun i c hi => ?_, I.sh.set R.anc hj, fun i c hi => ?_, I.inj, fun i oi d hl hi hoi hdi => ?_, fun i => ?_, fun i hi => ?_, I.st.trans hst, (I.rt.ext hst.ext).put hr hd (by rw [I.tsz]; exact hn), by rw [(put_size a _ _).1]; exact I.tsz, by rw [(put_size a _ _).2]; exact I.df⟩
  · rw [getD_set, getD_set]
    by_cases h : j = i
    · subst h
      simp [I.sz, I.szC, hjl]
    · simp only [h, false_and, if_false]
      exact I.rel i
  · have hne : j ≠ i := fun e => by subst e; rw [hjD] at hi; cases hi
    rw [getD_set_ne true hne]
    exact I.dis i c hi
  · have hne : j ≠ i := fun e => by subst e; rw [hjD] at hi; cases hi
    have hdd := I.dd i c hi
    have hlt := hdd.lt
    obtain ⟨oi, e, d, z, xs, g1, g2, g3, g3', g4, g5, g6, ⟨obj, n, g7, g8⟩, g9, g10⟩ := hdd
    have hdst : o.dst ≠ some d := by rw [← g4]; exact own_spec (R.own i g2) g1 ho hne
    refine ⟨oi, e, d, z, xs, g1, g2, g3, g3', g4, g5, fun h => ?_, ⟨obj, n, ?_, g8⟩, g9, fun hlv => ?_⟩
    · rw [put_get a _ _ d hdst]
      rw [(put_size a _ _).1] at h
      exact g6 h
    · rw [hst.frame c hlt (fun ⟨i', o', m', e1, _, e3⟩ => g10 ⟨i', o', m', e1, e3⟩)]
      exact g7
    · rcases hst.live c hlv with h | h
      · omega
      · exact g10 h
  · have hne : j ≠ i := fun e => by
      subst e
      rw [getD_set] at hi
      simp [I.szC, hjl] at hi
    rw [getD_set_ne true hne] at hi
    have hdst : o.dst ≠ some d := by rw [← hdi]; exact own_spec (R.own i hl) hoi ho hne
    rw [putT_get, if_neg hdst]
    exact I.wip i oi d hl hi hoi hdi
  · by_cases h : i = j
    · subst h; rw [upm_same]; exact hS
    · rw [upm_ne h]; exact (I.km i).mono hst.ext hst.size hls
  · have hne : j ≠ i := fun e => by
      subst e
      rw [getD_set] at hi
      simp [I.sz, hjl] at hi
    rw [getD_set_ne true hne] at hi
    rw [upm_ne (Ne.symm hne)]
    exact I.pm i hi

/-- A late one comes up ahead of its turn. -/
theorem Inv.early (R : Reg P ops A ks) (I : Inv P ops A ks ρ0 H0 w0 a0 listed listedC m a w ρ T H ls D) {k : Nat} (hk : k ∈ Region.ready .any ops listed) {o : Oper} (ho : ops[k]? = some o) (hl : lateAt ops k = true) {e : TypeId} {d z : Nat} {xs : List AC} (he : o.op = .alloc e) (hg : o.guard = none) (hd : o.dst = some d) (hz : cZero P e = some (z, xs)) {vs : List Value} (hvs : ∀ ρ, RCs ρ xs vs) :
    Inv P ops A ks ρ0 H0 w0 a0 (listed.setIfInBounds k true) listedC (upm m k fun _ => True) (a.put o.dst (.pointer (some ⟨w.heap.size, 0, none⟩))) (w.alloc (.cells vs.toArray e)) ρ T H ls (fun i => if i = k then some w.heap.size else D i) := by
  have hkl : k < ops.size := (Array.getElem?_eq_some_iff.1 ho).1
  have hku := (mem_ready.1 hk).1
  obtain ⟨hkC, hkD⟩ := I.C_of_not hku
  have hTd : T.get d = none := I.wip k o d hl hkC ho hd
  have hheap : ∀ c, c < w.heap.size → (w.alloc (.cells vs.toArray e)).heap[c]? = w.heap[c]? := fun c hc => by
    simp only [World.alloc, Array.getElem?_push]
    rw [if_neg (by omega)]
  refine ⟨by simp [I.sz], I.szC, fun i => ?_, fun i c hi => ?_, I.sh.set R.anc hk, fun i c hi => ?_, fun i j c hi hj => ?_, I.wip, fun i => ?_, fun i hi => ?_, ?_, fun i x hx => ?_, by rw [(put_size a _ _).1]; exact I.tsz, by rw [(put_size a _ _).2]; exact I.df⟩
  · rw [getD_set]
    by_cases h : k = i
    · subst h
      simp [I.sz, hkl]
    · simp only [h, false_and, if_false, Ne.symm h]
      exact I.rel i
  · by_cases h : i = k
    · subst h; exact hkC
    · simp only [h, if_false] at hi
      exact I.dis i c hi
  · by_cases h : i = k
    · subst h
      simp only [if_true, Option.some.injEq] at hi
      subst hi
      refine ⟨o, e, d, z, xs, ho, hl, he, hg, hd, hz, fun h => ?_, ⟨.cells vs.toArray e, vs.length, by show (w.heap.push _)[w.heap.size]? = _; simp, fun ρ => ⟨vs.toArray, e, vs, [], rfl, by simp, by simp, hvs ρ, fun _ => rfl⟩⟩, I.st.size, fun ⟨i', o', m', e1, e2⟩ => absurd (I.st.rh.lt e1 e2) (Nat.lt_irrefl _)⟩
      rw [(put_size a _ _).1] at h
      simp [hd, Act.put, h]
    · simp only [h, if_false] at hi
      have hdd := I.dd i c hi
      have hlt := hdd.lt
      obtain ⟨oi, e', d', z', xs', g1, g2, g3, g3', g4, g5, g6, ⟨obj, n, g7, g8⟩, g9, g10⟩ := hdd
      have hdst : o.dst ≠ some d' := by rw [← g4]; exact own_spec (R.own i g2) g1 ho (Ne.symm h)
      refine ⟨oi, e', d', z', xs', g1, g2, g3, g3', g4, g5, fun h => ?_, ⟨obj, n, (hheap c hlt).trans g7, g8⟩, g9, g10⟩
      rw [put_get a _ _ d' hdst]
      rw [(put_size a _ _).1] at h
      exact g6 h
  · by_cases h : i = k
    · by_cases h' : j = k
      · exact h.trans h'.symm
      · simp only [h, h', if_true, if_false, Option.some.injEq] at hi hj
        have := (I.dd j c hj).lt
        omega
    · by_cases h' : j = k
      · simp only [h, h', if_true, if_false, Option.some.injEq] at hi hj
        have := (I.dd i c hi).lt
        omega
      · simp only [h, h', if_false] at hi hj
        exact I.inj i j c hi hj
  · by_cases h : i = k
    · subst h; rw [upm_same]; exact .inl fun _ => trivial
    · rw [upm_ne h]; exact (I.km i).mono (Ext.refl ρ) (by simp) fun _ hx => hx
  · by_cases h : i = k
    · subst h; rw [upm_same]; exact fun _ => trivial
    · rw [getD_set_ne true (Ne.symm h)] at hi
      rw [upm_ne h]
      exact I.pm i hi
  · have s := I.st
    refine ⟨s.ext, s.rh.alloc _, s.p, fun c hc hw => (hheap c (Nat.lt_of_lt_of_le hc s.size)).trans (s.frame c hc hw), s.own, s.live, s.os, s.tape, s.output, Nat.le_trans s.size (by simp)⟩
  · obtain ⟨u, h1, h2⟩ := I.rt i x hx
    refine ⟨u, ?_, h2⟩
    rw [put_get a _ _ i ?_]
    · exact h1
    · rw [hd]
      intro e'
      simp only [Option.some.injEq] at e'
      subst e'
      rw [hTd] at hx
      cases hx

/-- The turn of a late one that came up before. -/
theorem Inv.turn (R : Reg P ops A ks) (I : Inv P ops A ks ρ0 H0 w0 a0 listed listedC m a w ρ T H ls D) {k c : Nat} (hk : D k = some c) {o : Oper} (ho : ops[k]? = some o) {nt : Nat} (hdk : dstOk nt o.dst = true) (hn : nt ≤ a0.tmps.size) {ao : AOp} (hc : cOp P o.op = some ao) {r : AT} {H' : AH} (hev : evOp callf T ao H = some (r, H')) :
    ∃ ρ' D', Inv P ops A ks ρ0 H0 w0 a0 listed (listedC.setIfInBounds k true) m a w ρ' (putT T o.dst r) H' ls D' := by
  have hkl : k < ops.size := (Array.getElem?_eq_some_iff.1 ho).1
  obtain ⟨o', e, d, z, xs, g1, g2, g3, g3', g4, g5, g6, ⟨obj, n, g7, g8⟩, g9, g10⟩ := I.dd k c hk
  rw [ho] at g1
  simp only [Option.some.injEq] at g1
  subst g1
  rw [g3] at hc
  simp only [cOp, g5, Option.some.injEq] at hc
  subst hc
  simp only [evOp, Option.some.injEq, Prod.mk.injEq] at hev
  obtain ⟨rfl, rfl⟩ := hev
  have s := I.st
  have hfree : ∀ i o m, H.t.get i = some o → ρ i ≠ some (c, m) := fun i o m h1 h2 => g10 ⟨i, o, m, h1, h2⟩
  have hrh := s.rh.bind g7 (g8 ρ) hfree
  have hnn : ρ H.n = none := s.rh.fresh _ (Nat.le_refl _)
  have hext : Ext ρ (up ρ H.n (c, n)) := up_ext hnn
  have hnew : ∀ i, up ρ H.n (c, n) i = if i = H.n then some (c, n) else ρ i := fun i => rfl
  have hlv : ∀ c', Lv (up ρ H.n (c, n)) (H.new (.cells xs true)) c' → c' = c ∨ Lv ρ H c' := fun c' ⟨i, o, m, e1, e2⟩ => by
    rw [AH.new_eq] at e1
    simp only [Tr.get_put] at e1
    rw [hnew] at e2
    by_cases h : i = H.n
    · rw [if_pos h] at e2
      simp only [Option.some.injEq, Prod.mk.injEq] at e2
      exact .inl e2.1.symm
    · rw [if_neg h] at e2
      rw [if_neg (Ne.symm h)] at e1
      exact .inr ⟨i, o, m, e1, e2⟩
  have hdlt : d < a.tmps.size := by
    rw [g4] at hdk
    have : d < nt := of_decide_eq_true hdk
    rw [I.tsz]
    exact Nat.lt_of_lt_of_le this hn
  refine ⟨up ρ H.n (c, n), fun i => if i = k then none else D i, I.sz, by simp [I.szC], fun i => ?_, fun i c' hi => ?_, I.sh, fun i c' hi => ?_, fun i j c' hi hj => ?_, fun i oi d' hl hi hoi hdi => ?_, fun i => (I.km i).mono hext (Nat.le_refl _) fun _ hx => hx, I.pm, ?_, fun i x hx => ?_, I.tsz, I.df⟩
  · rw [getD_set]
    by_cases h : k = i
    · subst h
      have h1 := I.rel k
      rw [hk] at h1
      rw [h1]
      simp [I.szC, hkl]
    · simp only [h, false_and, if_false, Ne.symm h]
      exact I.rel i
  · by_cases h : i = k
    · simp [h] at hi
    · simp only [h, if_false] at hi
      rw [getD_set_ne true (Ne.symm h)]
      exact I.dis i c' hi
  · by_cases h : i = k
    · simp [h] at hi
    · simp only [h, if_false] at hi
      obtain ⟨oi, e', d', z', xs', f1, f2, f3, f3', f4, f5, f6, f7, f9, f10⟩ := I.dd i c' hi
      refine ⟨oi, e', d', z', xs', f1, f2, f3, f3', f4, f5, f6, f7, f9, fun hh => ?_⟩
      rcases hlv c' hh with rfl | hh
      · exact h (I.inj i k _ hi hk)
      · exact f10 hh
  · by_cases h : i = k
    · simp [h] at hi
    · by_cases h' : j = k
      · simp [h'] at hj
      · simp only [h, h', if_false] at hi hj
        exact I.inj i j c' hi hj
  · have hne : k ≠ i := fun e => by
      subst e
      rw [getD_set] at hi
      simp [I.szC, hkl] at hi
    rw [getD_set_ne true hne] at hi
    have hdst : o.dst ≠ some d' := by rw [← hdi]; exact own_spec (R.own i hl) hoi ho hne
    rw [putT_get, if_neg hdst]
    exact I.wip i oi d' hl hi hoi hdi
  · refine ⟨s.ext.trans hext, hrh, by rw [AH.new_eq]; exact s.p, s.frame, fun c' hw => ?_, fun c' hw => ?_, s.os, s.tape, s.output, s.size⟩
    · obtain ⟨i, o', m', e1, e2, e3⟩ := hw
      rw [AH.new_eq] at e1 e2
      simp only [Tr.get_put] at e1
      rw [hnew] at e3
      by_cases h : i = H.n
      · rw [if_pos h] at e3
        simp only [Option.some.injEq, Prod.mk.injEq] at e3
        rw [← e3.1]
        exact .inl g9
      · rw [if_neg h] at e3
        rw [if_neg (Ne.symm h)] at e1
        exact s.own c' ⟨i, o', m', e1, e2, e3⟩
    · rcases hlv c' hw with rfl | h
      · exact .inl g9
      · exact s.live c' h
  · rw [putT_get] at hx
    split at hx
    · rename_i hdi
      rw [g4] at hdi
      simp only [Option.some.injEq] at hdi hx
      subst hdi
      subst hx
      exact ⟨_, g6 hdlt, c, n, by rw [hnew, if_pos rfl], rfl⟩
    · obtain ⟨u, h1, h2⟩ := I.rt i x hx
      exact ⟨u, h1, h2.ext hext⟩
end
end Go.Ev
