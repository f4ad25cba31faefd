/- Regions whose order is drawn; code and calls. No conditions.
-/
import Derived.Test.YtepeiijjldpcpaaGreatSvL
import Derived.LoopN
set_option linter.all false
namespace Go.Sv
variable [gi : GoodC]

/-- How many have not come up. -/
def pend (l : Array Bool) : Nat := l.toList.count false

theorem pend_set {l : Array Bool} {i : Nat} (h : l.getD i true = false) : pend (l.setIfInBounds i true) + 1 = pend l := by
  have hlt : i < l.toList.length := by
    rcases Nat.lt_or_ge i l.size with h' | h'
    · simpa using h'
    · simp [Array.getElem?_eq_none h'] at h
  have hv : l.toList[i] = false := by
    have h2 : i < l.size := by simpa using hlt
    simp [h2] at h
    simpa using h
  unfold pend
  rw [Array.toList_setIfInBounds, List.count_set hlt, hv]
  have hpos : 0 < l.toList.count false := List.count_pos_iff.2 (hv ▸ List.getElem_mem hlt)
  have e1 : (if (false == false) = true then 1 else 0) = 1 := rfl
  have e2 : (if (true == false) = true then 1 else 0) = 0 := rfl
  rw [e1, e2]
  omega

theorem getD_ft {l : Array Bool} {i : Nat} (h : l.getD i false = true) : l.getD i true = true := by
  rcases Nat.lt_or_ge i l.size with h' | h'
  · simp [h'] at h ⊢; exact h
  · simp [Array.getElem?_eq_none h'] at h

theorem getD_tt {l : Array Bool} {i : Nat} (h : l.getD i true = true) (hi : i < l.size) : l.getD i false = true := by
  simp [hi] at h ⊢; exact h

theorem getD_lt {l : Array Bool} {i : Nat} (h : l.getD i true = false) : i < l.size := by
  rcases Nat.lt_or_ge i l.size with h' | h'
  · exact h'
  · simp [Array.getElem?_eq_none h'] at h

section
variable {P : Program} {callf : Nat → List AV → AH → Option (AT × AH)} {ops : Array Oper} {ks : List (Option AOp)} {A : List Nat}

theorem late_spec {i : Nat} (h : lateAt ops i = true) : ∃ o e d, ops[i]? = some o ∧ o.op = .alloc e ∧ o.guard = none ∧ o.dst = some d ∧ ∀ e ∈ o.after, Region.binds .any e = false := by
  unfold lateAt at h
  split at h
  · rename_i o ho
    split at h
    · rename_i e d h1 h2 h3
      refine ⟨o, e, d, ho, h1, h2, h3, fun x hx => ?_⟩
      have := Array.all_eq_true_iff_forall_mem.1 h x hx
      simpa using this
    · cases h
  · cases h

theorem own_spec {i j : Nat} {oi oj : Oper} (h : ownDst ops i = true) (hi : ops[i]? = some oi) (hj : ops[j]? = some oj) (hne : j ≠ i) : oj.dst ≠ oi.dst := by
  unfold ownDst at h
  rw [hi] at h
  simp only [List.all_eq_true, List.mem_range] at h
  have := h j (Array.getElem?_eq_some_iff.1 hj).1
  simp only [hj, Bool.or_eq_true, beq_iff_eq, hne, false_or, Bool.not_eq_true'] at this
  intro e
  rw [e] at this
  simp at this

/-- What a drawn region was looked through for. -/
structure Reg (P : Program) (ops : Array Oper) (A : List Nat) (ks : List (Option AOp)) : Prop where
  kinds : ks = (List.range ops.size).map (kindOf P ops)
  anc : ancOk ops A = true
  sel : Region.noSelect ops = true
  own : ∀ i, lateAt ops i = true → ownDst ops i = true
  all : ∀ (i : Nat) (o : Oper), ops[i]? = some o → (cOp P o.op).isSome = true

theorem Reg.kind (R : Reg P ops A ks) {i : Nat} {o : Oper} {ao : AOp} (hi : ops[i]? = some o) (hc : cOp P o.op = some ao) : ks.getD i none = some ao := by
  have hlt : i < ops.size := (Array.getElem?_eq_some_iff.1 hi).1
  have h1 : ((List.range ops.size).map (kindOf P ops))[i]? = some (kindOf P ops i) := by simp [hlt]
  rw [R.kinds, List.getD_eq_getElem?_getD, h1]
  simp only [Option.getD_some, kindOf, hi, Option.bind_some]
  exact hc

theorem Reg.read_lt (R : Reg P ops A ks) {i : Nat} (h : readAt ks i = true) : i < ops.size := by
  rcases Nat.lt_or_ge i ops.size with h' | h'
  · exact h'
  · exfalso
    have : ks.getD i none = none := by
      rw [R.kinds, List.getD_eq_getElem?_getD, List.getElem?_eq_none (by simpa using h')]
      rfl
    unfold readAt at h
    rw [this] at h
    cases h

theorem Reg.inc (R : Reg P ops A ks) {i j : Nat} (h : incN A ks j i = true) : memN (incOf A ks ops.size j) i = true := by
  rw [memN_iff]
  unfold incOf
  refine List.mem_filter.2 ⟨List.mem_range.2 (R.read_lt ?_), h⟩
  unfold incN at h
  simp only [Bool.and_eq_true] at h
  exact h.1.1.1

/-- A late one that came up ahead of its turn: its variable stands at c. -/
def DD (P : Program) (ops : Array Oper) (w0 : World) (ρ : Rho) (H : AH) (a : Act) (w : World) (i c : Nat) : Prop :=
  ∃ o e d z xs, ops[i]? = some o ∧ lateAt ops i = true ∧ o.op = .alloc e ∧ o.guard = none ∧ o.dst = some d ∧ cZero P e = some (z, xs) ∧ (d < a.tmps.size → a.tmps[d]? = some (.pointer (some ⟨c, 0, none⟩))) ∧
    (∃ obj n, w.heap[c]? = some obj ∧ ∀ ρ, RO ρ n (.cells xs true) obj) ∧ w0.heap.size ≤ c ∧ ¬ Lv ρ H c

/-- What is held between two operations of a drawn region. -/
structure Inv (P : Program) (ops : Array Oper) (A : List Nat) (ks : List (Option AOp)) (ρ0 : Rho) (H0 : AH) (w0 : World) (a0 : Act)
    (listed listedC : Array Bool) (m : Nat → World → Prop) (a : Act) (w : World) (ρ : Rho) (T : Tr AT) (H : AH) (ls : List LR) (D : Nat → Option Nat) : Prop where
  sz : listed.size = ops.size
  szC : listedC.size = ops.size
  rel : ∀ i, listed.getD i true = (listedC.getD i true || (D i).isSome)
  dis : ∀ i c, D i = some c → listedC.getD i true = false
  sh : Shut A listed
  dd : ∀ i c, D i = some c → DD P ops w0 ρ H a w i c
  inj : ∀ i j c, D i = some c → D j = some c → i = j
  wip : ∀ (i : Nat) (o : Oper) (d : Nat), lateAt ops i = true → listedC.getD i true = false → ops[i]? = some o → o.dst = some d → T.get d = none
  km : ∀ i, KM ks ρ w ls (m i) i
  pm : ∀ i, listed.getD i true = false → ∀ w, m i w
  st : St ρ0 H0 w0 ρ H w
  rt : RT ρ T a.tmps
  tsz : a.tmps.size = a0.tmps.size
  df : a.defers = a0.defers
  l0 : ρ0.X.lim ≤ w0.heap.size

section
variable {ρ0 : Rho} {H0 : AH} {w0 : World} {a0 : Act} {listed listedC : Array Bool} {m : Nat → World → Prop} {a : Act} {w : World} {ρ : Rho} {T : Tr AT} {H : AH} {ls : List LR} {D : Nat → Option Nat}

theorem Inv.up_of_C (I : Inv P ops A ks ρ0 H0 w0 a0 listed listedC m a w ρ T H ls D) {i : Nat} (h : listedC.getD i false = true) : listed.getD i false = true := by
  have h1 := getD_ft h
  have hlt : i < listedC.size := by
    rcases Nat.lt_or_ge i listedC.size with h' | h'
    · exact h'
    · simp [Array.getElem?_eq_none h'] at h
  refine getD_tt ?_ (by rw [I.sz, ← I.szC]; exact hlt)
  rw [I.rel, h1, Bool.true_or]

theorem Inv.C_of_not (I : Inv P ops A ks ρ0 H0 w0 a0 listed listedC m a w ρ T H ls D) {i : Nat} (h : listed.getD i true = false) : listedC.getD i true = false ∧ D i = none := by
  have := I.rel i
  rw [h] at this
  have h2 := Bool.or_eq_false_iff.1 this.symm
  exact ⟨h2.1, by simpa using h2.2⟩

theorem Inv.ready (I : Inv P ops A ks ρ0 H0 w0 a0 listed listedC m a w ρ T H ls D) {i : Nat} (h : i ∈ Region.ready .any ops listedC) (hD : D i = none) : i ∈ Region.ready .any ops listed := by
  obtain ⟨h0, o, ho, hall⟩ := mem_ready.1 h
  exact mem_ready.2 ⟨by rw [I.rel, h0, hD]; rfl, o, ho, fun e he hb => I.up_of_C (hall e he hb)⟩

theorem Inv.late (I : Inv P ops A ks ρ0 H0 w0 a0 listed listedC m a w ρ T H ls D) {i c : Nat} (h : D i = some c) : lateAt ops i = true := by
  obtain ⟨_, _, _, _, _, _, h1, _⟩ := I.dd i c h
  exact h1

/-- A late one that has not come up may come up. -/
theorem late_ready {l : Array Bool} {i : Nat} (h : lateAt ops i = true) (hl : l.getD i true = false) : i ∈ Region.ready .any ops l := by
  obtain ⟨o, e, d, h1, _, _, _, h5⟩ := late_spec h
  exact mem_ready.2 ⟨hl, o, h1, fun e he hb => by rw [h5 e he] at hb; cases hb⟩

theorem Inv.none_ready (I : Inv P ops A ks ρ0 H0 w0 a0 listed listedC m a w ρ T H ls D) (h : Region.ready .any ops listedC = []) : Region.ready .any ops listed = [] := by
  have hD : ∀ i, D i = none := fun i => by
    cases hd : D i with
    | none => rfl
    | some c =>
      have := late_ready (I.late hd) (I.dis i c hd)
      rw [h] at this
      cases this
  cases hr : Region.ready .any ops listed with
  | nil => rfl
  | cons i l =>
    exfalso
    have hi : i ∈ Region.ready .any ops listed := by rw [hr]; exact List.mem_cons_self
    obtain ⟨h0, o, ho, hall⟩ := mem_ready.1 hi
    have : i ∈ Region.ready .any ops listedC := by
      refine mem_ready.2 ⟨(I.C_of_not h0).1, o, ho, fun e he hb => ?_⟩
      have h1 := hall e he hb
      have h2 := getD_ft h1
      rw [I.rel, hD] at h2
      simp only [Option.isSome_none, Bool.or_false] at h2
      refine getD_tt h2 ?_
      rw [I.szC, ← I.sz]
      rcases Nat.lt_or_ge e.on listed.size with h' | h'
      · exact h'
      · simp [Array.getElem?_eq_none h'] at h1
    rw [h] at this
    cases this

theorem listAll_size : ∀ (is : List Nat) (l : Array Bool), (listAll l is).size = l.size
  | [], _ => rfl
  | i :: is, l => by rw [listAll, listAll_size is]; simp

theorem listAll_get : ∀ (is : List Nat) (l : Array Bool) (i : Nat), (listAll l is).getD i true = (l.getD i true || decide (i ∈ is))
  | [], l, i => by simp [listAll]
  | j :: is, l, i => by
    rw [listAll, listAll_get is]
    rw [getD_set]
    by_cases h : j = i
    · subst h
      by_cases hlt : j < l.size
      · simp [hlt]
      · simp [hlt]
    · simp only [h, false_and, if_false]
      congr 1
      simp [Ne.symm h]

/-- Who may come up, where all late ones but k are thought to have come up: j, or a late one. -/
theorem Inv.alone (I : Inv P ops A ks ρ0 H0 w0 a0 listed listedC m a w ρ T H ls D) {k j : Nat} (ha : aloneA ops listedC k j = true) (hk : D k = none) {i : Nat} (hi : i ∈ Region.ready .any ops listed) : i = j ∨ lateAt ops i = true := by
  cases hl : lateAt ops i
  · left
    obtain ⟨h0, o, ho, hall⟩ := mem_ready.1 hi
    unfold aloneA at ha
    rw [List.all_eq_true] at ha
    have hmem : i ∈ Region.ready .any ops (listAll listedC (lates ops listedC k)) := by
      refine mem_ready.2 ⟨?_, o, ho, fun e he hb => ?_⟩
      · rw [listAll_get, (I.C_of_not h0).1]
        simp [lates, hl]
      · have h1 := hall e he hb
        have hlt : e.on < listed.size := by
          rcases Nat.lt_or_ge e.on listed.size with h' | h'
          · exact h'
          · simp [Array.getElem?_eq_none h'] at h1
        refine getD_tt ?_ (by rw [listAll_size, I.szC, ← I.sz]; exact hlt)
        have h2 := getD_ft h1
        rw [I.rel] at h2
        rw [listAll_get]
        cases hc : listedC.getD e.on true
        · rw [hc] at h2
          simp only [Bool.false_or] at h2 ⊢
          obtain ⟨c, hc'⟩ := Option.isSome_iff_exists.1 h2
          refine decide_eq_true (List.mem_filter.2 ⟨List.mem_range.2 (I.sz ▸ hlt), ?_⟩)
          have hne : e.on ≠ k := fun e' => by rw [e', hk] at hc'; cases hc'
          simp only [I.late hc', I.dis _ _ hc', Bool.not_false, Bool.and_self, Bool.true_and, Bool.not_eq_true', beq_eq_false_iff_ne]
          exact hne
        · rfl
    have := ha i hmem
    simpa [hl] using this
  · exact .inr rfl
end
end
end Go.Sv

namespace Go.Sv
variable [gi : GoodC]

section
variable {P : Program} {callf : Nat → List AV → AH → Option (AT × AH)} {ops : Array Oper} {ks : List (Option AOp)} {A : List Nat}
variable {ρ0 : Rho} {H0 : AH} {w0 : World} {a0 : Act} {listed listedC : Array Bool} {m : Nat → World → Prop} {a : Act} {w : World} {ρ : Rho} {T : Tr AT} {H : AH} {ls : List LR} {D : Nat → Option Nat}

theorem DD.lt {i c : Nat} (h : DD P ops w0 ρ H a w i c) : c < w.heap.size := by
  obtain ⟨_, _, _, _, _, _, _, _, _, _, _, _, ⟨obj, n, h1, _⟩, _⟩ := h
  exact (Array.getElem?_eq_some_iff.1 h1).1

theorem putT_get (T : Tr AT) (dst : Option Nat) (r : AT) (d : Nat) : (putT T dst r).get d = if dst = some d then some r else T.get d := by
  cases dst with
  | none => simp [putT]
  | some e =>
    simp only [putT, Tr.get_put, Option.some.injEq]

theorem put_get (a : Act) (dst : Option Tmp) (v : Value) (d : Nat) (h : dst ≠ some d) : (a.put dst v).tmps[d]? = a.tmps[d]? := by
  cases dst with
  | none => rfl
  | some e =>
    have hne : e ≠ d := fun he => h (he ▸ rfl)
    simp [Act.put, Array.getElem?_setIfInBounds_ne hne]

/-- One operation that comes up now, here and there. -/
theorem Inv.both (R : Reg P ops A ks) (I : Inv P ops A ks ρ0 H0 w0 a0 listed listedC m a w ρ T H ls D) {j : Nat} (hj : j ∈ Region.ready .any ops listed) {o : Oper} (ho : ops[j]? = some o) {nt : Nat} (hd : dstOk nt o.dst = true) (hn : nt ≤ a0.tmps.size)
    {w' : World} {ρ' : Rho} {H' : AH} {ls' : List LR} {S : World → Prop} {r : AT} {v : Value} (hst : St ρ H w ρ' H' w') (hr : R1 ρ' r v) (hls : ∀ x ∈ ls, x ∈ ls') (hS : KM ks ρ' w' ls' S j) :
    Inv P ops A ks ρ0 H0 w0 a0 (listed.setIfInBounds j true) (listedC.setIfInBounds j true) (upm m j S) (a.put o.dst v) w' ρ' (putT T o.dst r) H' ls' D := by
  have hjl : j < ops.size := (Array.getElem?_eq_some_iff.1 ho).1
  have hju := (mem_ready.1 hj).1
  obtain ⟨hjC, hjD⟩ := I.C_of_not hju
  refine ⟨by simp [I.sz], by simp [I.szC], fun i => ?_, fun i c hi => ?_, I.sh.set R.anc hj, fun i c hi => ?_, I.inj, fun i oi d hl hi hoi hdi => ?_, fun i => ?_, fun i hi => ?_, I.st.trans hst, (I.rt.ext hst.ext).put hr hd (by rw [I.tsz]; exact hn), by rw [(put_size a _ _).1]; exact I.tsz, by rw [(put_size a _ _).2]; exact I.df, I.l0⟩
  · rw [getD_set, getD_set]
    by_cases h : j = i
    · subst h
      simp [I.sz, I.szC, hjl]
    · simp only [h, false_and, if_false]
      exact I.rel i
  · have hne : j ≠ i := fun e => by subst e; rw [hjD] at hi; cases hi
    rw [getD_set_ne true hne]
    exact I.dis i c hi
  · have hne : j ≠ i := fun e => by subst e; rw [hjD] at hi; cases hi
    have hdd := I.dd i c hi
    have hlt := hdd.lt
    obtain ⟨oi, e, d, z, xs, g1, g2, g3, g3', g4, g5, g6, ⟨obj, n, g7, g8⟩, g9, g10⟩ := hdd
    have hdst : o.dst ≠ some d := by rw [← g4]; exact own_spec (R.own i g2) g1 ho hne
    refine ⟨oi, e, d, z, xs, g1, g2, g3, g3', g4, g5, fun h => ?_, ⟨obj, n, ?_, g8⟩, g9, fun hlv => ?_⟩
    · rw [put_get a _ _ d hdst]
      rw [(put_size a _ _).1] at h
      exact g6 h
    · rw [hst.frame c hlt (fun ⟨i', o', m', e1, _, e3⟩ => g10 ⟨i', o', m', e1, e3⟩)]
      exact g7
    · rcases hst.live c hlv with h | h
      · omega
      · exact g10 h
  · have hne : j ≠ i := fun e => by
      subst e
      rw [getD_set] at hi
      simp [I.szC, hjl] at hi
    rw [getD_set_ne true hne] at hi
    have hdst : o.dst ≠ some d := by rw [← hdi]; exact own_spec (R.own i hl) hoi ho hne
    rw [putT_get, if_neg hdst]
    exact I.wip i oi d hl hi hoi hdi
  · by_cases h : i = j
    · subst h; rw [upm_same]; exact hS
    · rw [upm_ne h]; exact (I.km i).mono hst.ext hst.size hls
  · have hne : j ≠ i := fun e => by
      subst e
      rw [getD_set] at hi
      simp [I.sz, hjl] at hi
    rw [getD_set_ne true hne] at hi
    rw [upm_ne (Ne.symm hne)]
    exact I.pm i hi

/-- A late one comes up ahead of its turn. -/
theorem Inv.early (R : Reg P ops A ks) (I : Inv P ops A ks ρ0 H0 w0 a0 listed listedC m a w ρ T H ls D) {k : Nat} (hk : k ∈ Region.ready .any ops listed) {o : Oper} (ho : ops[k]? = some o) (hl : lateAt ops k = true) {e : TypeId} {d z : Nat} {xs : List AC} (he : o.op = .alloc e) (hg : o.guard = none) (hd : o.dst = some d) (hz : cZero P e = some (z, xs)) {vs : List Value} (hvs : ∀ ρ, RCs ρ xs vs) :
    Inv P ops A ks ρ0 H0 w0 a0 (listed.setIfInBounds k true) listedC (upm m k fun _ => True) (a.put o.dst (.pointer (some ⟨w.heap.size, 0, none⟩))) (w.alloc (.cells vs.toArray e)) ρ T H ls (fun i => if i = k then some w.heap.size else D i) := by
  have hkl : k < ops.size := (Array.getElem?_eq_some_iff.1 ho).1
  have hku := (mem_ready.1 hk).1
  obtain ⟨hkC, hkD⟩ := I.C_of_not hku
  have hTd : T.get d = none := I.wip k o d hl hkC ho hd
  have hheap : ∀ c, c < w.heap.size → (w.alloc (.cells vs.toArray e)).heap[c]? = w.heap[c]? := fun c hc => by
    simp only [World.alloc, Array.getElem?_push]
    rw [if_neg (by omega)]
  refine ⟨by simp [I.sz], I.szC, fun i => ?_, fun i c hi => ?_, I.sh.set R.anc hk, fun i c hi => ?_, fun i j c hi hj => ?_, I.wip, fun i => ?_, fun i hi => ?_, ?_, fun i x hx => ?_, by rw [(put_size a _ _).1]; exact I.tsz, by rw [(put_size a _ _).2]; exact I.df, I.l0⟩
  · rw [getD_set]
    by_cases h : k = i
    · subst h
      simp [I.sz, hkl]
    · simp only [h, false_and, if_false, Ne.symm h]
      exact I.rel i
  · by_cases h : i = k
    · subst h; exact hkC
    · simp only [h, if_false] at hi
      exact I.dis i c hi
  · by_cases h : i = k
    · subst h
      simp only [if_true, Option.some.injEq] at hi
      subst hi
      refine ⟨o, e, d, z, xs, ho, hl, he, hg, hd, hz, fun h => ?_, ⟨.cells vs.toArray e, vs.length, by show (w.heap.push _)[w.heap.size]? = _; simp, fun ρ => ⟨vs.toArray, e, vs, [], rfl, by simp, by simp, hvs ρ, fun _ => rfl⟩⟩, I.st.size, fun ⟨i', o', m', e1, e2⟩ => absurd (I.st.rh.lt e1 e2) (Nat.lt_irrefl _)⟩
      rw [(put_size a _ _).1] at h
      simp [hd, Act.put, h]
    · simp only [h, if_false] at hi
      have hdd := I.dd i c hi
      have hlt := hdd.lt
      obtain ⟨oi, e', d', z', xs', g1, g2, g3, g3', g4, g5, g6, ⟨obj, n, g7, g8⟩, g9, g10⟩ := hdd
      have hdst : o.dst ≠ some d' := by rw [← g4]; exact own_spec (R.own i g2) g1 ho (Ne.symm h)
      refine ⟨oi, e', d', z', xs', g1, g2, g3, g3', g4, g5, fun h => ?_, ⟨obj, n, (hheap c hlt).trans g7, g8⟩, g9, g10⟩
      rw [put_get a _ _ d' hdst]
      rw [(put_size a _ _).1] at h
      exact g6 h
  · by_cases h : i = k
    · by_cases h' : j = k
      · exact h.trans h'.symm
      · simp only [h, h', if_true, if_false, Option.some.injEq] at hi hj
        have := (I.dd j c hj).lt
        omega
    · by_cases h' : j = k
      · simp only [h, h', if_true, if_false, Option.some.injEq] at hi hj
        have := (I.dd i c hi).lt
        omega
      · simp only [h, h', if_false] at hi hj
        exact I.inj i j c hi hj
  · by_cases h : i = k
    · subst h; rw [upm_same]; exact .inl fun _ => trivial
    · rw [upm_ne h]; exact (I.km i).mono (Ext.refl ρ) (by simp) fun _ hx => hx
  · by_cases h : i = k
    · subst h; rw [upm_same]; exact fun _ => trivial
    · rw [getD_set_ne true (Ne.symm h)] at hi
      rw [upm_ne h]
      exact I.pm i hi
  · have s := I.st
    refine ⟨s.ext, s.rh.alloc _, s.p, fun c hc hw => (hheap c (Nat.lt_of_lt_of_le hc s.size)).trans (s.frame c hc hw), s.own, s.live, s.os, s.tape, s.output, Nat.le_trans s.size (by simp)⟩
  · obtain ⟨u, h1, h2⟩ := I.rt i x hx
    refine ⟨u, ?_, h2⟩
    rw [put_get a _ _ i ?_]
    · exact h1
    · rw [hd]
      intro e'
      simp only [Option.some.injEq] at e'
      subst e'
      rw [hTd] at hx
      cases hx

/-- The turn of a late one that came up before. -/
theorem Inv.turn (R : Reg P ops A ks) (I : Inv P ops A ks ρ0 H0 w0 a0 listed listedC m a w ρ T H ls D) {k c : Nat} (hk : D k = some c) {o : Oper} (ho : ops[k]? = some o) {nt : Nat} (hdk : dstOk nt o.dst = true) (hn : nt ≤ a0.tmps.size) {ao : AOp} (hc : cOp P o.op = some ao) {r : AT} {H' : AH} (hev : evOp callf T ao H = some (r, H')) :
    ∃ ρ' D', Inv P ops A ks ρ0 H0 w0 a0 listed (listedC.setIfInBounds k true) m a w ρ' (putT T o.dst r) H' ls D' := by
  have hkl : k < ops.size := (Array.getElem?_eq_some_iff.1 ho).1
  obtain ⟨o', e, d, z, xs, g1, g2, g3, g3', g4, g5, g6, ⟨obj, n, g7, g8⟩, g9, g10⟩ := I.dd k c hk
  rw [ho] at g1
  simp only [Option.some.injEq] at g1
  subst g1
  rw [g3] at hc
  simp only [cOp, g5, Option.some.injEq] at hc
  subst hc
  simp only [evOp, Option.some.injEq, Prod.mk.injEq] at hev
  obtain ⟨rfl, rfl⟩ := hev
  have s := I.st
  have hfree : ∀ i o m, H.t.get i = some o → ρ i ≠ some (c, m) := fun i o m h1 h2 => g10 ⟨i, o, m, h1, h2⟩
  have hrh := s.rh.bind g7 (Nat.le_trans (by rw [s.ext.X]; exact I.l0) g9) (g8 ρ) hfree
  have hnn : ρ H.n = none := s.rh.fresh _ (Nat.le_refl _)
  have hext : Ext ρ (up ρ H.n (c, n)) := up_ext hnn
  have hnew : ∀ i, up ρ H.n (c, n) i = if i = H.n then some (c, n) else ρ i := fun i => rfl
  have hlv : ∀ c', Lv (up ρ H.n (c, n)) (H.new (.cells xs true)) c' → c' = c ∨ Lv ρ H c' := fun c' ⟨i, o, m, e1, e2⟩ => by
    rw [AH.new_eq] at e1
    simp only [Tr.get_put] at e1
    rw [hnew] at e2
    by_cases h : i = H.n
    · rw [if_pos h] at e2
      simp only [Option.some.injEq, Prod.mk.injEq] at e2
      exact .inl e2.1.symm
    · rw [if_neg h] at e2
      rw [if_neg (Ne.symm h)] at e1
      exact .inr ⟨i, o, m, e1, e2⟩
  have hdlt : d < a.tmps.size := by
    rw [g4] at hdk
    have : d < nt := of_decide_eq_true hdk
    rw [I.tsz]
    exact Nat.lt_of_lt_of_le this hn
  refine ⟨up ρ H.n (c, n), fun i => if i = k then none else D i, I.sz, by simp [I.szC], fun i => ?_, fun i c' hi => ?_, I.sh, fun i c' hi => ?_, fun i j c' hi hj => ?_, fun i oi d' hl hi hoi hdi => ?_, fun i => (I.km i).mono hext (Nat.le_refl _) fun _ hx => hx, I.pm, ?_, fun i x hx => ?_, I.tsz, I.df, I.l0⟩
  · rw [getD_set]
    by_cases h : k = i
    · subst h
      have h1 := I.rel k
      rw [hk] at h1
      rw [h1]
      simp [I.szC, hkl]
    · simp only [h, false_and, if_false, Ne.symm h]
      exact I.rel i
  · by_cases h : i = k
    · simp [h] at hi
    · simp only [h, if_false] at hi
      rw [getD_set_ne true (Ne.symm h)]
      exact I.dis i c' hi
  · by_cases h : i = k
    · simp [h] at hi
    · simp only [h, if_false] at hi
      obtain ⟨oi, e', d', z', xs', f1, f2, f3, f3', f4, f5, f6, f7, f9, f10⟩ := I.dd i c' hi
      refine ⟨oi, e', d', z', xs', f1, f2, f3, f3', f4, f5, f6, f7, f9, fun hh => ?_⟩
      rcases hlv c' hh with rfl | hh
      · exact h (I.inj i k _ hi hk)
      · exact f10 hh
  · by_cases h : i = k
    · simp [h] at hi
    · by_cases h' : j = k
      · simp [h'] at hj
      · simp only [h, h', if_false] at hi hj
        exact I.inj i j c' hi hj
  · have hne : k ≠ i := fun e => by
      subst e
      rw [getD_set] at hi
      simp [I.szC, hkl] at hi
    rw [getD_set_ne true hne] at hi
    have hdst : o.dst ≠ some d' := by rw [← hdi]; exact own_spec (R.own i hl) hoi ho hne
    rw [putT_get, if_neg hdst]
    exact I.wip i oi d' hl hi hoi hdi
  · refine ⟨s.ext.trans hext, hrh, by rw [AH.new_eq]; exact s.p, s.frame, fun c' hw => ?_, fun c' hw => ?_, s.os, s.tape, s.output, s.size⟩
    · obtain ⟨i, o', m', e1, e2, e3⟩ := hw
      rw [AH.new_eq] at e1 e2
      simp only [Tr.get_put] at e1
      rw [hnew] at e3
      by_cases h : i = H.n
      · rw [if_pos h] at e3
        simp only [Option.some.injEq, Prod.mk.injEq] at e3
        rw [← e3.1]
        exact .inl g9
      · rw [if_neg h] at e3
        rw [if_neg (Ne.symm h)] at e1
        exact s.own c' ⟨i, o', m', e1, e2, e3⟩
    · rcases hlv c' hw with rfl | h
      · exact .inl g9
      · exact s.live c' h
  · rw [putT_get] at hx
    split at hx
    · rename_i hdi
      rw [g4] at hdi
      simp only [Option.some.injEq] at hdi hx
      subst hdi
      subst hx
      exact ⟨_, g6 hdlt, c, n, by rw [hnew, if_pos rfl], rfl⟩
    · obtain ⟨u, h1, h2⟩ := I.rt i x hx
      exact ⟨u, h1, h2.ext hext⟩
end
end Go.Sv

namespace Go.Sv
variable [gi : GoodC]

section
variable {P : Program} {callf : Nat → List AV → AH → Option (AT × AH)} {ops : Array Oper} {ks : List (Option AOp)} {A : List Nat} {Q : Exit → Act → World → Prop}
variable {ρ0 : Rho} {H0 : AH} {w0 : World} {a0 : Act}

theorem wpAnyM_done {inc : Nat → Nat → Bool} {listed : Array Bool} {m : Nat → World → Prop} {a : Act} {w : World} (hr : Region.ready .any ops listed = []) (h : Q .normal a w) : ∀ fuel, wpAnyM P ops Q inc fuel listed m a w
  | 0 => ⟨hr, h⟩
  | _ + 1 => ⟨fun _ => h, by rw [hr]; simp⟩

theorem free_spec {listed : Array Bool} {i : Nat} {oi : Oper} (hi : ops[i]? = some oi) (h : freeA ops A listed i = true) {j : Nat} {oj : Oper} (hj : ops[j]? = some oj) (hne : j ≠ i) (hun : listed.getD j true = false) (ha : isAnc A j i = false) : oi.apart ops oj = true := by
  unfold freeA at h
  rw [hi] at h
  simp only [List.all_eq_true, List.mem_range] at h
  have := h j (Array.getElem?_eq_some_iff.1 hj).1
  simpa [hj, hne, hun, ha] using this

theorem run_alloc {o : Oper} {e : TypeId} {z : Nat} {xs : List AC} (he : o.op = .alloc e) (hz : cZero P e = some (z, xs)) : ∃ vs : List Value, (∀ ρ, RCs ρ xs vs) ∧
    ∀ (a : Act) (w : World), (execOp a.eval o).run P w = .ok (.value (.pointer (some ⟨w.heap.size, 0, none⟩))) (w.alloc (.cells vs.toArray e)) := by
  obtain ⟨i, zv, h1, h2, h3, h4, h5⟩ := cZero_spec hz
  obtain ⟨dst, op, ty, pos, after, guard⟩ := o
  simp only [] at he
  subst he
  refine ⟨zv.cells.toList, h5, fun a w => ?_⟩
  have hr : (Instr.alloc e true (.tuple #[])).run P w = .ok (.pointer (some ⟨w.heap.size, 0, none⟩)) (w.alloc (.cells zv.cells.toList.toArray e)) := by
    simp only [Instr.alloc, Sem.run_bind, run_zero h1 h3, Result.andThen_ok, newVar, run_newRow, Sem.run_pure, Array.toArray_toList]
  have hexec : execOp a.eval ⟨dst, .alloc e, ty, pos, after, guard⟩ = (do pure (.value (← Instr.alloc e true (.tuple #[])))) := rfl
  rw [hexec]
  simp only [Sem.run_bind, hr, Result.andThen_ok, Sem.run_pure]

/-- A late one ahead of its turn. -/
theorem early_wp (R : Reg P ops A ks) {listed listedC : Array Bool} {m : Nat → World → Prop} {a : Act} {w : World} {ρ : Rho} {T : Tr AT} {H : AH} {ls : List LR} {D : Nat → Option Nat} (I : Inv P ops A ks ρ0 H0 w0 a0 listed listedC m a w ρ T H ls D) {k : Nat} (hk : k ∈ Region.ready .any ops listed) (hl : lateAt ops k = true) {fuel : Nat}
    (hnext : ∀ a' w' m' D', Inv P ops A ks ρ0 H0 w0 a0 (listed.setIfInBounds k true) listedC m' a' w' ρ T H ls D' → wpAnyM P ops Q (incN A ks) fuel (listed.setIfInBounds k true) m' a' w') :
    wpOp P ops Q k (fun a' w' => (∀ i, incN A ks k i = true → m i w → m i w') ∧ ∃ S, wpAnyM P ops Q (incN A ks) fuel (listed.setIfInBounds k true) (upm m k S) a' w') a w := by
  obtain ⟨o, e, d, g1, g2, g3, g4, _⟩ := late_spec hl
  have hall := R.all k o g1
  rw [g2] at hall
  simp only [cOp] at hall
  cases hz : cZero P e with
  | none => simp [hz] at hall
  | some p =>
    obtain ⟨z, xs⟩ := p
    obtain ⟨vs, hvs, hrun⟩ := run_alloc g2 hz
    have hw : Region.wanted o (yielded ops a.tmps) = true := by simp [Region.wanted, g3]
    unfold wpOp
    simp only [g1, hw, if_true]
    refine .inl ?_
    unfold Oper.wp
    rw [hrun, Oper.upon_value]
    refine ⟨fun i _ hm => ?_, fun _ => True, hnext _ _ _ _ (I.early R hk g1 hl g2 g3 g4 hz hvs)⟩
    rcases I.km i with h | ⟨_, x, _, _, c, n, _, hlt, hdep, _⟩
    · exact h _
    · refine hdep w _ ?_ hm
      simp only [World.alloc, Array.getElem?_push]
      rw [if_neg (by omega)]

theorem sim (hcall : CallsOK P callf) (R : Reg P ops A ks) {nt : Nat} (hn : nt ≤ a0.tmps.size) (hQ : ∀ c a w, ¬ Q (.panic c) a w) {T' : Tr AT} {H' : AH} (hp : Post Q .normal ρ0 H0 w0 a0 T' H') :
    ∀ (N fuel fuelC : Nat) (listed listedC : Array Bool) (xs : List AI) (m : Nat → World → Prop) (a : Act) (w : World) (ρ : Rho) (T : Tr AT) (H : AH) (ls : List LR) (D : Nat → Option Nat),
      pend listed + pend listedC < N → pend listed ≤ fuel → cDraw P nt ops A ks fuelC listedC = some xs → Inv P ops A ks ρ0 H0 w0 a0 listed listedC m a w ρ T H ls D → evIs callf xs ls T H = some (T', H') →
      wpAnyM P ops Q (incN A ks) fuel listed m a w := by
  intro N
  induction N with
  | zero => intro fuel fuelC listed listedC xs m a w ρ T H ls D h; omega
  | succ N ih =>
    intro fuel fuelC listed listedC xs m a w ρ T H ls D hN hfuel hx I he
    cases hrs : Region.ready .any ops listedC with
    | nil =>
      have hxs : xs = [] := by
        unfold cDraw at hx
        rw [hrs] at hx
        simpa using hx
      subst hxs
      simp only [evIs, Option.some.injEq, Prod.mk.injEq] at he
      obtain ⟨rfl, rfl⟩ := he
      exact wpAnyM_done (I.none_ready hrs) (hp a w ρ I.st I.rt I.tsz I.df) fuel
    | cons r0 rs =>
    cases fuelC with
    | zero =>
      unfold cDraw at hx
      rw [hrs] at hx
      simp at hx
    | succ fuelC =>
    have hfu : ∀ {i : Nat}, i ∈ Region.ready .any ops listed → ∃ f, fuel = f + 1 ∧ pend (listed.setIfInBounds i true) ≤ f ∧ pend (listed.setIfInBounds i true) + 1 = pend listed := fun {i} hi => by
      have := pend_set (mem_ready.1 hi).1
      cases fuel with
      | zero => omega
      | succ f => exact ⟨f, rfl, by omega, this⟩
    have hpC : ∀ {i : Nat}, i ∈ Region.ready .any ops listedC → pend (listedC.setIfInBounds i true) + 1 = pend listedC := fun hi => pend_set (mem_ready.1 hi).1
    have hx0 := hx
    unfold cDraw at hx
    rw [hrs] at hx
    simp only [] at hx
    split at hx
    · -- a quiet one
      rename_i i hfind
      have hiC : i ∈ Region.ready .any ops listedC := by rw [hrs]; exact List.mem_of_find?_eq_some hfind
      have hqi := List.find?_some hfind
      split at hx
      · rename_i hfree
        split at hx
        · rename_i x xs' hxi hxs
          simp only [Option.some.injEq] at hx
          subst hx
          obtain ⟨o, h1, h2, h3, h4, h5, h6, h7, h8⟩ := cI_spec hxi
          have hkind := R.kind h1 h2
          have hq : quiet x.op = true := by
            unfold quietAt at hqi
            rw [hkind] at hqi
            exact hqi
          have hnl : lateAt ops i = false := by
            cases hl : lateAt ops i
            · rfl
            · obtain ⟨o', e, d, g1, g2, _⟩ := late_spec hl
              rw [h1] at g1
              simp only [Option.some.injEq] at g1
              subst g1
              rw [g2] at h2
              simp only [cOp] at h2
              split at h2
              · simp only [Option.some.injEq] at h2
                rw [← h2] at hq
                simp [quiet] at hq
              · cases h2
          have hD : D i = none := by
            cases hd : D i with
            | none => rfl
            | some c => rw [I.late hd] at hnl; cases hnl
          have hi := I.ready hiC hD
          obtain ⟨f, rfl, hf1, hf2⟩ := hfu hi
          have hpc := hpC hiC
          have hfr : ∀ j oj, ops[j]? = some oj → j ≠ i → listed.getD j true = false → isAnc A j i = false → o.apart ops oj = true := fun j oj hj hne hun ha => free_spec h1 hfree hj hne (I.C_of_not hun).1 ha
          simp only [evIs] at he
          split at he
          · cases he
          · rename_i hw
            have hw' := wanted_rel (a := a) I.rt h3 hw
            rw [h6] at he
            refine wpAnyM_first (S := fun _ => True) R.anc R.sel h1 (.inl fun _ => trivial) hQ f listed m a w hfr I.sh hi (I.pm i (mem_ready.1 hi).1) (.inr ⟨hw', rfl⟩) trivial ?_
            exact ih f fuelC _ _ xs' _ _ w ρ _ H ls D (by omega) hf1 hxs (I.both R hi h1 h4 hn (St.refl I.st.rh) (undef_rel ρ) (fun _ h => h) (.inl fun _ => trivial)) he
          · rename_i hw
            have hw' := wanted_rel (a := a) I.rt h3 hw
            split at he
            · cases he
            rename_i v H₁ hi'
            rw [fzT_eq, h7, cond_true, h6] at he
            unfold evI at hi'
            rw [h7, cond_true] at hi'
            split at hi'
            · rename_i v' H₂ hev
              cases hdn : drewNan x.op v'
              · rw [hdn, cond_false] at hi'
                simp only [Option.some.injEq, Prod.mk.injEq] at hi'
                obtain ⟨rfl, rfl⟩ := hi'
                obtain ⟨rfl, hy | ⟨hd, _⟩⟩ := op_quiet (a := a) I.rt I.st.rh h2 hq hev
                · obtain ⟨u, hu, hrun⟩ := hy
                  obtain ⟨S, s1, s2, s3, s4⟩ := read_km (ks := ks) (i := i) I.rt I.st.rh h2 hq hev hu hrun (by unfold readAt; rw [hkind]) ls
                  rw [h5] at he
                  refine wpAnyM_first (S := S) R.anc R.sel h1 s1 hQ f listed m a w hfr I.sh hi (I.pm i (mem_ready.1 hi).1) (.inl ⟨hw', s3⟩) s2 ?_
                  refine ih f fuelC _ _ xs' _ _ w ρ _ H₂ _ D (by omega) hf1 hxs (I.both R hi h1 h4 hn (St.refl I.st.rh) hu (fun y hy => ?_) s4) he
                  unfold addR
                  split
                  · exact List.mem_cons_of_mem _ hy
                  · exact hy
                · rw [hdn] at hd; cases hd
              · rw [hdn] at hi'; cases hi'
            · cases hi'
        · cases hx
      · cases hx
    · rename_i hnq
      split at hx
      · -- one that does something
        rename_i j hfind
        have hjC : j ∈ Region.ready .any ops listedC := by rw [hrs]; exact List.mem_of_find?_eq_some hfind
        have hjl := List.find?_some hfind
        simp only [Bool.not_eq_true'] at hjl
        split at hx
        · rename_i halone
          split at hx
          · rename_i x xs' hxi hxs
            simp only [Option.some.injEq] at hx
            subst hx
            obtain ⟨o, h1, h2, h3, h4, h5, h6, h7, h8⟩ := cI_spec hxi
            have hD : D j = none := by
              cases hd : D j with
              | none => rfl
              | some c => rw [I.late hd] at hjl; cases hjl
            have hj := I.ready hjC hD
            have hDn : D ops.size = none := by
              cases hd : D ops.size with
              | none => rfl
              | some c =>
                obtain ⟨oo, _, _, _, _, g1, _⟩ := I.dd _ c hd
                have := (Array.getElem?_eq_some_iff.1 g1).1
                omega
            obtain ⟨f, rfl, hf1, hf2⟩ := hfu hj
            have hpc := hpC hjC
            refine ⟨fun h => (by rw [h] at hj; cases hj), fun i hi => ?_⟩
            by_cases hij : i = j
            · subst hij
              simp only [evIs] at he
              unfold wpOp
              simp only [h1]
              split at he
              · cases he
              · rename_i hw
                have hw' := wanted_rel (a := a) I.rt h3 hw
                rw [h6] at he
                simp only [hw', Bool.false_eq_true, if_false]
                refine ⟨fun _ _ h => h, fun _ => True, ?_⟩
                exact ih f fuelC _ _ xs' _ _ w ρ _ H ls D (by omega) hf1 hxs (I.both R hj h1 h4 hn (St.refl I.st.rh) (undef_rel ρ) (fun _ h => h) (.inl fun _ => trivial)) he
              · rename_i hw
                have hw' := wanted_rel (a := a) I.rt h3 hw
                simp only [hw', if_true]
                split at he
                · cases he
                rename_i v H₁ hi'
                rw [fzT_eq, h7, cond_false, h6] at he
                refine .inl (eff_wp (ks := ks) hcall I.rt I.st.rh h7 h2 hi' fun u w' ρ' hst hr hkeep => ⟨fun k hk hm => ?_, fun _ => True, ?_⟩)
                · exact hkeep k (m k) (by rw [h8]; exact R.inc hk) (I.km k) hm
                · exact ih f fuelC _ _ xs' _ _ w' ρ' _ H₁ ls D (by omega) hf1 hxs (I.both R hj h1 h4 hn hst hr (fun _ h => h) (.inl fun _ => trivial)) he
            · have hil : lateAt ops i = true := (I.alone halone hDn hi).resolve_left hij
              obtain ⟨f', hff, hg1, hg2⟩ := hfu hi
              have : f' = f := by omega
              subst this
              have hx' : cDraw P nt ops A ks (fuelC + 1) listedC = some (x :: xs') := hx0
              exact early_wp R I hi hil fun a' w' m' D' I' => ih f' (fuelC + 1) _ _ _ _ a' w' ρ T H ls D' (by omega) hg1 hx' I' he
          · cases hx
        · cases hx
      · -- late ones alone
        rename_i hnone
        have hlate : ∀ i ∈ Region.ready .any ops listedC, lateAt ops i = true := fun i hi => by
          rw [hrs] at hi
          have := List.find?_eq_none.1 hnone i hi
          simpa using this
        have hkC : r0 ∈ Region.ready .any ops listedC := by rw [hrs]; exact List.mem_cons_self
        split at hx
        · rename_i halone
          split at hx
          · rename_i x xs' hxi hxs
            simp only [Option.some.injEq] at hx
            subst hx
            have hx' : cDraw P nt ops A ks (fuelC + 1) listedC = some (x :: xs') := hx0
            obtain ⟨o, h1, h2, h3, h4, h5, h6, h7, h8⟩ := cI_spec hxi
            cases hD : D r0 with
            | some c =>
              have hpc := hpC hkC
              obtain ⟨o', e, d, g1, g2, g3, g4, _⟩ := late_spec (hlate r0 hkC)
              rw [h1] at g1
              simp only [Option.some.injEq] at g1
              subst g1
              simp only [g3, cGuard, Option.some.injEq] at h3
              simp only [evIs, ← h3, wantedA] at he
              split at he
              · cases he
              rename_i v H₁ hi'
              rw [fzT_eq, h7, cond_false, h6] at he
              unfold evI at hi'
              rw [h7, h8, cond_false] at hi'
              simp only [isNil, cond_true] at hi'
              obtain ⟨ρ', D', I'⟩ := I.turn R hD h1 h4 hn h2 hi'
              exact ih fuel fuelC _ _ xs' m a w ρ' _ H₁ ls D' (by omega) hfuel hxs I' he
            | none =>
              have hk := I.ready hkC hD
              obtain ⟨f, rfl, hf1, hf2⟩ := hfu hk
              refine ⟨fun h => (by rw [h] at hk; cases hk), fun i hi => ?_⟩
              have hil : lateAt ops i = true := (I.alone halone hD hi).elim (fun h => h ▸ hlate r0 hkC) id
              obtain ⟨f', hff, hg1, hg2⟩ := hfu hi
              have : f' = f := by omega
              subst this
              exact early_wp R I hi hil fun a' w' m' D' I' => ih f' (fuelC + 1) _ _ _ _ a' w' ρ T H ls D' (by omega) hg1 hx' I' he
          · cases hx
        · cases hx
end
end Go.Sv

namespace Go.Sv
variable [gi : GoodC]

section
variable {P : Program} {callf : Nat → List AV → AH → Option (AT × AH)} {ops : Array Oper} {Q : Exit → Act → World → Prop}

theorem wipe_get : ∀ (er : List Nat) (T : Tr AT) (i : Nat), (wipe er T).get i = if i ∈ er then none else T.get i
  | [], T, i => by simp [wipe]
  | d :: r, T, i => by
    rw [wipe, wipe_get r, Tr.get_put]
    by_cases h : i ∈ r
    · simp [h]
    · by_cases h' : d = i
      · simp [h']
      · simp [h, h', Ne.symm h']

theorem RT.wipe {ρ : Rho} {T : Tr AT} {t : Array Value} (h : RT ρ T t) (er : List Nat) : RT ρ (wipe er T) t := fun i x hx => by
  rw [wipe_get] at hx
  split at hx
  · cases hx
  · exact h i x hx

/-- A region. -/
theorem region_wp (hcall : CallsOK P callf) (hm : P.follows .mixedOrders = true) {nt id : Nat} {draw : Bool} {er : List Nat} {xs : List AI} (hx : cRegion P nt ops draw = some (er, xs)) {ρ : Rho} {T T' : Tr AT} {a : Act} {w : World} {H H' : AH}
    (hT : RT ρ T a.tmps) (hH : RH ρ H w) (hn : nt ≤ a.tmps.size) (hQ : ∀ c a w, ¬ Q (.panic c) a w) (he : evIs callf xs [] (wipe er T) H = some (T', H')) (hp : Post Q .normal ρ H w a T' H') : (Code.region id ops draw).wp P Q a w := by
  unfold cRegion at hx
  cases draw with
  | false =>
    simp only [Bool.false_eq_true, if_false] at hx
    split at hx
    · rename_i xs' hxs
      simp only [Option.some.injEq, Prod.mk.injEq] at hx
      obtain ⟨rfl, rfl⟩ := hx
      exact wp_region (text_wp hcall _ hxs (hT.wipe []) hH hn he hp)
    · cases hx
  | true =>
    simp only [if_true] at hx
    split at hx
    · rename_i hchk
      split at hx
      · rename_i xs' hxs
        simp only [Option.some.injEq, Prod.mk.injEq] at hx
        obtain ⟨rfl, rfl⟩ := hx
        simp only [Bool.and_eq_true, List.all_eq_true] at hchk
        obtain ⟨⟨⟨k1, k2⟩, k3⟩, k4⟩ := hchk
        have R : Reg P ops (Region.before ops).toList ((List.range ops.size).map (kindOf P ops)) := by
          refine ⟨rfl, k1, k2, fun i hl => k4 i (List.mem_filter.2 ⟨?_, hl⟩), fun i o ho => ?_⟩
          · obtain ⟨o, _, _, ho, _⟩ := late_spec hl
            exact List.mem_range.2 (Array.getElem?_eq_some_iff.1 ho).1
          · have := k3 (kindOf P ops i) (List.mem_map.2 ⟨i, List.mem_range.2 (Array.getElem?_eq_some_iff.1 ho).1, rfl⟩)
            simpa [kindOf, ho] using this
        have hrep : ∀ i, (Array.replicate ops.size false).getD i false = false := fun i => by
          by_cases h : i < ops.size <;> simp [h]
        have hst : St ρ H w ρ H w.drew := (St.refl hH).drew
        refine wp_region_any hm (wpAny_of_M (inc := incN (Region.before ops).toList ((List.range ops.size).map (kindOf P ops))) _ _ (fun _ _ => True) _ _ ?_)
        refine sim (ρ0 := ρ) (H0 := H) (w0 := w.drew) (a0 := a) hcall R hn hQ (T' := T') (H' := H') (fun a' w' ρ' e1 e2 e3 e4 => hp a' w' ρ' (hst.trans e1) e2 e3 e4) _ ops.size ops.size _ (Array.replicate ops.size false) xs' _ a w.drew ρ _ H [] (fun _ => none) (Nat.lt_succ_self _) (by simp [pend]) hxs ?_ he
        refine ⟨by simp, by simp, fun i => by simp, fun _ _ h => (nomatch h), fun x i h => (by rw [hrep] at h; cases h), fun _ _ h => (nomatch h), fun _ _ _ h => (nomatch h), fun i o d hl _ ho hd => ?_, fun i => .inl fun _ => trivial, fun _ _ _ => trivial, St.refl hst.rh, hT.wipe _, rfl, rfl, hH.lim⟩
        rw [wipe_get, if_pos]
        unfold erOf
        exact List.mem_filterMap.2 ⟨i, List.mem_filter.2 ⟨List.mem_range.2 (Array.getElem?_eq_some_iff.1 ho).1, hl⟩, by simp [ho, hd]⟩
      · cases hx
    · cases hx

def toE : AE → Exit
  | .normal => .normal
  | .exit id => .exit id
  | .ret => .ret

/-- A call, where 'self' evaluates code. -/
def callE (env : Nat → Option AFun) (ov : Nat → List AV → AH → Option (AT × AH)) (self : ACode → Tr AT → AH → Ans) (f : Nat) (args : List AV) (H : AH) : Option (AT × AH) :=
  match ov f args H with
  | some r => some r
  | none =>
  match env f with
  | none => none
  | some fn =>
    match self fn.code (enter args 0 .nil) H with
    | none => none
    | some (.exit _, _, _) => none
    | some (_, T, H) =>
      match resA T H fn.res with
      | some vs => some (one vs, H)
      | none => none

theorem enter_rel {ρ : Rho} : ∀ {args : List AV} {vs : List Value}, All2 (RV ρ) args vs → ∀ (i : Nat) (T : Tr AT) (t : Array Value), RT ρ T t → (∀ j v, vs[j]? = some v → t[i + j]? = some v) → RT ρ (enter args i T) t
  | [], _, _, _, T, t, hT, _ => hT
  | x :: r, _, .cons (b := v) (m := vs) h0 h1, i, T, t, hT, ht => by
    simp only [enter]
    refine enter_rel h1 (i + 1) _ t (fun j y hy => ?_) fun j u hu => ?_
    · rw [Tr.get_put] at hy
      split at hy
      · rename_i e
        subst e
        simp only [Option.some.injEq] at hy
        subst hy
        exact ⟨v, by simpa using ht 0 v (by simp), h0⟩
      · exact hT j y hy
    · have := ht (j + 1) u (by simpa using hu)
      rw [← this]
      congr 1
      omega

/-- How a result is read. -/
def resSem (tmps : Array Value) : ResultVar → Sem Value
  | .tmp t => pure (tmps.getD t undef)
  | .cell a t => do loadVar t (← asAddr (tmps.getD a undef))

theorem res_rel {ρ : Rho} {T : Tr AT} {H : AH} {w : World} {t : Array Value} (hT : RT ρ T t) (hH : RH ρ H w) : ∀ {rs : List ResultVar} {ars : List (Nat × Option (Option Nat))} {vs : List AV}, cRes P rs = some ars → resA T H ars = some vs →
    ∃ us : List Value, (rs.mapM (resSem t)).run P w = .ok us w ∧ All2 (RV ρ) vs us
  | [], ars, vs, hc, he => by
    simp only [cRes, Option.some.injEq] at hc
    subst hc
    simp only [resA, Option.some.injEq] at he
    subst he
    exact ⟨[], by simp, .nil⟩
  | x :: r, ars, vs, hc, he => by
    simp only [cRes] at hc
    split at hc
    · cases hc
    rename_i ars' hars
    have key : ∀ {y : Nat × Option (Option Nat)}, ars = y :: ars' → (∀ v, resA T H [y] = some [v] → ∃ u, (resSem t x).run P w = .ok u w ∧ RV ρ v u) → ∃ us : List Value, ((x :: r).mapM (resSem t)).run P w = .ok us w ∧ All2 (RV ρ) vs us := fun {y} hy h1 => by
      obtain ⟨a, z⟩ := y
      subst hy
      simp only [resA] at he h1
      split at he
      · cases he
      rename_i v hv
      split at he
      · rename_i vs' hvs
        simp only [Option.some.injEq] at he
        subst he
        obtain ⟨us, g1, g2⟩ := res_rel hT hH hars hvs
        obtain ⟨u, g3, g4⟩ := h1 v (by rw [hv])
        exact ⟨u :: us, by simp [g3, g1], .cons g4 g2⟩
      · cases he
    split at hc
    · rename_i s
      simp only [Option.some.injEq] at hc
      refine key hc.symm fun v hv => ?_
      simp only [resA] at hv
      split at hv
      · cases hv
      rename_i v' hv'
      simp only [Option.some.injEq, List.cons.injEq, and_true] at hv
      subst hv
      split at hv'
      · rename_i x' hx'
        simp only [Option.some.injEq] at hv'
        subst hv'
        obtain ⟨u, h1, h2⟩ := hT _ _ hx'
        exact ⟨u, by simp [resSem, h1], h2⟩
      · cases hv'
    · rename_i s ty
      split at hc
      · rename_i z hz
        simp only [Option.some.injEq] at hc
        refine key hc.symm fun v hv => ?_
        simp only [resA] at hv
        split at hv
        · cases hv
        rename_i v' hv'
        simp only [Option.some.injEq, List.cons.injEq, and_true] at hv
        subst hv
        split at hv'
        · rename_i b o hb
          obtain ⟨u, h1, h2⟩ := hT _ _ hb
          obtain ⟨c, m, hc', hu⟩ := h2
          have hget : t.getD s undef = .pointer (some ⟨c, o, none⟩) := by
            simp only [Array.getD_eq_getD_getElem?, h1, Option.getD_some]; exact hu
          rcases cShape_spec hz with ⟨rfl, e1⟩ | ⟨n, rfl, e1, e2⟩
          · simp only [] at hv'
            split at hv'
            · rename_i x' hx'
              simp only [Option.some.injEq] at hv'
              subst hv'
              obtain ⟨u', f1, f2⟩ := run_read1 (P := P) hH hx' hc'
              exact ⟨u', by simp only [resSem, hget, asAddr, loadVar, Sem.run_bind, Sem.run_pure, Result.andThen_ok, e1, Bool.false_eq_true, if_false]; exact f2 w rfl, f1⟩
            · cases hv'
          · simp only [] at hv'
            split at hv'
            · rename_i xs hxs
              simp only [Option.some.injEq] at hv'
              subst hv'
              obtain ⟨us, f1, _, f2⟩ := run_read (P := P) hH hxs hc'
              exact ⟨.agg us.toArray, by simp only [resSem, hget, asAddr, loadVar, Sem.run_bind, Sem.run_pure, Result.andThen_ok, e1, e2, if_true, f2 w rfl], us, rfl, f1⟩
            · cases hv'
        · cases hv'
      · cases hc

theorem results_rel {ρ : Rho} {T : Tr AT} {H : AH} {w : World} {t : Array Value} (hT : RT ρ T t) (hH : RH ρ H w) {fn : Func} {ars : List (Nat × Option (Option Nat))} {vs : List AV} (hc : cRes P fn.results.toList = some ars) (he : resA T H ars = some vs) :
    ∃ v, (results fn t).run P w = .ok v w ∧ R1 ρ (one vs) v := by
  obtain ⟨us, h1, h2⟩ := res_rel hT hH hc he
  have hres : (results fn t).run P w = .ok (if h : us.toArray.size = 1 then us.toArray[0] else .tuple us.toArray) w := by
    have hf : results fn t = (do
      let vs ← fn.results.mapM (resSem t)
      pure (if h : vs.size = 1 then vs[0] else .tuple vs)) := by
      unfold results
      congr 1
    rw [hf, Array.mapM_eq_mapM_toList]
    simp [h1]
  refine ⟨_, hres, ?_⟩
  cases h2 with
  | nil => exact ⟨[], by simp, .nil⟩
  | cons h0 h3 =>
    cases h3 with
    | nil => exact h0
    | cons h4 h5 =>
      simp only [List.size_toArray, List.length_cons]
      rw [dif_neg (by omega)]
      exact ⟨_, rfl, .cons h0 (.cons h4 h5)⟩
end
end Go.Sv

namespace Go.Sv
variable [gi : GoodC]

section
variable {P : Program} {env : Nat → Option AFun} {ov : Nat → List AV → AH → Option (AT × AH)}

theorem ev_zero (c : ACode) (T : Tr AT) (H : AH) : ev env ov 0 c T H = none := rfl
theorem ev_succ (n : Nat) (c : ACode) (T : Tr AT) (H : AH) : ev env ov (n + 1) c T H = evStep env ov (ev env ov n) c T H := rfl

/-- Each function that the evaluator knows is the program's. -/
def EnvOK (P : Program) (env : Nat → Option AFun) : Prop := ∀ f af, env f = some af → ∃ fn, P.funcs[f]? = some fn ∧ cFun P fn = some af

def CodeOK (P : Program) (self : ACode → Tr AT → AH → Ans) : Prop :=
  ∀ {nt : Nat} {c : Code} {ac : ACode}, cCode P nt c = some ac → ∀ {T : Tr AT} {H : AH} {e : AE} {T' : Tr AT} {H' : AH}, self ac T H = some (e, T', H') → ∀ {ρ : Rho} {a : Act} {w : World} {Q : Exit → Act → World → Prop},
    RT ρ T a.tmps → RH ρ H w → nt ≤ a.tmps.size → (∀ c a w, ¬ Q (.panic c) a w) → Post Q (toE e) ρ H w a T' H' → c.wp P Q a w

theorem cFun_spec {fn : Func} {af : AFun} (h : cFun P fn = some af) : fn.name ≠ "runtime.NumGoroutine" ∧ ∃ c, fn.body = some c ∧ cCode P fn.ntmps c = some af.code ∧ cRes P fn.results.toList = some af.res ∧ af.ntmps = fn.ntmps := by
  unfold cFun at h
  split at h
  · cases h
  · rename_i hn
    split at h
    · cases h
    · rename_i c hb
      split at h
      · rename_i ac rs h1 h2
        simp only [Option.some.injEq] at h
        subst h
        exact ⟨hn, c, hb, h1, h2, rfl⟩
      · cases h

theorem calls_ok (henv : EnvOK P env) (hov : CallsOK P ov) {self : ACode → Tr AT → AH → Ans} (hself : CodeOK P self) : CallsOK P (callE env ov self) := by
  intro f args H r H' he
  unfold callE at he
  split at he
  · rename_i x hx
    simp only [Option.some.injEq] at he
    subst he
    exact hov _ _ _ _ _ hx
  split at he
  · cases he
  rename_i af haf
  obtain ⟨fn, hfn, hc⟩ := henv f af haf
  obtain ⟨hname, c, hb, h1, h2, _⟩ := cFun_spec hc
  refine ⟨⟨fn, hfn, hname, by rw [hb]; rfl⟩, fun ρ w vs hH hargs => ?_⟩
  refine calls_of_wp hfn hb ?_
  have hT : RT ρ (enter args 0 .nil) (vs.toArray ++ Array.replicate (fn.ntmps - vs.toArray.size) undef) := by
    refine enter_rel hargs 0 .nil _ (fun i x hx => by simp [Tr.get] at hx) fun j v hj => ?_
    have hlt : j < vs.length := (List.getElem?_eq_some_iff.1 hj).1
    rw [Nat.zero_add, Array.getElem?_append_left (by simpa using hlt)]
    simpa using hj
  have hn : fn.ntmps ≤ (vs.toArray ++ Array.replicate (fn.ntmps - vs.toArray.size) undef).size := by
    simp
    omega
  have fin : ∀ {e : AE} {T1 : Tr AT} {H1 : AH} {us : List AV}, self af.code (enter args 0 .nil) H = some (e, T1, H1) → (e = .normal ∨ e = .ret) → resA T1 H1 af.res = some us → r = one us → H' = H1 →
      c.wp P (bodyPost P fn fun e w' => ∃ v ρ', e = .returned v ∧ St ρ H w ρ' H' w' ∧ R1 ρ' r v) { tmps := vs.toArray ++ Array.replicate (fn.ntmps - vs.toArray.size) undef, defers := [] } w := fun {e T1 H1 us} hev hen hres hr hH' => by
    subst hr
    subst hH'
    refine hself h1 hev hT hH hn (fun ch a w hq => ?_) fun a' w' ρ' e1 e2 _ e4 => ?_
    · obtain ⟨_, _, _, h, _⟩ := hq
      cases h
    · obtain ⟨v, g1, g2⟩ := results_rel e2 e1.rh h2 hres
      rcases hen with rfl | rfl <;> exact ⟨e4, v, g1, v, ρ', rfl, e1, g2⟩
  split at he
  · cases he
  · cases he
  · rename_i e T1 H1 hno hev
    split at he
    · rename_i us hus
      simp only [Option.some.injEq, Prod.mk.injEq] at he
      refine fin hev ?_ hus he.1.symm he.2.symm
      cases e with
      | normal => exact .inl rfl
      | ret => exact .inr rfl
      | exit id => exact (hno id rfl).elim
    · cases he

theorem St_post {ρ ρ1 : Rho} {H H1 : AH} {w w1 : World} {a a1 : Act} (hst : St ρ H w ρ1 H1 w1) (h1 : a1.tmps.size = a.tmps.size) (h2 : a1.defers = a.defers) {Q : Exit → Act → World → Prop} {e : Exit} {T' : Tr AT} {H' : AH} (hp : Post Q e ρ H w a T' H') : Post Q e ρ1 H1 w1 a1 T' H' :=
  fun a' w' ρ' e1 e2 e3 e4 => hp a' w' ρ' (hst.trans e1) e2 (e3.trans h1) (e4.trans h2)

/-- Loops, in so many rounds at most. -/
def LoopOK (P : Program) (n : Nat) (self : ACode → Tr AT → AH → Ans) : Prop :=
  ∀ {nt : Nat} {c : Code} {ac : ACode}, cCode P nt c = some ac → ∀ {T : Tr AT} {H : AH} {e : AE} {T' : Tr AT} {H' : AH}, self (.loop ac) T H = some (e, T', H') → ∀ {ρ : Rho} {a : Act} {w : World} {Q : Exit → Act → World → Prop},
    RT ρ T a.tmps → RH ρ H w → nt ≤ a.tmps.size → (∀ c a w, ¬ Q (.panic c) a w) → Post Q (toE e) ρ H w a T' H' → Code.rounds P c Q n a w

theorem loop_ok {self : ACode → Tr AT → AH → Ans} (hself : CodeOK P self) {n : Nat} (hl : LoopOK P n self) : LoopOK P (n + 1) (evStep env ov self) := by
  intro nt x x' hx T H e T' H' he ρ a w Q hT hH hn hQ hp
  simp only [evStep] at he
  rw [rounds_succ]
  split at he
  · cases he
  · rename_i T1 H1 h1
    refine hself hx h1 hT hH hn (fun c a w h => hQ c a w h) fun a' w' ρ' e1 e2 e3 e4 => ?_
    exact hl hx he e2 e1.rh (by rw [e3]; exact hn) hQ (St_post e1 e3 e4 hp)
  · rename_i r hno h1
    simp only [Option.some.injEq] at he
    subst he
    refine hself hx h1 hT hH hn (fun c a w h => hQ c a w h) fun a' w' ρ' e1 e2 e3 e4 => ?_
    have := hp a' w' ρ' e1 e2 e3 e4
    cases e with
    | normal => exact absurd rfl (hno T' H')
    | exit id => exact this
    | ret => exact this

/- ### What code leaves as it was -/

theorem evIs_keep {callf : Nat → List AV → AH → Option (AT × AH)} : ∀ (is : List AI) {ls : List LR} {T T' : Tr AT} {H H' : AH}, evIs callf is ls T H = some (T', H') → ∀ i, i ∉ dstsI is → T'.get i = T.get i
  | [], ls, T, T', H, H', h, i, _ => by
    simp [evIs] at h
    rw [h.1]
  | x :: r, ls, T, T', H, H', h, i, hi => by
    have hd : ∀ (y : AT), (putT T x.dst y).get i = T.get i ∧ i ∉ dstsI r := fun y => by
      unfold dstsI at hi
      cases hx : x.dst with
      | none =>
        rw [hx] at hi
        exact ⟨rfl, hi⟩
      | some d =>
        rw [hx] at hi
        simp only [List.mem_cons, not_or] at hi
        exact ⟨by simp only [putT, Tr.get_put]; rw [if_neg (Ne.symm hi.1)], hi.2⟩
    simp only [evIs] at h
    split at h
    · cases h
    · rw [evIs_keep r h i (hd undefA).2, (hd undefA).1]
    · split at h
      · cases h
      · rename_i v H1 hv
        rw [fzT_eq] at h
        rw [evIs_keep r h i (hd v).2, (hd v).1]

theorem joinTs_get (q : Bool) (T1 T2 : Tr AT) : ∀ (ds : List Nat) (T : Tr AT) (i : Nat), (joinTs q T1 T2 ds T).get i = if i ∈ ds then joinT q (T1.get i) (T2.get i) else T.get i
  | [], T, i => by simp [joinTs]
  | d :: r, T, i => by
    have e : (match joinT q (T1.get d) (T2.get d) with | some x => fzT x some | none => none) = joinT q (T1.get d) (T2.get d) := by
      cases joinT q (T1.get d) (T2.get d) with
      | none => rfl
      | some x => simp [fzT_eq]
    simp only [joinTs, joinTs_get q T1 T2 r, Tr.get_put, List.mem_cons]
    by_cases h : i ∈ r
    · simp [h]
    · by_cases h' : d = i
      · subst h'; simp [h]; exact e
      · simp [h, h', Ne.symm h']

def Keeps (self : ACode → Tr AT → AH → Ans) : Prop := ∀ (c : ACode) (T : Tr AT) (H : AH) (e : AE) (T' : Tr AT) (H' : AH), self c T H = some (e, T', H') → ∀ i, i ∉ dstsC c → T'.get i = T.get i

theorem keep_step {self : ACode → Tr AT → AH → Ans} (hk : Keeps self) : Keeps (evStep env ov self) := by
  intro c T H e T' H' h i hi
  cases c with
  | skip => simp only [evStep, Option.some.injEq, Prod.mk.injEq] at h; rw [h.2.1]
  | ret => simp only [evStep, Option.some.injEq, Prod.mk.injEq] at h; rw [h.2.1]
  | exit id => simp only [evStep, Option.some.injEq, Prod.mk.injEq] at h; rw [h.2.1]
  | region er is =>
    simp only [dstsC, List.mem_append, not_or] at hi
    simp only [evStep] at h
    split at h
    · cases h
    · rename_i T1 H1 h1
      simp only [Option.some.injEq, Prod.mk.injEq] at h
      rw [← h.2.1, evIs_keep is h1 i hi.2, wipe_get, if_neg hi.1]
  | seq a b =>
    simp only [dstsC, List.mem_append, not_or] at hi
    simp only [evStep] at h
    split at h
    · cases h
    · rename_i T1 H1 h1
      rw [hk _ _ _ _ _ _ h i hi.2, hk _ _ _ _ _ _ h1 i hi.1]
    · rename_i r hno h1
      simp only [Option.some.injEq] at h
      subst h
      exact hk _ _ _ _ _ _ h1 i hi.1
  | cond x a b =>
    simp only [dstsC, List.mem_append, not_or] at hi
    simp only [evStep] at h
    split at h
    · exact hk _ _ _ _ _ _ h i hi.1
    · exact hk _ _ _ _ _ _ h i hi.2
    · split at h
      · rename_i T1 H1 h1
        split at h
        · rename_i T2 H2 h2
          cases hb : Nat.beq H1.n H.n && Nat.beq H2.n H.n
          · rw [hb] at h; cases h
          · rw [hb, cond_true] at h
            simp only [Option.some.injEq, Prod.mk.injEq] at h
            rw [← h.2.1, joinTs_get, if_neg]
            simp only [List.mem_append, not_or]
            exact hi
        · cases h
      · cases h
    · cases h
  | block id a =>
    simp only [dstsC] at hi
    simp only [evStep] at h
    split at h
    · cases h
    · rename_i id' T1 H1 h1
      cases hb : Nat.beq id' id
      · rw [hb, cond_false] at h
        simp only [Option.some.injEq, Prod.mk.injEq] at h
        rw [← h.2.1, hk _ _ _ _ _ _ h1 i hi]
      · rw [hb, cond_true] at h
        simp only [Option.some.injEq, Prod.mk.injEq] at h
        rw [← h.2.1, hk _ _ _ _ _ _ h1 i hi]
    · rename_i r hno h1
      simp only [Option.some.injEq] at h
      subst h
      exact hk _ _ _ _ _ _ h1 i hi
  | loop a =>
    simp only [dstsC] at hi
    simp only [evStep] at h
    split at h
    · cases h
    · rename_i T1 H1 h1
      rw [hk _ _ _ _ _ _ h i (by simp only [dstsC]; exact hi), hk _ _ _ _ _ _ h1 i hi]
    · rename_i r hno h1
      simp only [Option.some.injEq] at h
      subst h
      exact hk _ _ _ _ _ _ h1 i hi

theorem keeps_ev : ∀ n, Keeps (ev env ov n)
  | 0 => fun _ _ _ _ _ _ h => (by rw [ev_zero] at h; cases h)
  | n + 1 => keep_step (keeps_ev n)

/-- In no memory at all. -/
theorem RH.bare {ρ : Rho} {H : AH} {w : World} (h : RH ρ H w) : RH ρ { t := .nil, n := H.n, p := [] } w :=
  ⟨fun i o hi => (by simp [Tr.get] at hi), fun i j o o' c m m' hi => (by simp [Tr.get] at hi), h.fresh, h.lo, h.lim, h.old⟩

theorem St.bare {ρ ρ' : Rho} {H H1 : AH} {w w' : World} (h : St ρ { t := .nil, n := H.n, p := [] } w ρ' H1 w') (hH : RH ρ H w) (hn : H1.n = H.n) : St ρ H w ρ' H w' := by
  have hw : ∀ c, ¬ Wr ρ { t := .nil, n := H.n, p := [] } c := fun c ⟨i, o, m, g, _⟩ => by simp [Tr.get] at g
  have same : ∀ i o c m, H.t.get i = some o → ρ' i = some (c, m) → ρ i = some (c, m) := fun i o c m hi hc => by
    obtain ⟨c', m', obj, h1, _⟩ := hH.blk i o hi
    have := h.ext.le i _ h1
    rw [hc] at this
    rw [h1, this]
  refine ⟨h.ext, ⟨fun i o hi => ?_, fun i j o o' c m m' hi hj hci hcj => hH.inj i j o o' c m m' hi hj (same _ _ _ _ hi hci) (same _ _ _ _ hj hcj), fun i hi => h.rh.fresh i (by rw [hn]; exact hi), h.rh.lo, h.rh.lim, h.rh.old⟩, rfl, fun c hc _ => h.frame c hc (hw c), fun c ⟨i, o, m, g1, g2, g3⟩ => .inr ⟨i, o, m, g1, g2, same _ _ _ _ g1 g3⟩, fun c ⟨i, o, m, g1, g3⟩ => .inr ⟨i, o, m, g1, same _ _ _ _ g1 g3⟩, h.os, h.tape, h.output, h.size⟩
  obtain ⟨c, m, obj, h1, h2, h3⟩ := hH.blk i o hi
  exact ⟨c, m, obj, h.ext.le _ _ h1, by rw [h.frame c (hH.lt hi h1) (hw c)]; exact h2, h3.ext h.ext⟩

theorem joinF_true {X : Ctx} {x y z : AF} {n : Nat} (hx : RF X x n) (h : joinF true x y = some z) : RF X z n := by
  unfold joinF at h
  split at h
  · rename_i n' F m' G h1 h2
    obtain ⟨rfl, hF⟩ := toS_ok hx h1
    split at h
    · rename_i a b ha hb
      rw [fzM_eq] at h
      simp only [Option.some.injEq] at h
      subst h
      refine ⟨rfl, fun h => absurd rfl h, fun h => np_join hF (.inl rfl) h, hF.nn, fun h => ?_, fun c hc => ?_, fun cs e h => (by cases h), fun h => lw_join hF (.inl rfl) h, fun h => absurd rfl h⟩
      · simp only [Bool.and_eq_true] at h; exact hF.pos h.1
      · simp only [Option.some.injEq] at hc
        subst hc
        obtain ⟨v, h3, h4⟩ := hF.bd a ha
        exact ⟨v, h3, Rat.le_trans h4 (Rat.mul_le_mul_of_nonneg_right (Fl.cast_le (max2N_ge a b).1) (M0 X))⟩
    · cases h
  · cases h

theorem joinF_false {X : Ctx} {x y z : AF} {n : Nat} (hy : RF X y n) (h : joinF false x y = some z) : RF X z n := by
  unfold joinF at h
  split at h
  · rename_i n' F m' G h1 h2
    obtain ⟨rfl, hG⟩ := toS_ok hy h2
    split at h
    · rename_i a b ha hb
      rw [fzM_eq] at h
      simp only [Option.some.injEq] at h
      subst h
      refine ⟨rfl, fun h => absurd rfl h, fun h => np_join hG (.inr rfl) h, hG.nn, fun h => ?_, fun c hc => ?_, fun cs e h => (by cases h), fun h => lw_join hG (.inr rfl) h, fun h => absurd rfl h⟩
      · simp only [Bool.and_eq_true] at h; exact hG.pos h.2
      · simp only [Option.some.injEq] at hc
        subst hc
        obtain ⟨v, h3, h4⟩ := hG.bd b hb
        exact ⟨v, h3, Rat.le_trans h4 (Rat.mul_le_mul_of_nonneg_right (Fl.cast_le (max2N_ge a b).2) (M0 X))⟩
    · cases h
  · cases h

theorem joinT_true {ρ : Rho} {x y : Option AT} {z : AT} (h : joinT true x y = some z) : ∃ x', x = some x' ∧ ∀ {u : Value}, R1 ρ x' u → R1 ρ z u := by
  unfold joinT at h
  split at h
  · split at h
    · rename_i w hw
      simp only [Option.some.injEq] at h
      subst h
      exact ⟨_, rfl, fun {u} hu => by obtain ⟨n, h1, rfl⟩ := hu; exact ⟨n, joinF_true h1 hw, rfl⟩⟩
    · cases h
  · split at h
    · rename_i w1 w2 hw1 hw2
      simp only [Option.some.injEq] at h
      subst h
      exact ⟨_, rfl, fun {u} hu => by obtain ⟨n, n', h1, h1', rfl⟩ := hu; exact ⟨n, n', joinF_true h1 hw1, joinF_true h1' hw2, rfl⟩⟩
    · cases h
  · cases h

theorem joinT_false {ρ : Rho} {x y : Option AT} {z : AT} (h : joinT false x y = some z) : ∃ y', y = some y' ∧ ∀ {u : Value}, R1 ρ y' u → R1 ρ z u := by
  unfold joinT at h
  split at h
  · split at h
    · rename_i w hw
      simp only [Option.some.injEq] at h
      subst h
      exact ⟨_, rfl, fun {u} hu => by obtain ⟨n, h1, rfl⟩ := hu; exact ⟨n, joinF_false h1 hw, rfl⟩⟩
    · cases h
  · split at h
    · rename_i w1 w2 hw1 hw2
      simp only [Option.some.injEq] at h
      subst h
      exact ⟨_, rfl, fun {u} hu => by obtain ⟨n, n', h1, h1', rfl⟩ := hu; exact ⟨n, n', joinF_false h1 hw1, joinF_false h1' hw2, rfl⟩⟩
    · cases h
  · cases h

theorem RT.joined {ρ : Rho} {q : Bool} {T T1 T2 : Tr AT} {ds : List Nat} {t : Array Value} (h : RT ρ (bif q then T1 else T2) t) (hk : ∀ i, i ∉ ds → (bif q then T1 else T2).get i = T.get i) : RT ρ (joinTs q T1 T2 ds T) t := by
  intro i x hx
  rw [joinTs_get] at hx
  split at hx
  · cases q
    · obtain ⟨y', h1, h2⟩ := joinT_false (ρ := ρ) hx
      obtain ⟨v, h3, h4⟩ := h i y' h1
      exact ⟨v, h3, h2 h4⟩
    · obtain ⟨y', h1, h2⟩ := joinT_true (ρ := ρ) hx
      obtain ⟨v, h3, h4⟩ := h i y' h1
      exact ⟨v, h3, h2 h4⟩
  · rename_i hi
    exact h i x (by rw [hk i hi]; exact hx)

theorem step_ok (henv : EnvOK P env) (hov : CallsOK P ov) (hm : P.follows .mixedOrders = true) {self : ACode → Tr AT → AH → Ans} (hself : CodeOK P self) (hkeep : Keeps self) {n : Nat} (hl : LoopOK P n self) : CodeOK P (evStep env ov self) := by
  intro nt c ac hc T H e T' H' he ρ a w Q hT hH hn hQ hp
  cases c with
  | skip =>
    simp only [cCode, Option.some.injEq] at hc
    subst hc
    simp only [evStep, Option.some.injEq, Prod.mk.injEq] at he
    obtain ⟨rfl, rfl, rfl⟩ := he
    exact wp_skip (hp a w ρ (St.refl hH) hT rfl rfl)
  | ret =>
    simp only [cCode, Option.some.injEq] at hc
    subst hc
    simp only [evStep, Option.some.injEq, Prod.mk.injEq] at he
    obtain ⟨rfl, rfl, rfl⟩ := he
    exact wp_ret (hp a w ρ (St.refl hH) hT rfl rfl)
  | exit id =>
    simp only [cCode, Option.some.injEq] at hc
    subst hc
    simp only [evStep, Option.some.injEq, Prod.mk.injEq] at he
    obtain ⟨rfl, rfl, rfl⟩ := he
    exact wp_exit (hp a w ρ (St.refl hH) hT rfl rfl)
  | region id ops draw =>
    simp only [cCode] at hc
    split at hc
    · rename_i er is hr
      simp only [Option.some.injEq] at hc
      subst hc
      simp only [evStep] at he
      split at he
      · cases he
      · rename_i T1 H1 hev
        simp only [Option.some.injEq, Prod.mk.injEq] at he
        obtain ⟨rfl, rfl, rfl⟩ := he
        exact region_wp (callf := callE env ov self) (calls_ok henv hov hself) hm hr hT hH hn hQ hev hp
    · cases hc
  | seq x y =>
    simp only [cCode] at hc
    split at hc
    · rename_i x' y' hx hy
      simp only [Option.some.injEq] at hc
      subst hc
      simp only [evStep] at he
      refine wp_seq ?_
      split at he
      · cases he
      · rename_i T1 H1 h1
        refine hself hx h1 hT hH hn (fun c a w h => hQ c a w h) fun a' w' ρ' e1 e2 e3 e4 => ?_
        exact hself hy he e2 e1.rh (by rw [e3]; exact hn) hQ (St_post e1 e3 e4 hp)
      · rename_i r hno h1
        simp only [Option.some.injEq] at he
        subst he
        refine hself hx h1 hT hH hn (fun c a w h => hQ c a w h) fun a' w' ρ' e1 e2 e3 e4 => ?_
        have := hp a' w' ρ' e1 e2 e3 e4
        cases e with
        | normal => exact absurd rfl (hno T' H')
        | exit id => exact this
        | ret => exact this
    · cases hc
  | cond x y z =>
    simp only [cCode] at hc
    split at hc
    · rename_i x' y' z' hx hy hz
      simp only [Option.some.injEq] at hc
      subst hc
      simp only [evStep] at he
      split at he
      · rename_i hb
        exact wp_cond_true (evC_rel hT hx hb) (hself hy he hT hH hn hQ hp)
      · rename_i hb
        exact wp_cond_false (evC_rel hT hx hb) (hself hz he hT hH hn hQ hp)
      · rename_i q hb
        split at he
        · rename_i T1 H1 h1
          split at he
          · rename_i T2 H2 h2
            cases hbn : Nat.beq H1.n H.n && Nat.beq H2.n H.n
            · rw [hbn] at he; cases he
            · rw [hbn, cond_true] at he
              simp only [Option.some.injEq, Prod.mk.injEq] at he
              obtain ⟨rfl, rfl, rfl⟩ := he
              simp only [Bool.and_eq_true] at hbn
              have k1 : ∀ i, i ∉ dstsC y' ++ dstsC z' → T1.get i = T.get i := fun i hi => hkeep _ _ _ _ _ _ h1 i (fun h => hi (List.mem_append.2 (.inl h)))
              have k2 : ∀ i, i ∉ dstsC y' ++ dstsC z' → T2.get i = T.get i := fun i hi => hkeep _ _ _ _ _ _ h2 i (fun h => hi (List.mem_append.2 (.inr h)))
              cases q with
              | true =>
                refine wp_cond_true (evC_rel hT hx hb) (hself hy h1 hT hH.bare hn hQ fun a' w' ρ' e1 e2 e3 e4 => ?_)
                exact hp a' w' ρ' (e1.bare hH (Nat.eq_of_beq_eq_true hbn.1)) (RT.joined (q := true) e2 k1) e3 e4
              | false =>
                refine wp_cond_false (evC_rel hT hx hb) (hself hz h2 hT hH.bare hn hQ fun a' w' ρ' e1 e2 e3 e4 => ?_)
                exact hp a' w' ρ' (e1.bare hH (Nat.eq_of_beq_eq_true hbn.2)) (RT.joined (q := false) e2 k2) e3 e4
          · cases he
        · cases he
      · cases he
    · cases hc
  | block id x =>
    simp only [cCode] at hc
    split at hc
    · rename_i x' hx
      simp only [Option.some.injEq] at hc
      subst hc
      simp only [evStep] at he
      refine wp_block ?_
      split at he
      · cases he
      · rename_i id' T1 H1 h1
        refine hself hx h1 hT hH hn (fun c a w h => hQ c a w h) fun a' w' ρ' e1 e2 e3 e4 => ?_
        show if id' = id then Q .normal a' w' else Q (.exit id') a' w'
        cases hb : Nat.beq id' id
        · rw [hb, cond_false] at he
          simp only [Option.some.injEq, Prod.mk.injEq] at he
          obtain ⟨rfl, rfl, rfl⟩ := he
          rw [if_neg (fun h => by subst h; simp at hb)]
          exact hp a' w' ρ' e1 e2 e3 e4
        · rw [hb, cond_true] at he
          simp only [Option.some.injEq, Prod.mk.injEq] at he
          obtain ⟨rfl, rfl, rfl⟩ := he
          rw [if_pos (Nat.eq_of_beq_eq_true hb)]
          exact hp a' w' ρ' e1 e2 e3 e4
      · rename_i r hno h1
        simp only [Option.some.injEq] at he
        subst he
        refine hself hx h1 hT hH hn (fun c a w h => hQ c a w h) fun a' w' ρ' e1 e2 e3 e4 => ?_
        have := hp a' w' ρ' e1 e2 e3 e4
        cases e with
        | normal => exact this
        | exit id => exact absurd rfl (hno id T' H')
        | ret => exact this
    · cases hc
  | loop x =>
    simp only [cCode] at hc
    split at hc
    · rename_i x' hx
      simp only [Option.some.injEq] at hc
      subst hc
      exact wp_loop_rounds (n + 1) (loop_ok (env := env) (ov := ov) hself hl hx he hT hH hn hQ hp)
    · cases hc
  | _ => simp [cCode] at hc

theorem both_ok (henv : EnvOK P env) (hov : CallsOK P ov) (hm : P.follows .mixedOrders = true) : ∀ n, CodeOK P (ev env ov n) ∧ LoopOK P n (ev env ov n)
  | 0 => ⟨fun {_ _ _} _ {_ _ _ _ _} h => (by rw [ev_zero] at h; cases h), fun {_ _ _} _ {_ _ _ _ _} h => (by rw [ev_zero] at h; cases h)⟩
  | n + 1 => ⟨step_ok henv hov hm (both_ok henv hov hm n).1 (keeps_ev n) (both_ok henv hov hm n).2, loop_ok (env := env) (ov := ov) (both_ok henv hov hm n).1 (both_ok henv hov hm n).2⟩

theorem code_ok (henv : EnvOK P env) (hov : CallsOK P ov) (hm : P.follows .mixedOrders = true) (n : Nat) : CodeOK P (ev env ov n) := (both_ok henv hov hm n).1

theorem callE_evF {n f : Nat} {args : List AV} {H : AH} : (match ov f args H with | some r => some r | none => evF env ov n f args H) = callE env ov (ev env ov n) f args H := rfl

/-- What the evaluator says of a call is what the call does. -/
theorem evF_ok (henv : EnvOK P env) (hov : CallsOK P ov) (hm : P.follows .mixedOrders = true) (n : Nat) : CallsOK P (callE env ov (ev env ov n)) := calls_ok henv hov (code_ok henv hov hm n)

theorem no_ov : CallsOK P (fun _ _ _ => none) := fun _ _ _ _ _ h => (by cases h)
end
end Go.Sv
