/-
  A region whose order is drawn: small laws of lists of what has come up, and what is held between two operations. No conditions.
-/
import Derived.Test.YtfgkhpoibfbnkaaGreatEvR
namespace Go.Ev

/-- How many have not come up. -/
def pend (l : Array Bool) : Nat := l.toList.count false

theorem pend_set {l : Array Bool} {i : Nat} (h : l.getD i true = false) : pend (l.setIfInBounds i true) + 1 = pend l := by
  have hlt : i < l.toList.length := by
    rcases Nat.lt_or_ge i l.size with h' | h'
    · simpa using h'
    · simp [Array.getElem?_eq_none h'] at h
  have hv : l.toList[i] = false := by
    have h2 : i < l.size := by simpa using hlt
    simp [h2] at h
    simpa using h
  unfold pend
  rw [Array.toList_setIfInBounds, List.count_set hlt, hv]
  have hpos : 0 < l.toList.count false := List.count_pos_iff.2 (hv ▸ List.getElem_mem hlt)
  have e1 : (if (false == false) = true then 1 else 0) = 1 := rfl
  have e2 : (if (true == false) = true then 1 else 0) = 0 := rfl
  rw [e1, e2]
  omega

theorem getD_ft {l : Array Bool} {i : Nat} (h : l.getD i false = true) : l.getD i true = true := by
  rcases Nat.lt_or_ge i l.size with h' | h'
  · simp [h'] at h ⊢; exact h
  · simp [Array.getElem?_eq_none h'] at h

theorem getD_tt {l : Array Bool} {i : Nat} (h : l.getD i true = true) (hi : i < l.size) : l.getD i false = true := by
  simp [hi] at h ⊢; exact h

theorem getD_lt {l : Array Bool} {i : Nat} (h : l.getD i true = false) : i < l.size := by
  rcases Nat.lt_or_ge i l.size with h' | h'
  · exact h'
  · simp [Array.getElem?_eq_none h'] at h

section
variable {P : Program} {callf : Nat → List AV → AH → Option (AT × AH)} {ops : Array Oper} {ks : List (Option AOp)} {A : List Nat}

theorem late_spec {i : Nat} (h : lateAt ops i = true) : ∃ o e d, ops[i]? = some o ∧ o.op = .alloc e ∧ o.guard = none ∧ o.dst = some d ∧ ∀ e ∈ o.after, Region.binds .any e = false := by
  unfold lateAt at h
  split at h
  · rename_i o ho
    split at h
    · rename_i e d h1 h2 h3
      refine ⟨o, e, d, ho, h1, h2, h3, fun x hx => ?_⟩
      have := Array.all_eq_true_iff_forall_mem.1 h x hx
      simpa using this
    · cases h
  · cases h

theorem own_spec {i j : Nat} {oi oj : Oper} (h : ownDst ops i = true) (hi : ops[i]? = some oi) (hj : ops[j]? = some oj) (hne : j ≠ i) : oj.dst ≠ oi.dst := by
  unfold ownDst at h
  rw [hi] at h
  simp only [List.all_eq_true, List.mem_range] at h
  have := h j (Array.getElem?_eq_some_iff.1 hj).1
  simp only [hj, Bool.or_eq_true, beq_iff_eq, hne, false_or, Bool.not_eq_true'] at this
  intro e
  rw [e] at this
  simp at this

/-- What a drawn region was looked through for. -/
structure Reg (P : Program) (ops : Array Oper) (A : List Nat) (ks : List (Option AOp)) : Prop where
  kinds : ks = (List.range ops.size).map (kindOf P ops)
  anc : ancOk ops A = true
  sel : Region.noSelect ops = true
  own : ∀ i, lateAt ops i = true → ownDst ops i = true
  all : ∀ (i : Nat) (o : Oper), ops[i]? = some o → (cOp P o.op).isSome = true

theorem Reg.kind (R : Reg P ops A ks) {i : Nat} {o : Oper} {ao : AOp} (hi : ops[i]? = some o) (hc : cOp P o.op = some ao) : ks.getD i none = some ao := by
  have hlt : i < ops.size := (Array.getElem?_eq_some_iff.1 hi).1
  have h1 : ((List.range ops.size).map (kindOf P ops))[i]? = some (kindOf P ops i) := by simp [hlt]
  rw [R.kinds, List.getD_eq_getElem?_getD, h1]
  simp only [Option.getD_some, kindOf, hi, Option.bind_some]
  exact hc

theorem Reg.read_lt (R : Reg P ops A ks) {i : Nat} (h : readAt ks i = true) : i < ops.size := by
  rcases Nat.lt_or_ge i ops.size with h' | h'
  · exact h'
  · exfalso
    have : ks.getD i none = none := by
      rw [R.kinds, List.getD_eq_getElem?_getD, List.getElem?_eq_none (by simpa using h')]
      rfl
    unfold readAt at h
    rw [this] at h
    cases h

theorem Reg.inc (R : Reg P ops A ks) {i j : Nat} (h : incN A ks j i = true) : memN (incOf A ks ops.size j) i = true := by
  rw [memN_iff]
  unfold incOf
  refine List.mem_filter.2 ⟨List.mem_range.2 (R.read_lt ?_), h⟩
  unfold incN at h
  simp only [Bool.and_eq_true] at h
  exact h.1.1.1

/-- A late one that came up ahead of its turn: its variable stands at c. -/
def DD (P : Program) (ops : Array Oper) (w0 : World) (ρ : Rho) (H : AH) (a : Act) (w : World) (i c : Nat) : Prop :=
  ∃ o e d z xs, ops[i]? = some o ∧ lateAt ops i = true ∧ o.op = .alloc e ∧ o.guard = none ∧ o.dst = some d ∧ cZero P e = some (z, xs) ∧ (d < a.tmps.size → a.tmps[d]? = some (.pointer (some ⟨c, 0, none⟩))) ∧
    (∃ obj n, w.heap[c]? = some obj ∧ ∀ ρ, RO ρ n (.cells xs true) obj) ∧ w0.heap.size ≤ c ∧ ¬ Lv ρ H c

/-- What is held between two operations of a drawn region. -/
structure Inv (P : Program) (ops : Array Oper) (A : List Nat) (ks : List (Option AOp)) (ρ0 : Rho) (H0 : AH) (w0 : World) (a0 : Act)
    (listed listedC : Array Bool) (m : Nat → World → Prop) (a : Act) (w : World) (ρ : Rho) (T : Tr AT) (H : AH) (ls : List LR) (D : Nat → Option Nat) : Prop where
  sz : listed.size = ops.size
  szC : listedC.size = ops.size
  rel : ∀ i, listed.getD i true = (listedC.getD i true || (D i).isSome)
  dis : ∀ i c, D i = some c → listedC.getD i true = false
  sh : Shut A listed
  dd : ∀ i c, D i = some c → DD P ops w0 ρ H a w i c
  inj : ∀ i j c, D i = some c → D j = some c → i = j
  wip : ∀ (i : Nat) (o : Oper) (d : Nat), lateAt ops i = true → listedC.getD i true = false → ops[i]? = some o → o.dst = some d → T.get d = none
  km : ∀ i, KM ks ρ w ls (m i) i
  pm : ∀ i, listed.getD i true = false → ∀ w, m i w
  st : St ρ0 H0 w0 ρ H w
  rt : RT ρ T a.tmps
  tsz : a.tmps.size = a0.tmps.size
  df : a.defers = a0.defers

section
variable {ρ0 : Rho} {H0 : AH} {w0 : World} {a0 : Act} {listed listedC : Array Bool} {m : Nat → World → Prop} {a : Act} {w : World} {ρ : Rho} {T : Tr AT} {H : AH} {ls : List LR} {D : Nat → Option Nat}

theorem Inv.up_of_C (I : Inv P ops A ks ρ0 H0 w0 a0 listed listedC m a w ρ T H ls D) {i : Nat} (h : listedC.getD i false = true) : listed.getD i false = true := by
  have h1 := getD_ft h
  have hlt : i < listedC.size := by
    rcases Nat.lt_or_ge i listedC.size with h' | h'
    · exact h'
    · simp [Array.getElem?_eq_none h'] at h
  refine getD_tt ?_ (by rw [I.sz, ← I.szC]; exact hlt)
  rw [I.rel, h1, Bool.true_or]

theorem Inv.C_of_not (I : Inv P ops A ks ρ0 H0 w0 a0 listed listedC m a w ρ T H ls D) {i : Nat} (h : listed.getD i true = false) : listedC.getD i true = false ∧ D i = none := by
  have := I.rel i
  rw [h] at this
  have h2 := Bool.or_eq_false_iff.1 this.symm
  exact ⟨h2.1, by simpa using h2.2⟩

theorem Inv.ready (I : Inv P ops A ks ρ0 H0 w0 a0 listed listedC m a w ρ T H ls D) {i : Nat} (h : i ∈ Region.ready .any ops listedC) (hD : D i = none) : i ∈ Region.ready .any ops listed := by
  obtain ⟨h0, o, ho, hall⟩ := mem_ready.1 h
  exact mem_ready.2 ⟨by rw [I.rel, h0, hD]; rfl, o, ho, fun e he hb => I.up_of_C (hall e he hb)⟩

theorem Inv.late (I : Inv P ops A ks ρ0 H0 w0 a0 listed listedC m a w ρ T H ls D) {i c : Nat} (h : D i = some c) : lateAt ops i = true := by
  obtain ⟨_, _, _, _, _, _, h1, _⟩ := I.dd i c h
  exact h1

/-- A late one that has not come up may come up. -/
theorem late_ready {l : Array Bool} {i : Nat} (h : lateAt ops i = true) (hl : l.getD i true = false) : i ∈ Region.ready .any ops l := by
  obtain ⟨o, e, d, h1, _, _, _, h5⟩ := late_spec h
  exact mem_ready.2 ⟨hl, o, h1, fun e he hb => by rw [h5 e he] at hb; cases hb⟩

theorem Inv.none_ready (I : Inv P ops A ks ρ0 H0 w0 a0 listed listedC m a w ρ T H ls D) (h : Region.ready .any ops listedC = []) : Region.ready .any ops listed = [] := by
  have hD : ∀ i, D i = none := fun i => by
    cases hd : D i with
    | none => rfl
    | some c =>
      have := late_ready (I.late hd) (I.dis i c hd)
      rw [h] at this
      cases this
  cases hr : Region.ready .any ops listed with
  | nil => rfl
  | cons i l =>
    exfalso
    have hi : i ∈ Region.ready .any ops listed := by rw [hr]; exact List.mem_cons_self
    obtain ⟨h0, o, ho, hall⟩ := mem_ready.1 hi
    have : i ∈ Region.ready .any ops listedC := by
      refine mem_ready.2 ⟨(I.C_of_not h0).1, o, ho, fun e he hb => ?_⟩
      have h1 := hall e he hb
      have h2 := getD_ft h1
      rw [I.rel, hD] at h2
      simp only [Option.isSome_none, Bool.or_false] at h2
      refine getD_tt h2 ?_
      rw [I.szC, ← I.sz]
      rcases Nat.lt_or_ge e.on listed.size with h' | h'
      · exact h'
      · simp [Array.getElem?_eq_none h'] at h1
    rw [h] at this
    cases this

theorem listAll_size : ∀ (is : List Nat) (l : Array Bool), (listAll l is).size = l.size
  | [], _ => rfl
  | i :: is, l => by rw [listAll, listAll_size is]; simp

theorem listAll_get : ∀ (is : List Nat) (l : Array Bool) (i : Nat), (listAll l is).getD i true = (l.getD i true || decide (i ∈ is))
  | [], l, i => by simp [listAll]
  | j :: is, l, i => by
    rw [listAll, listAll_get is]
    rw [getD_set]
    by_cases h : j = i
    · subst h
      by_cases hlt : j < l.size
      · simp [hlt]
      · simp [hlt]
    · simp only [h, false_and, if_false]
      congr 1
      simp [Ne.symm h]

/-- Who may come up, where all late ones but k are thought to have come up: j, or a late one. -/
theorem Inv.alone (I : Inv P ops A ks ρ0 H0 w0 a0 listed listedC m a w ρ T H ls D) {k j : Nat} (ha : aloneA ops listedC k j = true) (hk : D k = none) {i : Nat} (hi : i ∈ Region.ready .any ops listed) : i = j ∨ lateAt ops i = true := by
  cases hl : lateAt ops i
  · left
    obtain ⟨h0, o, ho, hall⟩ := mem_ready.1 hi
    unfold aloneA at ha
    rw [List.all_eq_true] at ha
    have hmem : i ∈ Region.ready .any ops (listAll listedC (lates ops listedC k)) := by
      refine mem_ready.2 ⟨?_, o, ho, fun e he hb => ?_⟩
      · rw [listAll_get, (I.C_of_not h0).1]
        simp [lates, hl]
      · have h1 := hall e he hb
        have hlt : e.on < listed.size := by
          rcases Nat.lt_or_ge e.on listed.size with h' | h'
          · exact h'
          · simp [Array.getElem?_eq_none h'] at h1
        refine getD_tt ?_ (by rw [listAll_size, I.szC, ← I.sz]; exact hlt)
        have h2 := getD_ft h1
        rw [I.rel] at h2
        rw [listAll_get]
        cases hc : listedC.getD e.on true
        · rw [hc] at h2
          simp only [Bool.false_or] at h2 ⊢
          obtain ⟨c, hc'⟩ := Option.isSome_iff_exists.1 h2
          refine decide_eq_true (List.mem_filter.2 ⟨List.mem_range.2 (I.sz ▸ hlt), ?_⟩)
          have hne : e.on ≠ k := fun e' => by rw [e', hk] at hc'; cases hc'
          simp only [I.late hc', I.dis _ _ hc', Bool.not_false, Bool.and_self, Bool.true_and, Bool.not_eq_true', beq_eq_false_iff_ne]
          exact hne
        · rfl
    have := ha i hmem
    simpa [hl] using this
  · exact .inr rfl
end
end
end Go.Ev
