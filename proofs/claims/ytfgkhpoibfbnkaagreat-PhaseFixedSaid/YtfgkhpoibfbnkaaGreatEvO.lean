/-
  Every order of a drawn region, with what the reads that were taken ahead hang on. No conditions.
-/
import Derived.Test.YtfgkhpoibfbnkaaGreatEvN
import Derived.OrdersHeld
namespace Go.Ev

/-- m, but S at number i. -/
def upm (m : Nat → World → Prop) (i : Nat) (S : World → Prop) : Nat → World → Prop := fun j => if j = i then S else m j

theorem upm_same (m : Nat → World → Prop) (i : Nat) (S : World → Prop) : upm m i S i = S := by simp [upm]
theorem upm_ne {m : Nat → World → Prop} {i j : Nat} {S : World → Prop} (h : j ≠ i) : upm m i S j = m j := by simp [upm, h]
theorem upm_comm {m : Nat → World → Prop} {i j : Nat} {S S' : World → Prop} (h : i ≠ j) : upm (upm m i S) j S' = upm (upm m j S') i S := by
  funext k
  unfold upm
  by_cases h1 : k = i <;> by_cases h2 : k = j <;> simp [h1, h2]
  · exact absurd (h1.symm.trans h2) h
  · intro e; exact absurd e h
  · intro e; exact absurd e.symm h

section
variable {P : Program} {ops : Array Oper} {Q : Exit → Act → World → Prop}

/-- Whatever order is picked, and behind each operation what the reads hang on is as it was. -/
def wpAnyM (P : Program) (ops : Array Oper) (Q : Exit → Act → World → Prop) (inc : Nat → Nat → Bool) : Nat → Array Bool → (Nat → World → Prop) → Act → World → Prop
  | 0, listed, _, a, w => Region.ready .any ops listed = [] ∧ Q .normal a w
  | fuel + 1, listed, m, a, w =>
    (Region.ready .any ops listed = [] → Q .normal a w) ∧
    ∀ j ∈ Region.ready .any ops listed, wpOp P ops Q j (fun a' w' => (∀ i, inc j i = true → m i w → m i w') ∧ ∃ S, wpAnyM P ops Q inc fuel (listed.setIfInBounds j true) (upm m j S) a' w') a w

theorem wpAny_of_M {inc : Nat → Nat → Bool} : ∀ (fuel : Nat) (listed : Array Bool) (m : Nat → World → Prop) (a : Act) (w : World), wpAnyM P ops Q inc fuel listed m a w → wpAny P .any ops Q fuel listed a w
  | 0, _, _, _, _, h => h
  | fuel + 1, _, _, _, _, h => ⟨h.1, fun i hi => wpOp_mono (fun a' w' h' => let ⟨_, hS⟩ := h'.2; wpAny_of_M fuel _ _ a' w' hS) (h.2 i hi)⟩

/-- Nobody stands in a list who has somebody before him that is not in it. -/
def Shut (A : List Nat) (listed : Array Bool) : Prop := ∀ x i, listed.getD x false = true → isAnc A x i = true → listed.getD i false = true

theorem fold_bit (A : List Nat) (i : Nat) : ∀ (es : List Edge) (s : Nat), (es.foldl (fun s e => if Region.binds .any e then s ||| 2 ^ e.on ||| A.getD e.on 0 else s) s).testBit i = true →
    s.testBit i = true ∨ ∃ e ∈ es, Region.binds .any e = true ∧ (e.on = i ∨ isAnc A e.on i = true)
  | [], s, h => .inl h
  | e :: es, s, h => by
    simp only [List.foldl_cons] at h
    rcases fold_bit A i es _ h with h | ⟨e', h1, h2⟩
    · by_cases hb : Region.binds .any e = true
      · rw [if_pos hb] at h
        simp only [Nat.testBit_or, Bool.or_eq_true] at h
        rcases h with (h | h) | h
        · exact .inl h
        · refine .inr ⟨e, List.mem_cons_self, hb, .inl ?_⟩
          rw [Nat.testBit_two_pow] at h
          simpa using h
        · exact .inr ⟨e, List.mem_cons_self, hb, .inr h⟩
      · rw [if_neg hb] at h
        exact .inl h
    · exact .inr ⟨e', List.mem_cons_of_mem _ h1, h2⟩

theorem anc_done {A : List Nat} (hA : ancOk ops A = true) {listed : Array Bool} (hs : Shut A listed) {x i : Nat} (hx : x ∈ Region.ready .any ops listed) (ha : isAnc A x i = true) : listed.getD i false = true := by
  obtain ⟨_, o, ho, hall⟩ := mem_ready.1 hx
  have hlt : x < ops.size := (Array.getElem?_eq_some_iff.1 ho).1
  unfold ancOk at hA
  rw [List.all_eq_true] at hA
  have h1 := hA x (List.mem_range.2 hlt)
  simp only [ho, beq_iff_eq] at h1
  unfold isAnc at ha
  rw [h1] at ha
  rcases fold_bit A i _ _ ha with h | ⟨e, he, hb, h⟩
  · simp at h
  · have hd := hall e (by simpa using he) hb
    rcases h with rfl | h
    · exact hd
    · exact hs _ _ hd h

theorem getD_set {listed : Array Bool} {i j : Nat} {d : Bool} : (listed.setIfInBounds i true).getD j d = if i = j ∧ j < listed.size then true else listed.getD j d := by
  by_cases h : i = j
  · subst h
    by_cases hlt : i < listed.size
    · simp [hlt]
    · simp [hlt]
  · simp [Array.getElem?_setIfInBounds_ne h, h]

theorem Shut.set {A : List Nat} (hA : ancOk ops A = true) {listed : Array Bool} (hs : Shut A listed) {x : Nat} (hx : x ∈ Region.ready .any ops listed) : Shut A (listed.setIfInBounds x true) := by
  intro y i hy ha
  apply getD_set_true
  rw [getD_set] at hy
  split at hy
  · rename_i h
    rw [← h.1] at ha
    exact anc_done hA hs hx ha
  · exact hs _ _ hy ha

theorem getD_tf {listed : Array Bool} {i : Nat} (h : listed.getD i true = false) : listed.getD i false = false := by
  rcases Nat.lt_or_ge i listed.size with h' | h'
  · simp [h'] at h ⊢; exact h
  · simp [Array.getElem?_eq_none h']

/-- The reads that may stand before or behind operation j. -/
def incN (A : List Nat) (ks : List (Option AOp)) (j i : Nat) : Bool := readAt ks i && !(i == j) && !isAnc A j i && !isAnc A i j

/-- Number i may be taken ahead. -/
theorem wpAnyM_first {A : List Nat} {ks : List (Option AOp)} (hA : ancOk ops A = true) (hsel : Region.noSelect ops = true) {i : Nat} {oi : Oper} {v : Value} {S : World → Prop} (hi : ops[i]? = some oi)
    (hS : (∀ w, S w) ∨ readAt ks i = true) (hQ : ∀ c a w, ¬ Q (.panic c) a w) :
    ∀ (fuel : Nat) (listed : Array Bool) (m : Nat → World → Prop) (a : Act) (w : World),
      (∀ j oj, ops[j]? = some oj → j ≠ i → listed.getD j true = false → isAnc A j i = false → oi.apart ops oj = true) → Shut A listed →
      i ∈ Region.ready .any ops listed → (∀ w, m i w) → YieldsIf P ops S oi v a → S w →
      wpAnyM P ops Q (incN A ks) fuel (listed.setIfInBounds i true) (upm m i S) (a.put oi.dst v) w → wpAnyM P ops Q (incN A ks) (fuel + 1) listed m a w := by
  intro fuel
  induction fuel with
  | zero =>
    intro listed m a w _ _ hr hm hy hSw H
    refine ⟨fun h => (by rw [h] at hr; cases hr), fun j hj => ?_⟩
    by_cases hji : j = i
    · subst hji; exact hy.wpOp hi hSw ⟨fun _ _ h => h, S, H⟩
    · have := ready_mono hj hji
      rw [H.1] at this
      cases this
  | succ fuel ih =>
    intro listed m a w hfree hsh hr hm hy hSw H
    refine ⟨fun h => (by rw [h] at hr; cases hr), fun j hj => ?_⟩
    by_cases hji : j = i
    · subst hji; exact hy.wpOp hi hSw ⟨fun _ _ h => h, S, H⟩
    · have h1 := H.2 j (ready_mono hj hji)
      obtain ⟨hjun, oj, hoj, hall⟩ := mem_ready.1 hj
      have hiun := (mem_ready.1 hr).1
      have n1 : isAnc A j i = false := by
        cases hb : isAnc A j i
        · rfl
        · have := anc_done hA hsh hj hb
          rw [getD_tf hiun] at this
          cases this
      have n2 : isAnc A i j = false := by
        cases hb : isAnc A i j
        · rfl
        · have := anc_done hA hsh hr hb
          rw [getD_tf hjun] at this
          cases this
      have h2 := wpOp_putIf hoj (hfree j oj hoj hji hjun n1) (fun cs b => Region.noSelect_spec hsel i oi cs b hi) (fun cs b => Region.noSelect_spec hsel j oj cs b hoj) (fun c a w h => absurd h (hQ c _ w)) hy h1
      refine wpOp_mono (fun a' w' h3 => ?_) h2
      obtain ⟨hy', hkeep, S', h4⟩ := h3
      have hS' : S w' := by
        rcases hS with hS | hS
        · exact hS w'
        · have := hkeep i (by simp [incN, hS, n1, n2, Ne.symm hji])
          rw [upm_same] at this
          exact this hSw
      refine ⟨fun k hk hmk => ?_, S', ?_⟩
      · by_cases hki : k = i
        · subst hki; exact hm w'
        · have := hkeep k hk
          rw [upm_ne hki] at this
          exact this hmk
      · refine ih (listed.setIfInBounds j true) (upm m j S') a' w' (fun k ok hk hki hun hno => ?_) (hsh.set hA hj) (ready_mono hr (Ne.symm hji)) (by rw [upm_ne (Ne.symm hji)]; exact hm) hy' hS' ?_
        · refine hfree k ok hk hki ?_ hno
          by_cases hjk : j = k
          · subst hjk; exact hjun
          · rw [getD_set_ne true hjk] at hun; exact hun
        · rw [Array.setIfInBounds_comm _ _ hji, upm_comm hji]
          exact h4
end
end Go.Ev
