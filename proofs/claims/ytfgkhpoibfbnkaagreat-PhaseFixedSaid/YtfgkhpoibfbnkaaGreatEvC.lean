/-
  How the evaluator's memory stands to the model's: the relation, and what reading, writing and making do to it. No conditions.
-/
import Derived.Test.YtfgkhpoibfbnkaaGreatEvB
import Derived.ChangeKeysEq
import Derived.WideKeyRuns
import Derived.Laws.CopyRow
import Derived.Laws.Cells
namespace Go.Ev

/- ### Trees -/

theorem nb0 (i : Nat) : (Nat.beq (Nat.mod i 2) 0) = decide (i % 2 = 0) := by
  by_cases h : i % 2 = 0
  · have h' : Nat.mod i 2 = 0 := h
    simp [h, h']
  · have h' : ¬ Nat.mod i 2 = 0 := h
    simp only [h, decide_false]
    exact Bool.eq_false_iff.2 (fun e => h' (Nat.eq_of_beq_eq_true e))

theorem Tr.get_nil {α : Type} (i : Nat) : (Tr.nil : Tr α).get i = none := rfl

theorem Tr.set_same {α : Type} (x : Option α) : ∀ (k : Nat) (t : Tr α) (i : Nat), i < k → (Tr.set k t i x).get i = x
  | 0, _, _, h => by omega
  | k + 1, t, 0, _ => by cases t <;> simp [Tr.set, Tr.get]
  | k + 1, t, i + 1, h => by
    have hi : Nat.div i 2 < k := by have : Nat.div i 2 = i / 2 := rfl; omega
    cases t with
    | nil =>
      simp only [Tr.set]
      cases hb : Nat.beq (Nat.mod i 2) 0 <;> simp only [cond_true, cond_false, Tr.get, hb] <;> exact Tr.set_same x k _ _ hi
    | node v l r =>
      simp only [Tr.set]
      cases hb : Nat.beq (Nat.mod i 2) 0 <;> simp only [cond_true, cond_false, Tr.get, hb] <;> exact Tr.set_same x k _ _ hi

theorem Tr.set_other {α : Type} (x : Option α) : ∀ (k : Nat) (t : Tr α) (i j : Nat), i ≠ j → (Tr.set k t i x).get j = t.get j
  | 0, _, _, _, _ => rfl
  | k + 1, t, 0, 0, h => absurd rfl h
  | k + 1, t, 0, j + 1, _ => by cases t <;> simp [Tr.set, Tr.get]
  | k + 1, t, i + 1, 0, _ => by
    cases t <;> simp only [Tr.set] <;> cases hb : Nat.beq (Nat.mod i 2) 0 <;> simp [Tr.get]
  | k + 1, t, i + 1, j + 1, h => by
    have key : Nat.beq (Nat.mod i 2) 0 = Nat.beq (Nat.mod j 2) 0 → Nat.div i 2 ≠ Nat.div j 2 := by
      rw [nb0, nb0]
      intro e hd
      have hd' : i / 2 = j / 2 := hd
      have e' : (i % 2 = 0) ↔ (j % 2 = 0) := by simpa using e
      omega
    cases t with
    | nil =>
      simp only [Tr.set]
      cases hi : Nat.beq (Nat.mod i 2) 0 <;> cases hj : Nat.beq (Nat.mod j 2) 0 <;> simp only [cond_true, cond_false, Tr.get, hj]
      · rw [Tr.set_other x k _ _ _ (key (hi.trans hj.symm)), Tr.get_nil]
      · rw [Tr.set_other x k _ _ _ (key (hi.trans hj.symm)), Tr.get_nil]
    | node v l r =>
      simp only [Tr.set]
      cases hi : Nat.beq (Nat.mod i 2) 0 <;> cases hj : Nat.beq (Nat.mod j 2) 0 <;> simp only [cond_true, cond_false, Tr.get, hj]
      · exact Tr.set_other x k _ _ _ (key (hi.trans hj.symm))
      · exact Tr.set_other x k _ _ _ (key (hi.trans hj.symm))

theorem Tr.get_put {α : Type} (t : Tr α) (i j : Nat) (x : Option α) : (t.put i x).get j = if i = j then x else t.get j := by
  unfold Tr.put
  by_cases h : i = j
  · subst h
    rw [if_pos rfl, Tr.set_same x _ t i (Nat.lt_succ_self i)]
  · rw [if_neg h, Tr.set_other x _ t i j h]

theorem fz_eq {α : Type} (n : Nat) (k : Nat → α) : fz n k = k n := by cases n <;> rfl
theorem fzF_eq {α : Type} (x : AF) (k : AF → α) : fzF x k = k x := by cases x <;> simp [fzF, fz_eq]
theorem fzI_eq {α : Type} (n : Int) (k : Int → α) : fzI n k = k n := by cases n <;> simp [fzI, fz_eq]
theorem fzO_eq {α : Type} (x : Option Nat) (k : Option Nat → α) : fzO x k = k x := by cases x <;> simp [fzO, fz_eq]
theorem fzC_eq {α : Type} (x : AC) (k : AC → α) : fzC x k = k x := by
  cases x <;> simp [fzC, fz_eq, fzF_eq, fzI_eq, fzO_eq]
  · rename_i b; cases b <;> rfl
theorem fzL_eq {α : Type} : ∀ (x : List AC) (k : List AC → α), fzL x k = k x
  | [], _ => rfl
  | x :: r, k => by simp [fzL, fzC_eq, fzL_eq r]
theorem fzV_eq {α : Type} (x : AV) (k : AV → α) : fzV x k = k x := by cases x <;> simp [fzV, fzC_eq, fzL_eq]
theorem fzVs_eq {α : Type} : ∀ (x : List AV) (k : List AV → α), fzVs x k = k x
  | [], _ => rfl
  | x :: r, k => by simp [fzVs, fzV_eq, fzVs_eq r]
theorem fzT_eq {α : Type} (x : AT) (k : AT → α) : fzT x k = k x := by cases x <;> simp [fzT, fzV_eq, fzVs_eq]

/- ### Lists -/

theorem lay_spec : ∀ (cs : List AC) (off : Nat) (xs r : List AC), lay cs off xs = some r → off + xs.length ≤ cs.length ∧ r = cs.take off ++ xs ++ cs.drop (off + xs.length)
  | cs, 0, [], r, h => by
    cases cs <;> simp [lay] at h <;> subst h <;> simp
  | c :: cs, 0, x :: xs, r, h => by
    simp only [lay] at h
    split at h
    · rename_i r' hr
      obtain ⟨h1, h2⟩ := lay_spec cs 0 xs r' hr
      simp at h
      subst h
      subst h2
      simp at h1 ⊢
      exact h1
    · cases h
  | [], 0, _ :: _, _, h => by simp [lay] at h
  | c :: cs, i + 1, xs, r, h => by
    simp only [lay] at h
    split at h
    · rename_i r' hr
      obtain ⟨h1, h2⟩ := lay_spec cs i xs r' hr
      simp at h
      subst h
      subst h2
      refine ⟨by simp; omega, ?_⟩
      rw [show i + 1 + xs.length = (i + xs.length) + 1 from by omega]
      simp
    · cases h
  | [], i + 1, xs, _, h => by simp [lay] at h

theorem cut_spec : ∀ (cs : List AC) (off n : Nat) (r : List AC), cut cs off n = some r → off + n ≤ cs.length ∧ r = (cs.drop off).take n
  | cs, 0, 0, r, h => by
    cases cs <;> simp [cut] at h <;> subst h <;> simp
  | c :: cs, 0, n + 1, r, h => by
    simp only [cut] at h
    split at h
    · rename_i r' hr
      obtain ⟨h1, h2⟩ := cut_spec cs 0 n r' hr
      simp at h
      subst h
      subst h2
      simp at h1 ⊢
      exact h1
    · cases h
  | [], 0, _ + 1, _, h => by simp [cut] at h
  | c :: cs, i + 1, n, r, h => by
    simp only [cut] at h
    obtain ⟨h1, h2⟩ := cut_spec cs i n r h
    exact ⟨by simp; omega, by simpa using h2⟩
  | [], i + 1, n, _, h => by simp [cut] at h

theorem at?_eq : ∀ (cs : List AC) (i : Nat), at? cs i = cs[i]?
  | [], _ => rfl
  | c :: cs, 0 => rfl
  | c :: cs, i + 1 => by simpa [at?] using at?_eq cs i

theorem memN_iff : ∀ (l : List Nat) (i : Nat), memN l i = true ↔ i ∈ l
  | [], i => by simp [memN]
  | x :: r, i => by
    simp only [memN]
    cases hb : Nat.beq x i
    · have hne : x ≠ i := fun e => by subst e; simp at hb
      simp only [cond_false, memN_iff r i, List.mem_cons]
      exact ⟨.inr, fun h => h.resolve_left (Ne.symm hne)⟩
    · simp [Nat.eq_of_beq_eq_true hb]

theorem memN_false {l : List Nat} {i : Nat} : memN l i = false ↔ i ∉ l := by
  rw [← memN_iff]; simp

/-- Two lists, one behind the other, of related things. -/
inductive All2 {α β : Type} (R : α → β → Prop) : List α → List β → Prop where
  | nil : All2 R [] []
  | cons {a : α} {b : β} {l : List α} {m : List β} : R a b → All2 R l m → All2 R (a :: l) (b :: m)

namespace All2
variable {α β : Type} {R S : α → β → Prop}
theorem length {l : List α} {m : List β} (h : All2 R l m) : l.length = m.length := by
  induction h with
  | nil => rfl
  | cons _ _ ih => simp [ih]
theorem mono {l : List α} {m : List β} (h : All2 R l m) (hm : ∀ a b, R a b → S a b) : All2 S l m := by
  induction h with
  | nil => exact .nil
  | cons h0 _ ih => exact .cons (hm _ _ h0) ih
theorem append {l l' : List α} {m m' : List β} (h : All2 R l m) (h' : All2 R l' m') : All2 R (l ++ l') (m ++ m') := by
  induction h with
  | nil => exact h'
  | cons h0 _ ih => exact .cons h0 ih
theorem take {l : List α} {m : List β} (h : All2 R l m) : ∀ n, All2 R (l.take n) (m.take n) := by
  induction h with
  | nil => intro n; simp; exact .nil
  | cons h0 _ ih => intro n; cases n <;> simp <;> first | exact .nil | exact .cons h0 (ih _)
theorem drop {l : List α} {m : List β} (h : All2 R l m) : ∀ n, All2 R (l.drop n) (m.drop n) := by
  induction h with
  | nil => intro n; simp; exact .nil
  | cons h0 h1 ih => intro n; cases n <;> simp <;> first | exact .cons h0 h1 | exact ih _
theorem get {l : List α} {m : List β} (h : All2 R l m) : ∀ {i : Nat} {a : α}, l[i]? = some a → ∃ b, m[i]? = some b ∧ R a b := by
  induction h with
  | nil => intro i a hi; simp at hi
  | cons h0 _ ih =>
    intro i a hi
    cases i with
    | zero => simp at hi; subst hi; exact ⟨_, rfl, h0⟩
    | succ i => simpa using ih (by simpa using hi)
theorem get' {l : List α} {m : List β} (h : All2 R l m) : ∀ {i : Nat} {b : β}, m[i]? = some b → ∃ a, l[i]? = some a ∧ R a b := by
  induction h with
  | nil => intro i a hi; simp at hi
  | cons h0 _ ih =>
    intro i a hi
    cases i with
    | zero => simp at hi; subst hi; exact ⟨_, rfl, h0⟩
    | succ i => simpa using ih (by simpa using hi)
theorem nil_iff {m : List β} : All2 R [] m ↔ m = [] := ⟨fun h => by cases h; rfl, fun h => h ▸ .nil⟩
end All2

/- ### Values -/

abbrev Rho := Nat → Option (Nat × Nat)

def RF : AF → Nat → Prop
  | .f b, n => n = b
  | .nan, n => (FloatKind.f64.decode n).isNaN = true

def RPtr (ρ : Rho) (p : Nat × Nat) (v : Value) : Prop := ∃ c m, ρ p.1 = some (c, m) ∧ v = .pointer (some ⟨c, p.2, none⟩)

def RC (ρ : Rho) : AC → Value → Prop
  | .bool b, v => v = .bool b
  | .int k n, v => v = .int k n
  | .flt x, v => ∃ n, RF x n ∧ v = .float .f64 n
  | .cpx x y, v => ∃ n m, RF x n ∧ RF y m ∧ v = .complex .f64 n m
  | .nilp, v => v = .pointer none
  | .ptr b o, v => RPtr ρ (b, o) v
  | .nils, v => v = .slice none 0 0
  | .sl b o l cap, v => ∃ c m k, ρ b = some (c, m) ∧ v = .slice (some ⟨c, o, none⟩) l k ∧ l ≤ k ∧ ∀ k', cap = some k' → k = k'
  | .osl b l z, v => ∃ c m k, ρ b = some (c, m) ∧ v = .slice (some ⟨c, 0, none⟩) l k ∧ l ≤ k ∧ k * z ≤ m
  | .nilm, v => v = .map none
  | .map b, v => ∃ c m, ρ b = some (c, m) ∧ v = .map (some c)
  | .fn f caps, v => ∃ vs : List Value, v = .func (.func f) #[] vs.toArray ∧ All2 (RPtr ρ) caps vs
  | .nilf, v => v = .nilFunc

def RCs (ρ : Rho) : List AC → List Value → Prop := All2 (RC ρ)

def RV (ρ : Rho) : AV → Value → Prop
  | .c x, v => RC ρ x v
  | .agg xs, v => ∃ vs : List Value, v = .agg vs.toArray ∧ RCs ρ xs vs

def R1 (ρ : Rho) : AT → Value → Prop
  | .v x, v => RV ρ x v
  | .tup xs, v => ∃ vs : List Value, v = .tuple vs.toArray ∧ All2 (RV ρ) xs vs

def RT (ρ : Rho) (T : Tr AT) (t : Array Value) : Prop := ∀ i x, T.get i = some x → ∃ v, t[i]? = some v ∧ R1 ρ x v

def Ext (ρ ρ' : Rho) : Prop := ∀ i x, ρ i = some x → ρ' i = some x

theorem Ext.refl (ρ : Rho) : Ext ρ ρ := fun _ _ h => h
theorem Ext.trans {a b c : Rho} (h : Ext a b) (h' : Ext b c) : Ext a c := fun i x hx => h' i x (h i x hx)

theorem RPtr.ext {ρ ρ' : Rho} (h : Ext ρ ρ') {p : Nat × Nat} {v : Value} (hv : RPtr ρ p v) : RPtr ρ' p v := by
  obtain ⟨c, m, hc, rfl⟩ := hv
  exact ⟨c, m, h _ _ hc, rfl⟩

theorem RC.ext {ρ ρ' : Rho} (h : Ext ρ ρ') {x : AC} {v : Value} (hv : RC ρ x v) : RC ρ' x v := by
  cases x <;> simp only [RC] at hv ⊢
  case ptr => exact hv.ext h
  case sl => obtain ⟨c, m, k, hc, r⟩ := hv; exact ⟨c, m, k, h _ _ hc, r⟩
  case osl => obtain ⟨c, m, k, hc, r⟩ := hv; exact ⟨c, m, k, h _ _ hc, r⟩
  case map => obtain ⟨c, m, hc, r⟩ := hv; exact ⟨c, m, h _ _ hc, r⟩
  case fn => obtain ⟨vs, rfl, hvs⟩ := hv; exact ⟨vs, rfl, hvs.mono fun _ _ => RPtr.ext h⟩
  all_goals exact hv

theorem RCs.ext {ρ ρ' : Rho} (h : Ext ρ ρ') {x : List AC} {v : List Value} (hv : RCs ρ x v) : RCs ρ' x v := All2.mono hv fun _ _ => RC.ext h

theorem RV.ext {ρ ρ' : Rho} (h : Ext ρ ρ') {x : AV} {v : Value} (hv : RV ρ x v) : RV ρ' x v := by
  cases x with
  | c x => exact RC.ext h hv
  | agg xs => obtain ⟨vs, rfl, hvs⟩ := hv; exact ⟨vs, rfl, hvs.ext h⟩

theorem R1.ext {ρ ρ' : Rho} (h : Ext ρ ρ') {x : AT} {v : Value} (hv : R1 ρ x v) : R1 ρ' x v := by
  cases x with
  | v x => exact RV.ext h hv
  | tup xs => obtain ⟨vs, rfl, hvs⟩ := hv; exact ⟨vs, rfl, hvs.mono fun _ _ => RV.ext h⟩

theorem RT.ext {ρ ρ' : Rho} (h : Ext ρ ρ') {T : Tr AT} {t : Array Value} (ht : RT ρ T t) : RT ρ' T t := fun i x hx =>
  let ⟨v, hv, hr⟩ := ht i x hx
  ⟨v, hv, hr.ext h⟩

theorem RC.one {ρ : Rho} {x : AC} {v : Value} (h : RC ρ x v) : v.oneCell' = true := by
  cases x <;> simp only [RC, RPtr] at h
  case flt => obtain ⟨n, _, rfl⟩ := h; rfl
  case cpx => obtain ⟨n, m, _, _, rfl⟩ := h; rfl
  case ptr => obtain ⟨c, m, _, rfl⟩ := h; rfl
  case sl => obtain ⟨c, m, k, _, rfl, _⟩ := h; rfl
  case osl => obtain ⟨c, m, k, _, rfl, _⟩ := h; rfl
  case map => obtain ⟨c, m, _, rfl⟩ := h; rfl
  case fn => obtain ⟨vs, rfl, _⟩ := h; rfl
  all_goals (subst h; rfl)

theorem RC.cells {ρ : Rho} {x : AC} {v : Value} (h : RC ρ x v) : v.cells = #[v] := by
  have := h.one
  cases v <;> simp_all [Value.cells, Value.oneCell']

theorem RCs.one {ρ : Rho} {xs : List AC} {vs : List Value} (h : RCs ρ xs vs) : ∀ v ∈ vs, v.oneCell' = true := by
  induction h with
  | nil => simp
  | cons h0 _ ih => simp only [List.mem_cons, forall_eq_or_imp]; exact ⟨h0.one, ih⟩

theorem RV.cells {ρ : Rho} {x : AV} {v : Value} (h : RV ρ x v) : RCs ρ x.cells v.cells.toList := by
  cases x with
  | c x => rw [RC.cells h]; exact .cons h .nil
  | agg xs => obtain ⟨vs, rfl, hvs⟩ := h; simpa [Value.cells, AV.cells] using hvs

/- ### Memory -/

def RE (ρ : Rho) (e : AV × AV) (m : MapEntry) : Prop := RV ρ e.1 m.key ∧ RV ρ e.2 m.val

def RO (ρ : Rho) (m : Nat) : AO → Obj → Prop
  | .cells xs full, o => ∃ (arr : Array Value) (e : TypeId) (pre rest : List Value), o = .cells arr e (0, 0) ∧ arr.size = m ∧ arr.toList = pre ++ rest ∧ RCs ρ xs pre ∧ (full = true → rest = [])
  | .map es, o => ∃ ens : Array MapEntry, o = .map ens ens.size ∧ All2 (RE ρ) es ens.toList ∧ ∀ (i : Nat) (e : MapEntry), ens[i]? = some e → e.born = i

theorem RE.ext {ρ ρ' : Rho} (h : Ext ρ ρ') {e : AV × AV} {m : MapEntry} (he : RE ρ e m) : RE ρ' e m := ⟨he.1.ext h, he.2.ext h⟩

theorem RO.ext {ρ ρ' : Rho} (h : Ext ρ ρ') {m : Nat} {x : AO} {o : Obj} (ho : RO ρ m x o) : RO ρ' m x o := by
  cases x with
  | cells xs full => obtain ⟨arr, e, pre, rest, h1, h2, h3, h4, h5⟩ := ho; exact ⟨arr, e, pre, rest, h1, h2, h3, h4.ext h, h5⟩
  | map es => obtain ⟨ens, h1, h2, h3⟩ := ho; exact ⟨ens, h1, h2.mono fun _ _ => RE.ext h, h3⟩

structure RH (ρ : Rho) (H : AH) (w : World) : Prop where
  blk : ∀ i o, H.t.get i = some o → ∃ c m obj, ρ i = some (c, m) ∧ w.heap[c]? = some obj ∧ RO ρ m o obj
  inj : ∀ i j o o' c m m', H.t.get i = some o → H.t.get j = some o' → ρ i = some (c, m) → ρ j = some (c, m') → i = j
  fresh : ∀ i, H.n ≤ i → ρ i = none

/-- What may be written: the living blocks that nobody keeps. -/
def Wr (ρ : Rho) (H : AH) (c : Nat) : Prop := ∃ i o m, H.t.get i = some o ∧ i ∉ H.p ∧ ρ i = some (c, m)

/-- What lives. -/
def Lv (ρ : Rho) (H : AH) (c : Nat) : Prop := ∃ i o m, H.t.get i = some o ∧ ρ i = some (c, m)

/-- From one state to a later one: what was known is known; what was not the evaluator's to write is as it was. -/
structure St (ρ : Rho) (H : AH) (w : World) (ρ' : Rho) (H' : AH) (w' : World) : Prop where
  ext : Ext ρ ρ'
  rh : RH ρ' H' w'
  p : H'.p = H.p
  frame : ∀ c, c < w.heap.size → ¬ Wr ρ H c → w'.heap[c]? = w.heap[c]?
  own : ∀ c, Wr ρ' H' c → w.heap.size ≤ c ∨ Wr ρ H c
  live : ∀ c, Lv ρ' H' c → w.heap.size ≤ c ∨ Lv ρ H c
  os : w'.os = w.os
  tape : w'.tape = w.tape
  output : w'.output = w.output
  size : w.heap.size ≤ w'.heap.size

theorem St.refl {ρ : Rho} {H : AH} {w : World} (h : RH ρ H w) : St ρ H w ρ H w :=
  ⟨Ext.refl ρ, h, rfl, fun _ _ _ => rfl, fun _ hc => .inr hc, fun _ hc => .inr hc, rfl, rfl, rfl, Nat.le_refl _⟩

theorem St.trans {ρ ρ₁ ρ₂ : Rho} {H H₁ H₂ : AH} {w w₁ w₂ : World} (a : St ρ H w ρ₁ H₁ w₁) (b : St ρ₁ H₁ w₁ ρ₂ H₂ w₂) : St ρ H w ρ₂ H₂ w₂ where
  ext := a.ext.trans b.ext
  rh := b.rh
  p := b.p.trans a.p
  frame := fun c hc hw => by
    rw [b.frame c (Nat.lt_of_lt_of_le hc a.size) (fun h => ?_), a.frame c hc hw]
    rcases a.own c h with h' | h'
    · omega
    · exact hw h'
  own := fun c hc => by
    rcases b.own c hc with h | h
    · exact .inl (Nat.le_trans a.size h)
    · exact a.own c h
  live := fun c hc => by
    rcases b.live c hc with h | h
    · exact .inl (Nat.le_trans a.size h)
    · exact a.live c h
  os := b.os.trans a.os
  tape := b.tape.trans a.tape
  output := b.output.trans a.output
  size := Nat.le_trans a.size b.size

theorem RH.drew {ρ : Rho} {H : AH} {w : World} (h : RH ρ H w) : RH ρ H w.drew := ⟨h.blk, h.inj, h.fresh⟩

theorem St.drew {ρ ρ' : Rho} {H H' : AH} {w w' : World} (h : St ρ H w ρ' H' w') : St ρ H w ρ' H' w'.drew :=
  ⟨h.ext, h.rh.drew, h.p, h.frame, h.own, h.live, h.os, h.tape, h.output, h.size⟩

theorem RH.lt {ρ : Rho} {H : AH} {w : World} (h : RH ρ H w) {i : Nat} {o : AO} {c m : Nat} (hi : H.t.get i = some o) (hc : ρ i = some (c, m)) : c < w.heap.size := by
  obtain ⟨c', m', obj, h1, h2, _⟩ := h.blk i o hi
  rw [hc] at h1
  obtain ⟨rfl, rfl⟩ := by simpa using h1
  exact (Array.getElem?_eq_some_iff.1 h2).1

/-- One block more. -/
def up (ρ : Rho) (i : Nat) (x : Nat × Nat) : Rho := fun j => if j = i then some x else ρ j

theorem up_ext {ρ : Rho} {i : Nat} {x : Nat × Nat} (h : ρ i = none) : Ext ρ (up ρ i x) := fun j y hy => by
  unfold up
  split
  · rename_i e; subst e; rw [h] at hy; cases hy
  · exact hy

theorem AH.new_eq (H : AH) (o : AO) : H.new o = { t := H.t.put H.n (some o), n := H.n + 1, p := H.p } := by
  unfold AH.new; rw [fz_eq]

/-- A block at number H.n, which stands at 'c' in the model's memory: a new one there, or one that a dead number had. -/
theorem RH.bind {ρ : Rho} {H : AH} {w : World} {o : AO} {c m : Nat} {obj : Obj} (h : RH ρ H w) (hc : w.heap[c]? = some obj) (ho : RO ρ m o obj)
    (hfree : ∀ i o m, H.t.get i = some o → ρ i ≠ some (c, m)) : RH (up ρ H.n (c, m)) (H.new o) w := by
  have hn : ρ H.n = none := h.fresh _ (Nat.le_refl _)
  have hx := up_ext (x := (c, m)) hn
  have hold : ∀ i, i ≠ H.n → up ρ H.n (c, m) i = ρ i := fun i hi => by unfold up; rw [if_neg hi]
  have hnew : up ρ H.n (c, m) H.n = some (c, m) := by unfold up; rw [if_pos rfl]
  rw [AH.new_eq]
  refine ⟨fun i o' hi => ?_, fun i j o1 o2 c' m1 m2 hi hj hci hcj => ?_, fun i hi => ?_⟩
  · simp only [Tr.get_put] at hi
    split at hi
    · rename_i e
      subst e
      simp at hi
      subst hi
      exact ⟨c, m, obj, hnew, hc, ho.ext hx⟩
    · rename_i e
      obtain ⟨c', m', obj', h1, h2, h3⟩ := h.blk i o' hi
      exact ⟨c', m', obj', hx _ _ h1, h2, h3.ext hx⟩
  · simp only [Tr.get_put] at hi hj
    by_cases ei : H.n = i
    · by_cases ej : H.n = j
      · exact ei.symm.trans ej
      · rw [if_neg ej] at hj
        rw [hold j (Ne.symm ej)] at hcj
        rw [← ei, hnew] at hci
        obtain ⟨rfl, rfl⟩ : c = c' ∧ m = m1 := by simpa using hci
        exact absurd hcj (hfree j _ _ hj)
    · rw [if_neg ei] at hi
      rw [hold i (Ne.symm ei)] at hci
      by_cases ej : H.n = j
      · rw [← ej, hnew] at hcj
        obtain ⟨rfl, rfl⟩ : c = c' ∧ m = m2 := by simpa using hcj
        exact absurd hci (hfree i _ _ hi)
      · rw [if_neg ej] at hj
        rw [hold j (Ne.symm ej)] at hcj
        exact h.inj i j o1 o2 c' m1 m2 hi hj hci hcj
  · have : H.n + 1 ≤ i := hi
    rw [hold i (by omega)]
    exact h.fresh i (by omega)

theorem RH.alloc {ρ : Rho} {H : AH} {w : World} (h : RH ρ H w) (obj : Obj) : RH ρ H (w.alloc obj) := by
  refine ⟨fun i o hi => ?_, h.inj, h.fresh⟩
  obtain ⟨c, m, obj', h1, h2, h3⟩ := h.blk i o hi
  refine ⟨c, m, obj', h1, ?_, h3⟩
  have hlt := (Array.getElem?_eq_some_iff.1 h2).1
  simp only [World.alloc, Array.getElem?_push]
  rw [if_neg (by omega)]
  exact h2

/-- A new block. -/
theorem St.new {ρ : Rho} {H : AH} {w : World} {o : AO} {m : Nat} {obj : Obj} (h : RH ρ H w) (ho : RO ρ m o obj) :
    St ρ H w (up ρ H.n (w.heap.size, m)) (H.new o) (w.alloc obj) := by
  have hn : ρ H.n = none := h.fresh _ (Nat.le_refl _)
  have hfree : ∀ i o m, H.t.get i = some o → ρ i ≠ some (w.heap.size, m) := fun i o m hi e => absurd (h.lt hi e) (Nat.lt_irrefl _)
  refine ⟨up_ext hn, (h.alloc obj).bind (by show (w.heap.push obj)[w.heap.size]? = some obj; simp) ho hfree, by rw [AH.new_eq], fun c hc _ => ?_, fun c hw => ?_, fun c hw => ?_, rfl, rfl, rfl, by simp⟩
  · simp only [World.alloc, Array.getElem?_push]
    rw [if_neg (by omega)]
  · obtain ⟨i, o', m', hi, hp, hc⟩ := hw
    rw [AH.new_eq] at hi hp
    simp only [Tr.get_put] at hi
    unfold up at hc
    by_cases e : i = H.n
    · rw [if_pos e] at hc
      obtain ⟨rfl, rfl⟩ : w.heap.size = c ∧ m = m' := by simpa using hc
      exact .inl (Nat.le_refl _)
    · rw [if_neg e] at hc
      rw [if_neg (Ne.symm e)] at hi
      exact .inr ⟨i, o', m', hi, hp, hc⟩
  · obtain ⟨i, o', m', hi, hc⟩ := hw
    rw [AH.new_eq] at hi
    simp only [Tr.get_put] at hi
    unfold up at hc
    by_cases e : i = H.n
    · rw [if_pos e] at hc
      obtain ⟨rfl, rfl⟩ : w.heap.size = c ∧ m = m' := by simpa using hc
      exact .inl (Nat.le_refl _)
    · rw [if_neg e] at hc
      rw [if_neg (Ne.symm e)] at hi
      exact .inr ⟨i, o', m', hi, hc⟩

end Go.Ev
