/- How the evaluator's memory stands to the model's. No conditions.
-/
import Derived.Test.YtepeiijjldpcpaaGreatSvFa
import Derived.ChangeKeysEq
import Derived.WideKeyRuns
import Derived.Laws.CopyRow
import Derived.Laws.Cells
set_option linter.all false
namespace Go.Sv

/- ### Trees -/

theorem nb0 (i : Nat) : (Nat.beq (Nat.mod i 2) 0) = decide (i % 2 = 0) := by
  by_cases h : i % 2 = 0
  · have h' : Nat.mod i 2 = 0 := h
    simp [h, h']
  · have h' : ¬ Nat.mod i 2 = 0 := h
    simp only [h, decide_false]
    exact Bool.eq_false_iff.2 (fun e => h' (Nat.eq_of_beq_eq_true e))

theorem Tr.get_nil {α : Type} (i : Nat) : (Tr.nil : Tr α).get i = none := rfl

theorem Tr.set_same {α : Type} (x : Option α) : ∀ (k : Nat) (t : Tr α) (i : Nat), i < k → (Tr.set k t i x).get i = x
  | 0, _, _, h => by omega
  | k + 1, t, 0, _ => by cases t <;> simp [Tr.set, Tr.get]
  | k + 1, t, i + 1, h => by
    have hi : Nat.div i 2 < k := by have : Nat.div i 2 = i / 2 := rfl; omega
    cases t with
    | nil =>
      simp only [Tr.set]
      cases hb : Nat.beq (Nat.mod i 2) 0 <;> simp only [cond_true, cond_false, Tr.get, hb] <;> exact Tr.set_same x k _ _ hi
    | node v l r =>
      simp only [Tr.set]
      cases hb : Nat.beq (Nat.mod i 2) 0 <;> simp only [cond_true, cond_false, Tr.get, hb] <;> exact Tr.set_same x k _ _ hi

theorem Tr.set_other {α : Type} (x : Option α) : ∀ (k : Nat) (t : Tr α) (i j : Nat), i ≠ j → (Tr.set k t i x).get j = t.get j
  | 0, _, _, _, _ => rfl
  | k + 1, t, 0, 0, h => absurd rfl h
  | k + 1, t, 0, j + 1, _ => by cases t <;> simp [Tr.set, Tr.get]
  | k + 1, t, i + 1, 0, _ => by
    cases t <;> simp only [Tr.set] <;> cases hb : Nat.beq (Nat.mod i 2) 0 <;> simp [Tr.get]
  | k + 1, t, i + 1, j + 1, h => by
    have key : Nat.beq (Nat.mod i 2) 0 = Nat.beq (Nat.mod j 2) 0 → Nat.div i 2 ≠ Nat.div j 2 := by
      rw [nb0, nb0]
      intro e hd
      have hd' : i / 2 = j / 2 := hd
      have e' : (i % 2 = 0) ↔ (j % 2 = 0) := by simpa using e
      omega
    cases t with
    | nil =>
      simp only [Tr.set]
      cases hi : Nat.beq (Nat.mod i 2) 0 <;> cases hj : Nat.beq (Nat.mod j 2) 0 <;> simp only [cond_true, cond_false, Tr.get, hj]
      · rw [Tr.set_other x k _ _ _ (key (hi.trans hj.symm)), Tr.get_nil]
      · rw [Tr.set_other x k _ _ _ (key (hi.trans hj.symm)), Tr.get_nil]
    | node v l r =>
      simp only [Tr.set]
      cases hi : Nat.beq (Nat.mod i 2) 0 <;> cases hj : Nat.beq (Nat.mod j 2) 0 <;> simp only [cond_true, cond_false, Tr.get, hj]
      · exact Tr.set_other x k _ _ _ (key (hi.trans hj.symm))
      · exact Tr.set_other x k _ _ _ (key (hi.trans hj.symm))

theorem Tr.get_put {α : Type} (t : Tr α) (i j : Nat) (x : Option α) : (t.put i x).get j = if i = j then x else t.get j := by
  unfold Tr.put
  by_cases h : i = j
  · subst h
    rw [if_pos rfl, Tr.set_same x _ t i (Nat.lt_succ_self i)]
  · rw [if_neg h, Tr.set_other x _ t i j h]

theorem fzF_eq {α : Type} (x : AF) (k : AF → α) : fzF x k = k x := by cases x <;> simp [fzF, fz_eq]
theorem fzI_eq {α : Type} (n : Int) (k : Int → α) : fzI n k = k n := by cases n <;> simp [fzI, fz_eq]
theorem fzO_eq {α : Type} (x : Option Nat) (k : Option Nat → α) : fzO x k = k x := by cases x <;> simp [fzO, fz_eq]
theorem fzC_eq {α : Type} (x : AC) (k : AC → α) : fzC x k = k x := by
  cases x <;> simp [fzC, fz_eq, fzF_eq, fzI_eq, fzO_eq]
  · rename_i b; cases b <;> rfl
theorem fzL_eq {α : Type} : ∀ (x : List AC) (k : List AC → α), fzL x k = k x
  | [], _ => rfl
  | x :: r, k => by simp [fzL, fzC_eq, fzL_eq r]
theorem fzV_eq {α : Type} (x : AV) (k : AV → α) : fzV x k = k x := by cases x <;> simp [fzV, fzC_eq, fzL_eq]
theorem fzVs_eq {α : Type} : ∀ (x : List AV) (k : List AV → α), fzVs x k = k x
  | [], _ => rfl
  | x :: r, k => by simp [fzVs, fzV_eq, fzVs_eq r]
theorem fzT_eq {α : Type} (x : AT) (k : AT → α) : fzT x k = k x := by cases x <;> simp [fzT, fzV_eq, fzVs_eq]

/- ### Lists -/

theorem lay_spec : ∀ (cs : List AC) (off : Nat) (xs r : List AC), lay cs off xs = some r → off + xs.length ≤ cs.length ∧ r = cs.take off ++ xs ++ cs.drop (off + xs.length)
  | cs, 0, [], r, h => by
    cases cs <;> simp [lay] at h <;> subst h <;> simp
  | c :: cs, 0, x :: xs, r, h => by
    simp only [lay] at h
    split at h
    · rename_i r' hr
      obtain ⟨h1, h2⟩ := lay_spec cs 0 xs r' hr
      simp at h
      subst h
      subst h2
      simp at h1 ⊢
      exact h1
    · cases h
  | [], 0, _ :: _, _, h => by simp [lay] at h
  | c :: cs, i + 1, xs, r, h => by
    simp only [lay] at h
    split at h
    · rename_i r' hr
      obtain ⟨h1, h2⟩ := lay_spec cs i xs r' hr
      simp at h
      subst h
      subst h2
      refine ⟨by simp; omega, ?_⟩
      rw [show i + 1 + xs.length = (i + xs.length) + 1 from by omega]
      simp
    · cases h
  | [], i + 1, xs, _, h => by simp [lay] at h

theorem cut_spec : ∀ (cs : List AC) (off n : Nat) (r : List AC), cut cs off n = some r → off + n ≤ cs.length ∧ r = (cs.drop off).take n
  | cs, 0, 0, r, h => by
    cases cs <;> simp [cut] at h <;> subst h <;> simp
  | c :: cs, 0, n + 1, r, h => by
    simp only [cut] at h
    split at h
    · rename_i r' hr
      obtain ⟨h1, h2⟩ := cut_spec cs 0 n r' hr
      simp at h
      subst h
      subst h2
      simp at h1 ⊢
      exact h1
    · cases h
  | [], 0, _ + 1, _, h => by simp [cut] at h
  | c :: cs, i + 1, n, r, h => by
    simp only [cut] at h
    obtain ⟨h1, h2⟩ := cut_spec cs i n r h
    exact ⟨by simp; omega, by simpa using h2⟩
  | [], i + 1, n, _, h => by simp [cut] at h

theorem at?_eq : ∀ (cs : List AC) (i : Nat), at? cs i = cs[i]?
  | [], _ => rfl
  | c :: cs, 0 => rfl
  | c :: cs, i + 1 => by simpa [at?] using at?_eq cs i

theorem memN_iff : ∀ (l : List Nat) (i : Nat), memN l i = true ↔ i ∈ l
  | [], i => by simp [memN]
  | x :: r, i => by
    simp only [memN]
    cases hb : Nat.beq x i
    · have hne : x ≠ i := fun e => by subst e; simp at hb
      simp only [cond_false, memN_iff r i, List.mem_cons]
      exact ⟨.inr, fun h => h.resolve_left (Ne.symm hne)⟩
    · simp [Nat.eq_of_beq_eq_true hb]

theorem memN_false {l : List Nat} {i : Nat} : memN l i = false ↔ i ∉ l := by
  rw [← memN_iff]; simp

/-- Two lists, one behind the other, of related things. -/
inductive All2 {α β : Type} (R : α → β → Prop) : List α → List β → Prop where
  | nil : All2 R [] []
  | cons {a : α} {b : β} {l : List α} {m : List β} : R a b → All2 R l m → All2 R (a :: l) (b :: m)

namespace All2
variable {α β : Type} {R S : α → β → Prop}
theorem length {l : List α} {m : List β} (h : All2 R l m) : l.length = m.length := by
  induction h with
  | nil => rfl
  | cons _ _ ih => simp [ih]
theorem mono {l : List α} {m : List β} (h : All2 R l m) (hm : ∀ a b, R a b → S a b) : All2 S l m := by
  induction h with
  | nil => exact .nil
  | cons h0 _ ih => exact .cons (hm _ _ h0) ih
theorem append {l l' : List α} {m m' : List β} (h : All2 R l m) (h' : All2 R l' m') : All2 R (l ++ l') (m ++ m') := by
  induction h with
  | nil => exact h'
  | cons h0 _ ih => exact .cons h0 ih
theorem take {l : List α} {m : List β} (h : All2 R l m) : ∀ n, All2 R (l.take n) (m.take n) := by
  induction h with
  | nil => intro n; simp; exact .nil
  | cons h0 _ ih => intro n; cases n <;> simp <;> first | exact .nil | exact .cons h0 (ih _)
theorem drop {l : List α} {m : List β} (h : All2 R l m) : ∀ n, All2 R (l.drop n) (m.drop n) := by
  induction h with
  | nil => intro n; simp; exact .nil
  | cons h0 h1 ih => intro n; cases n <;> simp <;> first | exact .cons h0 h1 | exact ih _
theorem get {l : List α} {m : List β} (h : All2 R l m) : ∀ {i : Nat} {a : α}, l[i]? = some a → ∃ b, m[i]? = some b ∧ R a b := by
  induction h with
  | nil => intro i a hi; simp at hi
  | cons h0 _ ih =>
    intro i a hi
    cases i with
    | zero => simp at hi; subst hi; exact ⟨_, rfl, h0⟩
    | succ i => simpa using ih (by simpa using hi)
theorem get' {l : List α} {m : List β} (h : All2 R l m) : ∀ {i : Nat} {b : β}, m[i]? = some b → ∃ a, l[i]? = some a ∧ R a b := by
  induction h with
  | nil => intro i a hi; simp at hi
  | cons h0 _ ih =>
    intro i a hi
    cases i with
    | zero => simp at hi; subst hi; exact ⟨_, rfl, h0⟩
    | succ i => simpa using ih (by simpa using hi)
theorem nil_iff {m : List β} : All2 R [] m ↔ m = [] := ⟨fun h => by cases h; rfl, fun h => h ▸ .nil⟩
end All2

/- ### Values -/

/-- Which contexts are meant. -/
class GoodC where
  G : Ctx → Prop

/-- All of them. -/
instance triv : GoodC := ⟨fun _ => True⟩

variable [gi : GoodC]

structure Rho where
  r : Nat → Option (Nat × Nat)
  X : Ctx
  ok : GoodC.G X

instance : CoeFun Rho (fun _ => Nat → Option (Nat × Nat)) := ⟨Rho.r⟩

def RPtr (ρ : Rho) (p : Nat × Nat) (v : Value) : Prop := ∃ c m, ρ p.1 = some (c, m) ∧ v = .pointer (some ⟨c, p.2, none⟩)

def RC (ρ : Rho) : AC → Value → Prop
  | .bool b, v => v = .bool b
  | .int k n, v => v = .int k n
  | .flt x, v => ∃ n, RF ρ.X x n ∧ v = .float .f64 n
  | .cpx x y, v => ∃ n m, RF ρ.X x n ∧ RF ρ.X y m ∧ v = .complex .f64 n m
  | .nilp, v => v = .pointer none
  | .ptr b o, v => RPtr ρ (b, o) v
  | .nils, v => v = .slice none 0 0
  | .sl b o l cap, v => ∃ c m k, ρ b = some (c, m) ∧ v = .slice (some ⟨c, o, none⟩) l k ∧ l ≤ k ∧ ∀ k', cap = some k' → k = k'
  | .osl b l z, v => ∃ c m k, ρ b = some (c, m) ∧ v = .slice (some ⟨c, 0, none⟩) l k ∧ l ≤ k ∧ k * z ≤ m
  | .nilm, v => v = .map none
  | .map b, v => ∃ c m, ρ b = some (c, m) ∧ v = .map (some c)
  | .fn f caps, v => ∃ vs : List Value, v = .func (.func f) #[] vs.toArray ∧ All2 (RPtr ρ) caps vs
  | .nilf, v => v = .nilFunc
  | .sb b, v => v = .bool b
  | .si k n t, v => v = .int k n ∧ TgOK ρ.X n t
  | .fb n F, v => v = .int .u64 n ∧ Fact ρ.X F n
  | .xs b j n e, v => ∃ c m, ρ b = some (c, m) ∧ v = .slice (some ⟨c, (ρ.X.fs j).1, none⟩) (ρ.X.fs j).2.1 (ρ.X.fs j).2.2 ∧ n = (ρ.X.fs j).2.1 ∧ 0 < (ρ.X.fs j).2.1 ∧ e = ρ.X.fe j
  | .fp b j i x, v => ∃ c m, ρ b = some (c, m) ∧ v = .pointer (some ⟨c, (ρ.X.fs j).1 + i % (ρ.X.fs j).2.1, none⟩) ∧ 0 < (ρ.X.fs j).2.1 ∧ x = ρ.X.fe j i
  | .arg j, v => v = ρ.X.fv j ∧ v.oneCell' = true
  | .any, v => v.oneCell' = true

def RCs (ρ : Rho) : List AC → List Value → Prop := All2 (RC ρ)

def RV (ρ : Rho) : AV → Value → Prop
  | .c x, v => RC ρ x v
  | .agg xs, v => ∃ vs : List Value, v = .agg vs.toArray ∧ RCs ρ xs vs

def R1 (ρ : Rho) : AT → Value → Prop
  | .v x, v => RV ρ x v
  | .tup xs, v => ∃ vs : List Value, v = .tuple vs.toArray ∧ All2 (RV ρ) xs vs

def RT (ρ : Rho) (T : Tr AT) (t : Array Value) : Prop := ∀ i x, T.get i = some x → ∃ v, t[i]? = some v ∧ R1 ρ x v

structure Ext (ρ ρ' : Rho) : Prop where
  le : ∀ i x, ρ i = some x → ρ' i = some x
  X : ρ'.X = ρ.X

theorem Ext.refl (ρ : Rho) : Ext ρ ρ := ⟨fun _ _ h => h, rfl⟩
theorem Ext.trans {a b c : Rho} (h : Ext a b) (h' : Ext b c) : Ext a c := ⟨fun i x hx => h'.le i x (h.le i x hx), h'.X.trans h.X⟩

theorem RPtr.ext {ρ ρ' : Rho} (h : Ext ρ ρ') {p : Nat × Nat} {v : Value} (hv : RPtr ρ p v) : RPtr ρ' p v := by
  obtain ⟨c, m, hc, rfl⟩ := hv
  exact ⟨c, m, h.le _ _ hc, rfl⟩

theorem RC.ext {ρ ρ' : Rho} (h : Ext ρ ρ') {x : AC} {v : Value} (hv : RC ρ x v) : RC ρ' x v := by
  cases x <;> simp only [RC] at hv ⊢
  case ptr => exact hv.ext h
  case sl => obtain ⟨c, m, k, hc, r⟩ := hv; exact ⟨c, m, k, h.le _ _ hc, r⟩
  case osl => obtain ⟨c, m, k, hc, r⟩ := hv; exact ⟨c, m, k, h.le _ _ hc, r⟩
  case map => obtain ⟨c, m, hc, r⟩ := hv; exact ⟨c, m, h.le _ _ hc, r⟩
  case flt => rw [h.X]; exact hv
  case cpx => rw [h.X]; exact hv
  case si => rw [h.X]; exact hv
  case fb => rw [h.X]; exact hv
  case xs => rw [h.X]; obtain ⟨c, m, hc, r⟩ := hv; exact ⟨c, m, h.le _ _ hc, r⟩
  case fp => rw [h.X]; obtain ⟨c, m, hc, r⟩ := hv; exact ⟨c, m, h.le _ _ hc, r⟩
  case arg => rw [h.X]; exact hv
  case fn => obtain ⟨vs, rfl, hvs⟩ := hv; exact ⟨vs, rfl, hvs.mono fun _ _ => RPtr.ext h⟩
  all_goals exact hv

theorem RCs.ext {ρ ρ' : Rho} (h : Ext ρ ρ') {x : List AC} {v : List Value} (hv : RCs ρ x v) : RCs ρ' x v := All2.mono hv fun _ _ => RC.ext h

theorem RV.ext {ρ ρ' : Rho} (h : Ext ρ ρ') {x : AV} {v : Value} (hv : RV ρ x v) : RV ρ' x v := by
  cases x with
  | c x => exact RC.ext h hv
  | agg xs => obtain ⟨vs, rfl, hvs⟩ := hv; exact ⟨vs, rfl, hvs.ext h⟩

theorem R1.ext {ρ ρ' : Rho} (h : Ext ρ ρ') {x : AT} {v : Value} (hv : R1 ρ x v) : R1 ρ' x v := by
  cases x with
  | v x => exact RV.ext h hv
  | tup xs => obtain ⟨vs, rfl, hvs⟩ := hv; exact ⟨vs, rfl, hvs.mono fun _ _ => RV.ext h⟩

theorem RT.ext {ρ ρ' : Rho} (h : Ext ρ ρ') {T : Tr AT} {t : Array Value} (ht : RT ρ T t) : RT ρ' T t := fun i x hx =>
  let ⟨v, hv, hr⟩ := ht i x hx
  ⟨v, hv, hr.ext h⟩

theorem RC.one {ρ : Rho} {x : AC} {v : Value} (h : RC ρ x v) : v.oneCell' = true := by
  cases x <;> simp only [RC, RPtr] at h
  case flt => obtain ⟨n, _, rfl⟩ := h; rfl
  case cpx => obtain ⟨n, m, _, _, rfl⟩ := h; rfl
  case ptr => obtain ⟨c, m, _, rfl⟩ := h; rfl
  case sl => obtain ⟨c, m, k, _, rfl, _⟩ := h; rfl
  case osl => obtain ⟨c, m, k, _, rfl, _⟩ := h; rfl
  case map => obtain ⟨c, m, _, rfl⟩ := h; rfl
  case fn => obtain ⟨vs, rfl, _⟩ := h; rfl
  case si => obtain ⟨rfl, _⟩ := h; rfl
  case fb => obtain ⟨rfl, _⟩ := h; rfl
  case xs => obtain ⟨c, m, _, rfl, _⟩ := h; rfl
  case fp => obtain ⟨c, m, _, rfl, _⟩ := h; rfl
  case arg => exact h.2
  case any => exact h
  all_goals (subst h; rfl)

theorem RC.cells {ρ : Rho} {x : AC} {v : Value} (h : RC ρ x v) : v.cells = #[v] := by
  have := h.one
  cases v <;> simp_all [Value.cells, Value.oneCell']

theorem RCs.one {ρ : Rho} {xs : List AC} {vs : List Value} (h : RCs ρ xs vs) : ∀ v ∈ vs, v.oneCell' = true := by
  induction h with
  | nil => simp
  | cons h0 _ ih => simp only [List.mem_cons, forall_eq_or_imp]; exact ⟨h0.one, ih⟩

theorem RV.cells {ρ : Rho} {x : AV} {v : Value} (h : RV ρ x v) : RCs ρ x.cells v.cells.toList := by
  cases x with
  | c x => rw [RC.cells h]; exact .cons h .nil
  | agg xs => obtain ⟨vs, rfl, hvs⟩ := h; simpa [Value.cells, AV.cells] using hvs

/- ### Memory -/

def RE (ρ : Rho) (e : AV × AV) (m : MapEntry) : Prop := RV ρ e.1 m.key ∧ RV ρ e.2 m.val

def RO (ρ : Rho) (m : Nat) : AO → Obj → Prop
  | .cells xs full, o => ∃ (arr : Array Value) (e : TypeId) (pre rest : List Value), o = .cells arr e (0, 0) ∧ arr.size = m ∧ arr.toList = pre ++ rest ∧ RCs ρ xs pre ∧ (full = true → rest = [])
  | .map es, o => ∃ ens : Array MapEntry, o = .map ens ens.size ∧ All2 (RE ρ) es ens.toList ∧ ∀ (i : Nat) (e : MapEntry), ens[i]? = some e → e.born = i
  | .raw j, o => o = ρ.X.fo j

theorem RE.ext {ρ ρ' : Rho} (h : Ext ρ ρ') {e : AV × AV} {m : MapEntry} (he : RE ρ e m) : RE ρ' e m := ⟨he.1.ext h, he.2.ext h⟩

theorem RO.ext {ρ ρ' : Rho} (h : Ext ρ ρ') {m : Nat} {x : AO} {o : Obj} (ho : RO ρ m x o) : RO ρ' m x o := by
  cases x with
  | cells xs full => obtain ⟨arr, e, pre, rest, h1, h2, h3, h4, h5⟩ := ho; exact ⟨arr, e, pre, rest, h1, h2, h3, h4.ext h, h5⟩
  | map es => obtain ⟨ens, h1, h2, h3⟩ := ho; exact ⟨ens, h1, h2.mono fun _ _ => RE.ext h, h3⟩
  | raw j => simp only [RO] at ho ⊢; rw [h.X]; exact ho

structure RH (ρ : Rho) (H : AH) (w : World) : Prop where
  blk : ∀ i o, H.t.get i = some o → ∃ c m obj, ρ i = some (c, m) ∧ w.heap[c]? = some obj ∧ RO ρ m o obj
  inj : ∀ i j o o' c m m', H.t.get i = some o → H.t.get j = some o' → ρ i = some (c, m) → ρ j = some (c, m') → i = j
  fresh : ∀ i, H.n ≤ i → ρ i = none
  lo : ∀ i c m, ρ i = some (c, m) → ρ.X.lim ≤ c
  lim : ρ.X.lim ≤ w.heap.size
  old : ∀ c, c < ρ.X.lim → w.heap[c]? = ρ.X.h0[c]?

/-- What may be written: the living blocks that nobody keeps. -/
def Wr (ρ : Rho) (H : AH) (c : Nat) : Prop := ∃ i o m, H.t.get i = some o ∧ i ∉ H.p ∧ ρ i = some (c, m)

/-- What lives. -/
def Lv (ρ : Rho) (H : AH) (c : Nat) : Prop := ∃ i o m, H.t.get i = some o ∧ ρ i = some (c, m)

/-- From one state to a later one: what was known is known; what was not the evaluator's to write is as it was. -/
structure St (ρ : Rho) (H : AH) (w : World) (ρ' : Rho) (H' : AH) (w' : World) : Prop where
  ext : Ext ρ ρ'
  rh : RH ρ' H' w'
  p : H'.p = H.p
  frame : ∀ c, c < w.heap.size → ¬ Wr ρ H c → w'.heap[c]? = w.heap[c]?
  own : ∀ c, Wr ρ' H' c → w.heap.size ≤ c ∨ Wr ρ H c
  live : ∀ c, Lv ρ' H' c → w.heap.size ≤ c ∨ Lv ρ H c
  os : w'.os = w.os
  tape : w'.tape = w.tape
  output : w'.output = w.output
  size : w.heap.size ≤ w'.heap.size

theorem St.refl {ρ : Rho} {H : AH} {w : World} (h : RH ρ H w) : St ρ H w ρ H w :=
  ⟨Ext.refl ρ, h, rfl, fun _ _ _ => rfl, fun _ hc => .inr hc, fun _ hc => .inr hc, rfl, rfl, rfl, Nat.le_refl _⟩

theorem St.trans {ρ ρ₁ ρ₂ : Rho} {H H₁ H₂ : AH} {w w₁ w₂ : World} (a : St ρ H w ρ₁ H₁ w₁) (b : St ρ₁ H₁ w₁ ρ₂ H₂ w₂) : St ρ H w ρ₂ H₂ w₂ where
  ext := a.ext.trans b.ext
  rh := b.rh
  p := b.p.trans a.p
  frame := fun c hc hw => by
    rw [b.frame c (Nat.lt_of_lt_of_le hc a.size) (fun h => ?_), a.frame c hc hw]
    rcases a.own c h with h' | h'
    · omega
    · exact hw h'
  own := fun c hc => by
    rcases b.own c hc with h | h
    · exact .inl (Nat.le_trans a.size h)
    · exact a.own c h
  live := fun c hc => by
    rcases b.live c hc with h | h
    · exact .inl (Nat.le_trans a.size h)
    · exact a.live c h
  os := b.os.trans a.os
  tape := b.tape.trans a.tape
  output := b.output.trans a.output
  size := Nat.le_trans a.size b.size

theorem RH.drew {ρ : Rho} {H : AH} {w : World} (h : RH ρ H w) : RH ρ H w.drew := ⟨h.blk, h.inj, h.fresh, h.lo, h.lim, h.old⟩

theorem St.drew {ρ ρ' : Rho} {H H' : AH} {w w' : World} (h : St ρ H w ρ' H' w') : St ρ H w ρ' H' w'.drew :=
  ⟨h.ext, h.rh.drew, h.p, h.frame, h.own, h.live, h.os, h.tape, h.output, h.size⟩

theorem RH.lt {ρ : Rho} {H : AH} {w : World} (h : RH ρ H w) {i : Nat} {o : AO} {c m : Nat} (hi : H.t.get i = some o) (hc : ρ i = some (c, m)) : c < w.heap.size := by
  obtain ⟨c', m', obj, h1, h2, _⟩ := h.blk i o hi
  rw [hc] at h1
  obtain ⟨rfl, rfl⟩ := by simpa using h1
  exact (Array.getElem?_eq_some_iff.1 h2).1

/-- One block more. -/
def up (ρ : Rho) (i : Nat) (x : Nat × Nat) : Rho := ⟨fun j => if j = i then some x else ρ j, ρ.X, ρ.ok⟩

theorem up_r (ρ : Rho) (i : Nat) (x : Nat × Nat) (j : Nat) : up ρ i x j = if j = i then some x else ρ j := rfl
theorem up_X (ρ : Rho) (i : Nat) (x : Nat × Nat) : (up ρ i x).X = ρ.X := rfl

theorem up_ext {ρ : Rho} {i : Nat} {x : Nat × Nat} (h : ρ i = none) : Ext ρ (up ρ i x) := ⟨fun j y hy => by
  rw [up_r]
  split
  · rename_i e; subst e; rw [h] at hy; cases hy
  · exact hy, rfl⟩

theorem AH.new_eq (H : AH) (o : AO) : H.new o = { t := H.t.put H.n (some o), n := H.n + 1, p := H.p } := by
  unfold AH.new; rw [fz_eq]

/-- A block at number H.n, which stands at 'c' in the model's memory: a new one there, or one that a dead number had. -/
theorem RH.bind {ρ : Rho} {H : AH} {w : World} {o : AO} {c m : Nat} {obj : Obj} (h : RH ρ H w) (hc : w.heap[c]? = some obj) (hlo : ρ.X.lim ≤ c) (ho : RO ρ m o obj)
    (hfree : ∀ i o m, H.t.get i = some o → ρ i ≠ some (c, m)) : RH (up ρ H.n (c, m)) (H.new o) w := by
  have hn : ρ H.n = none := h.fresh _ (Nat.le_refl _)
  have hx := up_ext (x := (c, m)) hn
  have hold : ∀ i, i ≠ H.n → up ρ H.n (c, m) i = ρ i := fun i hi => by rw [up_r, if_neg hi]
  have hnew : up ρ H.n (c, m) H.n = some (c, m) := by rw [up_r, if_pos rfl]
  rw [AH.new_eq]
  refine ⟨fun i o' hi => ?_, fun i j o1 o2 c' m1 m2 hi hj hci hcj => ?_, fun i hi => ?_, fun i c' m' hi => ?_, h.lim, h.old⟩
  · simp only [Tr.get_put] at hi
    split at hi
    · rename_i e
      subst e
      simp at hi
      subst hi
      exact ⟨c, m, obj, hnew, hc, ho.ext hx⟩
    · rename_i e
      obtain ⟨c', m', obj', h1, h2, h3⟩ := h.blk i o' hi
      exact ⟨c', m', obj', hx.le _ _ h1, h2, h3.ext hx⟩
  · simp only [Tr.get_put] at hi hj
    by_cases ei : H.n = i
    · by_cases ej : H.n = j
      · exact ei.symm.trans ej
      · rw [if_neg ej] at hj
        rw [hold j (Ne.symm ej)] at hcj
        rw [← ei, hnew] at hci
        obtain ⟨rfl, rfl⟩ : c = c' ∧ m = m1 := by simpa using hci
        exact absurd hcj (hfree j _ _ hj)
    · rw [if_neg ei] at hi
      rw [hold i (Ne.symm ei)] at hci
      by_cases ej : H.n = j
      · rw [← ej, hnew] at hcj
        obtain ⟨rfl, rfl⟩ : c = c' ∧ m = m2 := by simpa using hcj
        exact absurd hci (hfree i _ _ hi)
      · rw [if_neg ej] at hj
        rw [hold j (Ne.symm ej)] at hcj
        exact h.inj i j o1 o2 c' m1 m2 hi hj hci hcj
  · have : H.n + 1 ≤ i := hi
    rw [hold i (by omega)]
    exact h.fresh i (by omega)
  · rw [up_r] at hi
    split at hi
    · obtain ⟨rfl, rfl⟩ : c = c' ∧ m = m' := by simpa using hi
      exact hlo
    · exact h.lo i c' m' hi

theorem RH.alloc {ρ : Rho} {H : AH} {w : World} (h : RH ρ H w) (obj : Obj) : RH ρ H (w.alloc obj) := by
  refine ⟨fun i o hi => ?_, h.inj, h.fresh, h.lo, by have := h.lim; simp; omega, fun c hc => ?_⟩
  · obtain ⟨c, m, obj', h1, h2, h3⟩ := h.blk i o hi
    refine ⟨c, m, obj', h1, ?_, h3⟩
    have hlt := (Array.getElem?_eq_some_iff.1 h2).1
    simp only [World.alloc, Array.getElem?_push]
    rw [if_neg (by omega)]
    exact h2
  · have := h.lim
    simp only [World.alloc, Array.getElem?_push]
    rw [if_neg (by omega)]
    exact h.old c hc

/-- A new block. -/
theorem St.new {ρ : Rho} {H : AH} {w : World} {o : AO} {m : Nat} {obj : Obj} (h : RH ρ H w) (ho : RO ρ m o obj) :
    St ρ H w (up ρ H.n (w.heap.size, m)) (H.new o) (w.alloc obj) := by
  have hn : ρ H.n = none := h.fresh _ (Nat.le_refl _)
  have hfree : ∀ i o m, H.t.get i = some o → ρ i ≠ some (w.heap.size, m) := fun i o m hi e => absurd (h.lt hi e) (Nat.lt_irrefl _)
  refine ⟨up_ext hn, (h.alloc obj).bind (by show (w.heap.push obj)[w.heap.size]? = some obj; simp) h.lim ho hfree, by rw [AH.new_eq], fun c hc _ => ?_, fun c hw => ?_, fun c hw => ?_, rfl, rfl, rfl, by simp⟩
  · simp only [World.alloc, Array.getElem?_push]
    rw [if_neg (by omega)]
  · obtain ⟨i, o', m', hi, hp, hc⟩ := hw
    rw [AH.new_eq] at hi hp
    simp only [Tr.get_put] at hi
    rw [up_r] at hc
    by_cases e : i = H.n
    · rw [if_pos e] at hc
      obtain ⟨rfl, rfl⟩ : w.heap.size = c ∧ m = m' := by simpa using hc
      exact .inl (Nat.le_refl _)
    · rw [if_neg e] at hc
      rw [if_neg (Ne.symm e)] at hi
      exact .inr ⟨i, o', m', hi, hp, hc⟩
  · obtain ⟨i, o', m', hi, hc⟩ := hw
    rw [AH.new_eq] at hi
    simp only [Tr.get_put] at hi
    rw [up_r] at hc
    by_cases e : i = H.n
    · rw [if_pos e] at hc
      obtain ⟨rfl, rfl⟩ : w.heap.size = c ∧ m = m' := by simpa using hc
      exact .inl (Nat.le_refl _)
    · rw [if_neg e] at hc
      rw [if_neg (Ne.symm e)] at hi
      exact .inr ⟨i, o', m', hi, hc⟩

end Go.Sv

namespace Go.Sv
variable [gi : GoodC]

theorem Addr.add_mk (c o n : Nat) : (⟨c, o, none⟩ : Addr).add n = ⟨c, o + n, none⟩ := by unfold Addr.add; split <;> simp_all

section
variable {P : Program} {ρ : Rho} {H : AH} {w : World}

theorem RH.cells (h : RH ρ H w) {b c m : Nat} {cs : List AC} {full : Bool} (hb : H.t.get b = some (.cells cs full)) (hc : ρ b = some (c, m)) :
    ∃ (arr : Array Value) (e : TypeId) (pre rest : List Value), w.heap[c]? = some (.cells arr e (0, 0)) ∧ arr.size = m ∧ arr.toList = pre ++ rest ∧ RCs ρ cs pre ∧ (full = true → rest = []) := by
  obtain ⟨c', m', obj, h1, h2, arr, e, pre, rest, rfl, h3, h4, h5, h6⟩ := h.blk b _ hb
  rw [hc] at h1
  obtain ⟨rfl, rfl⟩ : c = c' ∧ m = m' := by simpa using h1
  exact ⟨arr, e, pre, rest, h2, h3, h4, h5, h6⟩

/-- n cells from a place on are read. -/
theorem run_read (h : RH ρ H w) {b c m off n : Nat} {xs : List AC} (hr : H.read b off n = some xs) (hc : ρ b = some (c, m)) :
    ∃ vs : List Value, RCs ρ xs vs ∧ vs.length = n ∧ ∀ w' : World, w'.heap[c]? = w.heap[c]? → (loadCells ⟨c, off, none⟩ n).run P w' = .ok vs.toArray w' := by
  unfold AH.read at hr
  split at hr
  · rename_i cs full hb
    obtain ⟨arr, e, pre, rest, h1, h2, h3, h4, _⟩ := h.cells hb hc
    obtain ⟨hl, rfl⟩ := cut_spec _ _ _ _ hr
    have hlen : ((pre.drop off).take n).length = n := by
      have := h4.length
      simp
      omega
    refine ⟨(pre.drop off).take n, (h4.drop off).take n, hlen, fun w' hw' => ?_⟩
    have key := run_loadCells_list (P := P) w' ⟨c, off, none⟩ ((pre.drop off).take n) (fun j v hj => by
      rw [Addr.add_mk]
      simp only [World.cell?, hw', h1, Option.isSome_none, Bool.false_eq_true, if_false]
      rw [List.getElem?_take] at hj
      split at hj
      · rw [List.getElem?_drop] at hj
        rw [← Array.getElem?_toList, h3, List.getElem?_append_left (by have := (List.getElem?_eq_some_iff.1 hj).1; omega)]
        exact hj
      · cases hj)
    rwa [hlen] at key
  · cases hr

theorem run_read1 (h : RH ρ H w) {b c m off : Nat} {x : AC} (hr : H.read1 b off = some x) (hc : ρ b = some (c, m)) :
    ∃ v : Value, RC ρ x v ∧ ∀ w' : World, w'.heap[c]? = w.heap[c]? → (load ⟨c, off, none⟩).run P w' = .ok v w' := by
  unfold AH.read1 at hr
  split at hr
  · rename_i cs full hb
    obtain ⟨arr, e, pre, rest, h1, h2, h3, h4, _⟩ := h.cells hb hc
    rw [at?_eq] at hr
    obtain ⟨v, hv, hx⟩ := All2.get h4 hr
    refine ⟨v, hx, fun w' hw' => ?_⟩
    have hcell : w'.cell? ⟨c, off, none⟩ = some v := by
      simp only [World.cell?, hw', h1, Option.isSome_none, Bool.false_eq_true, if_false]
      rw [← Array.getElem?_toList, h3, List.getElem?_append_left (by have := (List.getElem?_eq_some_iff.1 hv).1; omega)]
      exact hv
    simp [hcell]
  · cases hr

/-- One living block gets other contents. -/
theorem St.set (h : RH ρ H w) {b c m : Nat} {o o' : AO} {obj : Obj} (hb : H.t.get b = some o) (hp : memN H.p b = false) (hc : ρ b = some (c, m)) (w' : World)
    (hw : w'.heap[c]? = some obj) (ho : RO ρ m o' obj) (hot : ∀ k, k ≠ c → w'.heap[k]? = w.heap[k]?) (hsz : w'.heap.size = w.heap.size)
    (h1 : w'.os = w.os) (h2 : w'.tape = w.tape) (h3 : w'.output = w.output) :
    St ρ H w ρ { t := H.t.put b (some o'), n := H.n, p := H.p } w' := by
  refine ⟨Ext.refl ρ, ⟨fun i x hi => ?_, fun i j x y c' m1 m2 hi hj hci hcj => ?_, h.fresh, h.lo, by rw [hsz]; exact h.lim, fun k hk => ?_⟩, rfl, fun k hk hn => ?_, fun k hk => ?_, fun k hk => ?_, h1, h2, h3, Nat.le_of_eq hsz.symm⟩
  · simp only [Tr.get_put] at hi
    split at hi
    · rename_i e
      subst e
      simp at hi
      subst hi
      exact ⟨c, m, obj, hc, hw, ho⟩
    · rename_i e
      obtain ⟨c', m', obj', e1, e2, e3⟩ := h.blk i x hi
      refine ⟨c', m', obj', e1, ?_, e3⟩
      rw [hot c' (fun e' => ?_)]
      · exact e2
      · subst e'
        exact e (h.inj b i _ _ _ _ _ hb hi hc e1)
  · have key : ∀ i x, (H.t.put b (some o')).get i = some x → ∃ y, H.t.get i = some y := fun i x hi => by
      simp only [Tr.get_put] at hi
      split at hi
      · rename_i e; subst e; exact ⟨_, hb⟩
      · exact ⟨_, hi⟩
    obtain ⟨x', hx'⟩ := key i x hi
    obtain ⟨y', hy'⟩ := key j y hj
    exact h.inj i j _ _ _ _ _ hx' hy' hci hcj
  · rw [hot k (fun e => by have := h.lo b c m hc; omega)]
    exact h.old k hk
  · refine hot k (fun e => hn ?_)
    subst e
    exact ⟨b, o, m, hb, memN_false.1 hp, hc⟩
  · obtain ⟨i, x, m', hi, hip, hci⟩ := hk
    simp only [Tr.get_put] at hi
    split at hi
    · rename_i e; subst e; exact .inr ⟨b, o, m', hb, hip, hci⟩
    · exact .inr ⟨i, x, m', hi, hip, hci⟩
  · obtain ⟨i, x, m', hi, hci⟩ := hk
    simp only [Tr.get_put] at hi
    split at hi
    · rename_i e; subst e; exact .inr ⟨b, o, m', hb, hci⟩
    · exact .inr ⟨i, x, m', hi, hci⟩

theorem setRow_other' (w : World) (g k : Nat) (cs : Array Value) (h : k ≠ g) : (w.setRow g cs).heap[k]? = w.heap[k]? := setRow_other w g k cs h

/-- Cells are written, from place 'off' of the block on, where the model's array has room. -/
theorem run_write_at (h : RH ρ H w) {b c m off : Nat} {xs cs cs' : List AC} {full : Bool} {vs : List Value} (hb : H.t.get b = some (.cells cs full)) (hp : memN H.p b = false)
    (hc : ρ b = some (c, m)) (hx : RCs ρ xs vs) (hle : off + xs.length ≤ m) (hoff : off ≤ cs.length) (hcs : cs' = cs.take off ++ xs ++ cs.drop (off + xs.length)) :
    ∃ w', (storeCells ⟨c, off, none⟩ vs).run P w = .ok () w' ∧ St ρ H w ρ { t := H.t.put b (some (.cells cs' full)), n := H.n, p := H.p } w' := by
  obtain ⟨arr, e, pre, rest, h1, h2, h3, h4, h5⟩ := h.cells hb hc
  have hvl := hx.length
  have hpl := h4.length
  have harr : arr.size = pre.length + rest.length := by
    have := congrArg List.length h3
    simpa using this
  have hrun := run_storeCells_at P c off e vs 0 arr w h1 (by omega) (fun v hv => RCs.one hx v hv)
  simp only [Nat.add_zero] at hrun
  refine ⟨_, hrun, St.set h hb hp hc _ (setRow_heap w c arr _ e (0, 0) h1) ?_ (fun k hk => setRow_other w c k _ hk) (by simp) rfl rfl rfl⟩
  have hd : arr.toList.take off = pre.take off := by
    rw [h3, List.take_append_of_le_length (by omega)]
  refine ⟨_, e, pre.take off ++ vs ++ pre.drop (off + vs.length), rest.drop (off + vs.length - pre.length), rfl, ?_, ?_, ?_, ?_⟩
  · simp only [List.size_toArray, List.length_append, List.length_take, List.length_drop, Array.length_toList]
    omega
  · rw [hd, h3, List.drop_append]
    simp
  · rw [hcs]
    refine ((h4.take off).append hx).append ?_
    rw [hvl]
    exact h4.drop _
  · intro hfu
    rw [h5 hfu]
    simp

theorem run_write (h : RH ρ H w) {b c m off : Nat} {xs : List AC} {vs : List Value} {H' : AH} (hr : H.write b off xs = some H') (hc : ρ b = some (c, m)) (hx : RCs ρ xs vs) :
    ∃ w', (storeCells ⟨c, off, none⟩ vs).run P w = .ok () w' ∧ St ρ H w ρ H' w' := by
  unfold AH.write at hr
  cases hp : memN H.p b
  · rw [hp, cond_false] at hr
    split at hr
    · rename_i cs full hb
      split at hr
      · rename_i cs' hl
        obtain ⟨hle, hcs⟩ := lay_spec _ _ _ _ hl
        simp at hr
        subst hr
        obtain ⟨arr, e, pre, rest, h1, h2, h3, h4, h5⟩ := h.cells hb hc
        have hpl := h4.length
        have harr : arr.size = pre.length + rest.length := by
          have := congrArg List.length h3
          simpa using this
        exact run_write_at h hb hp hc hx (by omega) (by omega) hcs
      · cases hr
    · cases hr
  · rw [hp, cond_true] at hr
    cases hr

/- ### Maps -/

theorem RH.map (h : RH ρ H w) {b c m : Nat} {es : List (AV × AV)} (hb : H.getMap b = some es) (hc : ρ b = some (c, m)) :
    H.t.get b = some (.map es) ∧ ∃ ens : Array MapEntry, w.heap[c]? = some (.map ens ens.size) ∧ All2 (RE ρ) es ens.toList ∧ ∀ (i : Nat) (e : MapEntry), ens[i]? = some e → e.born = i := by
  unfold AH.getMap at hb
  split at hb
  · rename_i es' hg
    simp at hb
    subst hb
    obtain ⟨c', m', obj, h1, h2, ens, rfl, h3, h4⟩ := h.blk b _ hg
    rw [hc] at h1
    obtain ⟨rfl, rfl⟩ : c = c' ∧ m = m' := by simpa using h1
    exact ⟨hg, ens, h2, h3, h4⟩
  · cases hb

theorem run_setMap (h : RH ρ H w) {b c m : Nat} {es es' : List (AV × AV)} {H' : AH} (hb : H.getMap b = some es) (hs : H.setMap b es' = some H') (hc : ρ b = some (c, m)) {ens : Array MapEntry}
    (he : All2 (RE ρ) es' ens.toList) (hborn : ∀ (i : Nat) (e : MapEntry), ens[i]? = some e → e.born = i) :
    ∃ w', (setObj c (.map ens ens.size)).run P w = .ok () w' ∧ w'.heap[c]? = some (.map ens ens.size) ∧ St ρ H w ρ H' w' := by
  obtain ⟨hg, ens0, h1, _, _⟩ := h.map hb hc
  unfold AH.setMap at hs
  cases hp : memN H.p b
  · rw [hp, cond_false] at hs
    simp at hs
    subst hs
    have hlt := (Array.getElem?_eq_some_iff.1 h1).1
    refine ⟨{ w with heap := w.heap.setIfInBounds c (.map ens ens.size) }, by simp [setObj, Sem.run, h1], by simp [hlt], ?_⟩
    refine St.set h hg hp hc _ (obj := .map ens ens.size) (by simp [hlt]) ⟨ens, rfl, he, hborn⟩ (fun k hk => ?_) (by simp) rfl rfl rfl
    simp [Ne.symm hk]
  · rw [hp, cond_true] at hs
    cases hs
end
end Go.Sv

namespace Go.Sv
variable [gi : GoodC]

section
variable {P : Program} {ρ : Rho} {H : AH} {w : World}

theorem RH.congr {H' : AH} (h : RH ρ H w) (hg : ∀ i, H'.t.get i = H.t.get i) (hn : H'.n = H.n) : RH ρ H' w :=
  ⟨fun i o hi => h.blk i o (hg i ▸ hi), fun i j o o' c m m' hi hj => h.inj i j o o' c m m' (hg i ▸ hi) (hg j ▸ hj), fun i hi => h.fresh i (hn ▸ hi), h.lo, h.lim, h.old⟩

theorem Wr.congr {H' : AH} {c : Nat} (hg : ∀ i, H'.t.get i = H.t.get i) (hp : H'.p = H.p) (h : Wr ρ H' c) : Wr ρ H c := by
  obtain ⟨i, o, m, h1, h2, h3⟩ := h
  exact ⟨i, o, m, hg i ▸ h1, hp ▸ h2, h3⟩

theorem Lv.congr {H' : AH} {c : Nat} (hg : ∀ i, H'.t.get i = H.t.get i) (h : Lv ρ H' c) : Lv ρ H c := by
  obtain ⟨i, o, m, h1, h3⟩ := h
  exact ⟨i, o, m, hg i ▸ h1, h3⟩

theorem St.congr {ρ' : Rho} {H₁ H₂ : AH} {w' : World} (h : St ρ H w ρ' H₁ w') (hg : ∀ i, H₂.t.get i = H₁.t.get i) (hn : H₂.n = H₁.n) (hp : H₂.p = H₁.p) : St ρ H w ρ' H₂ w' :=
  ⟨h.ext, h.rh.congr hg hn, hp.trans h.p, h.frame, fun c hc => h.own c (hc.congr hg hp), fun c hc => h.live c (hc.congr hg), h.os, h.tape, h.output, h.size⟩

/-- A block is given up. -/
def drop (H : AH) (b : Nat) : AH := { t := H.t.put b none, n := H.n, p := H.p }

theorem drop_get (b i : Nat) : (drop H b).t.get i = if b = i then none else H.t.get i := Tr.get_put _ _ _ _

theorem drop_some {b i : Nat} {o : AO} (h : (drop H b).t.get i = some o) : b ≠ i ∧ H.t.get i = some o := by
  rw [drop_get] at h
  split at h
  · cases h
  · exact ⟨‹_›, h⟩

theorem RH.drop (h : RH ρ H w) (b : Nat) : RH ρ (drop H b) w :=
  ⟨fun i o hi => h.blk i o (drop_some hi).2, fun i j o o' c m m' hi hj => h.inj i j o o' c m m' (drop_some hi).2 (drop_some hj).2, h.fresh, h.lo, h.lim, h.old⟩

theorem St.drop (h : RH ρ H w) (b : Nat) : St ρ H w ρ (Sv.drop H b) w :=
  ⟨Ext.refl ρ, h.drop b, rfl, fun _ _ _ => rfl, fun _ ⟨i, o, m, h1, h2, h3⟩ => .inr ⟨i, o, m, (drop_some h1).2, h2, h3⟩, fun _ ⟨i, o, m, h1, h3⟩ => .inr ⟨i, o, m, (drop_some h1).2, h3⟩, rfl, rfl, rfl, Nat.le_refl _⟩

/-- A block gets another number. -/
theorem St.rename (h : RH ρ H w) {b c m : Nat} {o : AO} (hb : H.t.get b = some o) (hp : memN H.p b = false) (hc : ρ b = some (c, m)) :
    St ρ H w (up ρ H.n (c, m)) ((Sv.drop H b).new o) w := by
  have hn : ρ H.n = none := h.fresh _ (Nat.le_refl _)
  obtain ⟨c', m', obj, h1, h2, h3⟩ := h.blk b o hb
  rw [hc] at h1
  obtain ⟨rfl, rfl⟩ : c = c' ∧ m = m' := by simpa using h1
  refine ⟨up_ext hn, (h.drop b).bind h2 (h.lo b c m hc) h3 (fun i o' m' hi e => ?_), by rw [AH.new_eq]; rfl, fun _ _ _ => rfl, fun k hk => .inr ?_, fun k hk => .inr ?_, rfl, rfl, rfl, Nat.le_refl _⟩
  · obtain ⟨hne, hi'⟩ := drop_some hi
    exact hne (h.inj b i _ _ _ _ _ hb hi' hc e)
  · obtain ⟨i, o', m', hi, hip, hci⟩ := hk
    rw [AH.new_eq] at hi hip
    simp only [Tr.get_put] at hi
    rw [up_r] at hci
    by_cases e : i = H.n
    · rw [if_pos e] at hci
      obtain ⟨rfl, rfl⟩ : c = k ∧ m = m' := by simpa using hci
      exact ⟨b, o, m, hb, memN_false.1 hp, hc⟩
    · rw [if_neg e] at hci
      rw [if_neg (fun e' => e e'.symm)] at hi
      exact ⟨i, o', m', (drop_some hi).2, hip, hci⟩
  · obtain ⟨i, o', m', hi, hci⟩ := hk
    rw [AH.new_eq] at hi
    simp only [Tr.get_put] at hi
    rw [up_r] at hci
    by_cases e : i = H.n
    · rw [if_pos e] at hci
      obtain ⟨rfl, rfl⟩ : c = k ∧ m = m' := by simpa using hci
      exact ⟨b, o, m, hb, hc⟩
    · rw [if_neg e] at hci
      rw [if_neg (fun e' => e e'.symm)] at hi
      exact ⟨i, o', m', (drop_some hi).2, hci⟩

theorem run_lenOf {x : AC} {v : Value} {n : Nat} (hn : lenOf x = some n) (hv : RC ρ x v) (w : World) : (Builtin.lenOf v).run P w = .ok n w := by
  cases x <;> simp [lenOf] at hn <;> simp only [RC] at hv
  · subst hn; subst hv; rfl
  · subst hn; obtain ⟨c, m, k, _, rfl, _⟩ := hv; rfl
  · subst hn; obtain ⟨c, m, k, _, rfl, _⟩ := hv; rfl

/-- The block that a slice stands in. -/
def baseOf : AC → Option Nat
  | .sl b _ _ _ => some b
  | .osl b _ _ => some b
  | _ => none

theorem run_firsts (h : RH ρ H w) {z n : Nat} {x : AC} {v : Value} {xs : List AC} (hf : firsts H z n x = some xs) (hv : RC ρ x v) :
    ∃ vs : List Value, RCs ρ xs vs ∧ vs.length = n * z ∧ ∀ w' : World, (∀ b c m, baseOf x = some b → ρ b = some (c, m) → w'.heap[c]? = w.heap[c]?) → (Builtin.firstCells z n v).run P w' = .ok vs.toArray w' := by
  cases x <;> simp only [firsts] at hf <;> simp only [RC] at hv
  case nils =>
    subst hv
    cases hb : Nat.beq n 0
    · rw [hb] at hf; cases hf
    · rw [hb] at hf
      simp at hf
      subst hf
      have := Nat.eq_of_beq_eq_true hb
      subst this
      exact ⟨[], .nil, by simp, fun w' _ => rfl⟩
  case sl b o l cap =>
    obtain ⟨c, m, k, hc, rfl, _⟩ := hv
    cases hb : Nat.ble n l
    · rw [hb] at hf; cases hf
    · rw [hb, cond_true] at hf
      obtain ⟨vs, h1, h2, h3⟩ := run_read (P := P) h hf hc
      exact ⟨vs, h1, h2, fun w' hw => h3 w' (hw b c m rfl hc)⟩
  case osl b l z' =>
    obtain ⟨c, m, k, hc, rfl, _⟩ := hv
    cases hb : Nat.ble n l && Nat.beq z z'
    · rw [hb] at hf; cases hf
    · rw [hb, cond_true] at hf
      obtain ⟨vs, h1, h2, h3⟩ := run_read (P := P) h hf hc
      exact ⟨vs, h1, h2, fun w' hw => h3 w' (hw b c m rfl hc)⟩
  all_goals cases hf

theorem growBy_le (n : Nat) : ∀ (r c : Nat), Builtin.growBy n r c ≤ max c (n + (n + 768) / 4)
  | 0, c => Nat.le_max_left _ _
  | r + 1, c => by
    simp only [Builtin.growBy]
    split
    · exact Nat.le_max_left _ _
    · refine Nat.le_trans (growBy_le n r _) ?_
      have : c + (c + 768) / 4 ≤ n + (n + 768) / 4 := by omega
      omega

theorem nextslicecap_le {n c : Nat} (h : c < n) : Builtin.nextslicecap n c ≤ 2 * n + 1000 := by
  unfold Builtin.nextslicecap
  split
  · omega
  · split
    · omega
    · have := growBy_le n 4 c
      omega

theorem room_spec {bytes n : Nat} (h : room bytes n = true) : n ≤ 2 ^ 40 ∧ (2 * n + 1000) * bytes ≤ 2 ^ 48 := by
  unfold room at h
  rw [Bool.and_eq_true] at h
  exact ⟨Nat.le_of_ble_eq_true h.1, Nat.le_of_ble_eq_true h.2⟩

theorem zeroCells_length (zero : Array Value) (n : Nat) : (Builtin.zeroCells zero n).toList.length = n * zero.size := by
  simp [Builtin.zeroCells]

section
variable {t u e ty : TypeId} {i : TypeInfo} {zv : Value} {z : Nat}

/-- The append that makes a new array. -/
theorem run_grow (ht : P.underlying t = some (.slice e)) {e' : TypeId} (hu : P.underlying u = some (.slice e')) (hi : P.info? e = some i) (hz : i.size = z) (hzero : i.zero = some zv) (hzs : zv.cells.size = z)
    {base : Option Addr} {l k n : Nat} {vx : Value} {old new : List Value} (hk : k < l + n) (hroom : room i.bytes (l + n) = true) (hlen : ∀ w', (Builtin.lenOf vx).run P w' = .ok n w')
    (hold : (Builtin.firstCells z l (.slice base l k)).run P w.drew = .ok old.toArray w.drew) (hnew : (Builtin.firstCells z n vx).run P w.drew = .ok new.toArray w.drew)
    (hol : old.length = l * z) (hnl : new.length = n * z) :
    ∃ (cap : Nat) (arr : Array Value) (rest : List Value), (Builtin.append_ #[t, u] ty #[.slice base l k, vx]).run P w = .ok (.slice (some ⟨w.heap.size, 0, none⟩) (l + n) cap) (w.drew.alloc (.cells arr e)) ∧
      l + n ≤ cap ∧ arr.size = cap * z ∧ arr.toList = (old ++ new) ++ rest := by
  obtain ⟨h1, h2⟩ := room_spec hroom
  have hcap := nextslicecap_le hk
  have hbig : ¬ Builtin.nextslicecap (l + n) k * i.bytes > 2 ^ 48 := by
    have := Nat.mul_le_mul_right i.bytes hcap
    omega
  have hmax : ¬ ((l + n : Nat) : Int) > IntKind.i64.max := by
    simp only [IntKind.max, IntKind.signed, IntKind.bits]
    omega
  generalize hq : Question.cut (.appendCap (l + n) k e) (w.tape w.drawn (.appendCap (l + n) k e)) = cap
  have hc : l + n ≤ cap := by rw [← hq]; simp [Question.cut]
  refine ⟨cap, old.toArray ++ new.toArray ++ Builtin.zeroCells zv.cells (cap - (l + n)), (Builtin.zeroCells zv.cells (cap - (l + n))).toList, ?_, hc, ?_, by simp⟩
  · have hne : ¬ l + n ≤ k := by omega
    simp only [Builtin.append_, List.getElem?_toArray, List.getElem?_cons_zero, List.getElem?_cons_succ, Sem.run_bind, run_underlying ht, run_underlying hu, Result.andThen_ok, sizeOf, typeInfo, run_program, hi, Sem.run_pure, hz, Bool.false_eq_true,
      if_false, hlen, hne, Bool.not_false, if_true, hbig, run_choose, Question.forced, hq, run_askRoom, zeroValue, hzero, newRow, run_newObj, gt_iff_lt, World.drew_eq, hold, hnew, Sem.run_ite]
    rw [if_neg (fun h => hmax h.1)]
    rfl
  · simp [Builtin.zeroCells, hol, hnl, hzs, ← Nat.add_mul]
    congr 1
    omega

/-- append(s, x...). -/
theorem run_append (ht : P.underlying t = some (.slice e)) {e' : TypeId} (hu : P.underlying u = some (.slice e')) (hi : P.info? e = some i) (hz : i.size = z) (hzero : i.zero = some zv) {zero : List AC} (hzs : zv.cells.size = zero.length)
    (h : RH ρ H w) {s x : AC} {vs vx : Value} (hs : RC ρ s vs) (hx : RC ρ x vx) {r : AT} {H' : AH} (ha : appendA H z zero i.bytes s x = some (r, H')) :
    ∃ v w' ρ', (Builtin.append_ #[t, u] ty #[vs, vx]).run P w = .ok v w' ∧ St ρ H w ρ' H' w' ∧ R1 ρ' r v := by
  unfold appendA at ha
  split at ha
  · cases ha
  rename_i n hn
  split at ha
  · cases ha
  rename_i new hnew
  cases hzz : Nat.beq zero.length z && Nat.ble 1 z
  · rw [hzz] at ha; cases ha
  rw [hzz, cond_true] at ha
  rw [Bool.and_eq_true] at hzz
  have hzl : zero.length = z := Nat.eq_of_beq_eq_true hzz.1
  have hz1 : 1 ≤ z := Nat.le_of_ble_eq_true hzz.2
  rw [hzl] at hzs
  obtain ⟨vals, hvals, hvlen, hrunx⟩ := run_firsts (P := P) h hnew hx
  have hlen := run_lenOf (P := P) hn hx
  have hnl : new.length = n * z := by rw [hvals.length, hvlen]
  have fit : ∀ (base : Option Addr) (l k : Nat), l + n ≤ k → (Builtin.append_ #[t, u] ty #[.slice base l k, vx]).run P w =
      (match base with | some a => (storeCells (a.add (l * z)) vals).run P w | none => .ok () w).andThen fun _ w' => .ok (.slice base (l + n) k) w' := fun base l k hk => by
    simp only [Builtin.append_, List.getElem?_toArray, List.getElem?_cons_zero, List.getElem?_cons_succ, Sem.run_bind, run_underlying ht, run_underlying hu, Result.andThen_ok, sizeOf, typeInfo, run_program, hi, Sem.run_pure, hz, Bool.false_eq_true,
      if_false, hlen, hk, Bool.not_false, if_true, hrunx w (fun _ _ _ _ _ => rfl)]
    cases base <;> simp
  have grow : ∀ (base : Option Addr) (l k : Nat) (old : List AC) (ov : List Value) (H₁ : AH) (hH₁ : RH ρ H₁ w), k < l + n → room i.bytes (l + n) = true → RCs ρ old ov → old.length = l * z →
      (Builtin.firstCells z l (.slice base l k)).run P w.drew = .ok ov.toArray w.drew →
      ∃ v w' ρ', (Builtin.append_ #[t, u] ty #[.slice base l k, vx]).run P w = .ok v w' ∧ St ρ H₁ w ρ' (H₁.new (.cells (old ++ new) false)) w' ∧ R1 ρ' (mk1 (.osl H₁.n (l + n) z)) v := by
    intro base l k old ov H₁ hH₁ hk hroom hold hol hrun
    obtain ⟨cap, arr, rest, hr, hc, hsz, hls⟩ := run_grow (ty := ty) (vx := vx) ht hu hi hz hzero hzs hk hroom hlen hrun (hrunx _ (fun _ _ _ _ _ => rfl)) (by rw [← hold.length, hol]) hvlen
    have hst := St.new (o := .cells (old ++ new) false) (m := cap * z) (obj := .cells arr e) hH₁.drew ⟨arr, e, ov ++ vals, rest, rfl, hsz, hls, hold.append hvals, by simp⟩
    refine ⟨_, _, _, hr, ⟨hst.ext, hst.rh, hst.p, hst.frame, hst.own, hst.live, hst.os, hst.tape, hst.output, hst.size⟩, ?_⟩
    exact ⟨w.heap.size, cap * z, cap, by simp [up_r], rfl, hc, Nat.le_refl _⟩
  cases s <;> (try dsimp only at ha) <;> simp only [RC] at hs
  case nils =>
    subst hs
    cases hb : Nat.beq n 0
    · rw [hb, cond_false] at ha
      cases hroom : room i.bytes n
      · rw [hroom] at ha; cases ha
      · rw [hroom, cond_true] at ha
        simp at ha
        obtain ⟨rfl, rfl⟩ := ha
        have hne : n ≠ 0 := fun e0 => by subst e0; simp at hb
        obtain ⟨v, w', ρ', h1, h2, h3⟩ := grow none 0 0 [] [] H h (by omega) (by simpa using hroom) .nil (by simp) (by rfl)
        simp only [Nat.zero_add, List.nil_append] at h1 h2 h3
        exact ⟨v, w', ρ', h1, h2, h3⟩
    · rw [hb, cond_true] at ha
      simp at ha
      obtain ⟨rfl, rfl⟩ := ha
      have := Nat.eq_of_beq_eq_true hb
      subst this
      exact ⟨_, _, ρ, fit none 0 0 (by omega), St.refl h, rfl⟩
  case sl b o l cap =>
    obtain ⟨c, m, k, hc, rfl, hlk, hcap⟩ := hs
    cases cap with
    | none => cases ha
    | some cap =>
      have := hcap cap rfl
      subst this
      simp only [] at ha
      cases hb : Nat.ble (Nat.add l n) k
      · rw [hb, cond_false] at ha
        cases hroom : room i.bytes (Nat.add l n) && Nat.ble l k
        · rw [hroom] at ha; cases ha
        · rw [hroom, cond_true] at ha
          rw [Bool.and_eq_true] at hroom
          split at ha
          · rename_i old hold
            simp at ha
            obtain ⟨rfl, rfl⟩ := ha
            have hlt : k < l + n := by
              rcases Nat.lt_or_ge k (l + n) with h' | h'
              · exact h'
              · have hb' : Nat.ble (l + n) k = true := Nat.ble_eq ▸ h'
                exact absurd (hb.symm.trans hb') (by simp)
            obtain ⟨ov, h1, h2, h3⟩ := run_read (P := P) h hold hc
            exact grow (some ⟨c, o, none⟩) l k old ov H h hlt hroom.1 h1 (by rw [h1.length, h2]; rfl) (h3 w.drew rfl)
          · cases ha
      · rw [hb, cond_true] at ha
        have hle := Nat.le_of_ble_eq_true hb
        split at ha
        · rename_i H₁ hw
          simp at ha
          obtain ⟨rfl, rfl⟩ := ha
          obtain ⟨w', hr, hst⟩ := run_write (P := P) h hw hc hvals
          refine ⟨.slice (some ⟨c, o, none⟩) (l + n) k, w', ρ, (fit (some ⟨c, o, none⟩) l k hle).trans ?_, hst, ?_⟩
          · simp only [Addr.add_mk]
            rw [show (Nat.add o (Nat.mul l z)) = o + l * z from rfl] at hr
            rw [hr]
            rfl
          · exact ⟨c, m, k, hc, rfl, hle, fun k' hk' => by simpa using hk'⟩
        · cases ha
  case osl b l z' =>
    obtain ⟨c, m, k, hc, rfl, hlk, hkm⟩ := hs
    cases hroom : Nat.beq z z' && room i.bytes (Nat.add l n)
    · rw [hroom] at ha; cases ha
    rw [hroom, cond_true] at ha
    rw [Bool.and_eq_true] at hroom
    have hzz' := Nat.eq_of_beq_eq_true hroom.1
    subst hzz'
    cases hp : memN H.p b
    · rw [hp, cond_false] at ha
      split at ha
      · rename_i old hb
        cases hol : Nat.beq old.length (Nat.mul l z)
        · rw [hol] at ha; cases ha
        rw [hol, cond_true] at ha
        simp at ha
        obtain ⟨rfl, rfl⟩ := ha
        have holl : old.length = l * z := Nat.eq_of_beq_eq_true hol
        by_cases hle : l + n ≤ k
        · -- in place
          have hroomy : old.length + new.length ≤ m := by
            rw [holl, hnl, ← Nat.add_mul]
            exact Nat.le_trans (Nat.mul_le_mul_right z hle) hkm
          obtain ⟨w', hr, hst⟩ := run_write_at (P := P) (off := old.length) (cs' := old ++ new) h hb hp hc hvals hroomy (Nat.le_refl _) (by simp)
          have hst2 := St.rename (b := b) (o := .cells (old ++ new) false) hst.rh (by rw [Tr.get_put, if_pos rfl]) hp hc
          have hst3 := hst.trans hst2
          refine ⟨.slice (some ⟨c, 0, none⟩) (l + n) k, w', _, (fit (some ⟨c, 0, none⟩) l k hle).trans ?_, hst3.congr (fun i => ?_) ?_ ?_, ?_⟩
          · simp only [Addr.add_mk, Nat.zero_add]
            rw [← holl, hr]
            rfl
          · simp only [AH.new_eq, Sv.drop, Tr.get_put]
            split
            · rfl
            · split <;> rfl
          · simp [AH.new_eq, Sv.drop]
          · simp [AH.new_eq, Sv.drop]
          · refine ⟨c, m, k, by simp [up_r], rfl, hle, hkm⟩
        · obtain ⟨arr, e1, pre, rest, g1, g2, g3, g4, g5⟩ := h.cells hb hc
          have hcut : H.read b 0 (l * z) = some old := by
            unfold AH.read
            rw [hb]
            have hh : ∀ cs : List AC, cut cs 0 cs.length = some cs := fun cs => by
              induction cs with
              | nil => rfl
              | cons a cs ih => simp [cut, ih]
            simp only []
            rw [← holl, hh]
          obtain ⟨ov, h1, h2, h3⟩ := run_read (P := P) h hcut hc
          obtain ⟨v, w', ρ', q1, q2, q3⟩ := grow (some ⟨c, 0, none⟩) l k old ov (Sv.drop H b) (h.drop b) (by omega) hroom.2 h1 holl (h3 w.drew rfl)
          refine ⟨v, w', ρ', q1, (St.drop h b).trans q2, q3⟩
      · cases ha
    · rw [hp] at ha; cases ha
  all_goals cases ha

/-- copy(d, x). -/
theorem run_copy (ht : P.underlying t = some (.slice e)) (hi : P.info? e = some i) (hz : i.size = z) (h : RH ρ H w) {d x : AC} {vd vx : Value} (hd : RC ρ d vd) (hx : RC ρ x vx) {r : AT} {H' : AH}
    (ha : copyA H z d x = some (r, H')) :
    ∃ v w', (Builtin.copy_ #[t, u] ty #[vd, vx]).run P w = .ok v w' ∧ St ρ H w ρ H' w' ∧ R1 ρ r v := by
  unfold copyA at ha
  split at ha
  · rename_i l m hl hm
    simp only [] at ha
    split at ha
    · cases ha
    rename_i new hnew
    obtain ⟨vals, hvals, hvlen, hrunx⟩ := run_firsts (P := P) h hnew hx
    have hlen := run_lenOf (P := P) hm hx
    have go : ∀ (base : Option Addr) (k : Nat), (Builtin.copy_ #[t, u] ty #[.slice base l k, vx]).run P w =
        (match base with | some a => (storeCells a vals).run P w | none => .ok () w).andThen fun _ w' => .ok (goInt (Nat.min m l)) w' := fun base k => by
      simp only [Builtin.copy_, List.getElem?_toArray, List.getElem?_cons_zero, List.getElem?_cons_succ, Sem.run_bind, run_underlying ht, Result.andThen_ok, sizeOf, typeInfo, run_program, hi, Sem.run_pure, hz, hlen, hrunx w (fun _ _ _ _ _ => rfl)]
      cases base <;> simp
    cases d <;> (try dsimp only at ha) <;> simp only [RC] at hd
    case nils =>
      subst hd
      simp at ha
      obtain ⟨rfl, rfl⟩ := ha
      simp [lenOf] at hl
      subst hl
      exact ⟨_, _, go none 0, St.refl h, rfl⟩
    case sl b o l' cap =>
      obtain ⟨c, m', k, hc, rfl, _⟩ := hd
      simp [lenOf] at hl
      subst hl
      split at ha
      · rename_i H₁ hw
        simp at ha
        obtain ⟨rfl, rfl⟩ := ha
        obtain ⟨w', hr, hst⟩ := run_write (P := P) h hw hc hvals
        exact ⟨_, w', (go (some ⟨c, o, none⟩) k).trans (by simp only [hr]; rfl), hst, rfl⟩
      · cases ha
    case osl b l' z' =>
      obtain ⟨c, m', k, hc, rfl, _⟩ := hd
      simp [lenOf] at hl
      subst hl
      split at ha
      · rename_i H₁ hw
        simp at ha
        obtain ⟨rfl, rfl⟩ := ha
        obtain ⟨w', hr, hst⟩ := run_write (P := P) h hw hc hvals
        exact ⟨_, w', (go (some ⟨c, 0, none⟩) k).trans (by simp only [hr]; rfl), hst, rfl⟩
      · cases ha
    all_goals cases ha
  · cases ha
end
end
end Go.Sv
