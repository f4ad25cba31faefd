/- Operations that make or turn memory. No conditions.
-/
import Derived.Test.YtepeiijjldpcpaaGreatSvF
set_option linter.all false
namespace Go.Sv
variable [gi : GoodC]

section
variable {P : Program} {ρ : Rho} {T : Tr AT} {a : Act} {w : World} {H : AH} {dst : Option Tmp} {ty : TypeId} {pos : String} {after : Array Edge} {guard : Option (Nat × Bool)}
variable {callf : Nat → List AV → AH → Option (AT × AH)} {r : AT} {H' : AH}

/- ### Slices -/

theorem run_bound (hT : RT ρ T a.tmps) {y d n : Nat} {o : Option Operand} {o' : Option AOpnd} (hx : cOO o = some o') (h : bound T y d o' = some n) (code : BoundsCode) (w : World) :
    (match o.map a.eval with | some v => Instr.sliceBound v y code | none => pure d).run P w = .ok n w ∧ (o.isSome = true → n ≤ y) ∧ (o = none → n = d) := by
  cases o with
  | none =>
    simp [cOO] at hx
    subst hx
    simp only [bound, Option.some.injEq] at h
    subst h
    exact ⟨rfl, by simp, fun _ => rfl⟩
  | some x =>
    simp only [cOO] at hx
    split at hx
    · rename_i x' hx'
      simp only [Option.some.injEq] at hx
      subst hx
      simp only [bound] at h
      split at h
      · rename_i k i hi
        split at h
        · rename_i hb
          simp only [Option.some.injEq] at h
          subst h
          have hv : a.eval x = .int k i := evC_rel hT hx' hi
          refine ⟨?_, fun _ => by omega, by simp⟩
          simp [hv, Instr.sliceBound, asIntOf, hb]
        · cases h
      · cases h
    · cases hx

theorem run_sliceBounds (hT : RT ρ T a.tmps) {isSlice : Bool} {len cap h l : Nat} {lo hi : Option Operand} {lo' hi' : Option AOpnd} (hlo : cOO lo = some lo') (hhi : cOO hi = some hi') (h1 : bound T cap len hi' = some h) (h2 : bound T h 0 lo' = some l) (w : World) :
    (Instr.sliceBounds isSlice len cap (lo.map a.eval) (hi.map a.eval) none).run P w = .ok (l, h, cap) w := by
  obtain ⟨g1, _, _⟩ := run_bound (P := P) hT hhi h1 (if isSlice then .sliceAcap else .sliceAlen) w
  obtain ⟨g2, _, _⟩ := run_bound (P := P) hT hlo h2 .sliceB w
  simp only [Instr.sliceBounds, Sem.run_bind, Sem.run_pure, Result.andThen_ok, Option.isSome_none, Bool.false_eq_true, if_false]
  cases hi <;> cases lo <;> simp only [Option.map_none, Option.map_some, Sem.run_pure] at g1 g2 ⊢ <;> simp_all

theorem bound_le (T : Tr AT) {y d n : Nat} {o : Option AOpnd} (h : bound T y d o = some n) (hd : d ≤ y) : n ≤ y := by
  unfold bound at h
  split at h
  · simp only [Option.some.injEq] at h; omega
  · split at h
    · split at h
      · simp only [Option.some.injEq] at h; omega
      · cases h
    · cases h

theorem y_slice (hT : RT ρ T a.tmps) {t : TypeId} {z : Nat} {arr : Option Nat} {x : Operand} {lo hi : Option Operand} {x' : AOpnd} {lo' hi' : Option AOpnd} (hx : cO x = some x') (hlo : cOO lo = some lo') (hhi : cOO hi = some hi')
    (ht : (∃ n e, arr = some n ∧ P.underlying t = some (.array n e) ∧ cSize P e = some z) ∨ (∃ e, arr = none ∧ P.underlying t = some (.slice e) ∧ cSize P e = some z))
    (he : evOp callf T (.slice z arr x' lo' hi') H = some (r, H')) : H' = H ∧ Yld P ρ none a w ⟨dst, .slice t x lo hi none, ty, pos, after, guard⟩ r := by
  simp only [evOp] at he
  split at he
  · rename_i q hq
    obtain ⟨y, hy, rfl, rfl⟩ := some1_spec he
    have hv := evC_rel hT hx hq
    refine ⟨rfl, ?_⟩
    have hexec : execOp a.eval ⟨dst, .slice t x lo hi none, ty, pos, after, guard⟩ = (do pure (.value (← Instr.sliceAt t (a.eval x) (lo.map a.eval) (hi.map a.eval) none))) := rfl
    rcases ht with ⟨n, e, rfl, hu, hs⟩ | ⟨e, rfl, hu, hs⟩
    · cases q <;> simp only [sliceA] at hy <;> first | (cases hy; done) | skip
      rename_i b o
      split at hy
      · cases hy
      rename_i h hh
      split at hy
      · cases hy
      rename_i l hl
      simp only [Option.some.injEq] at hy
      subst hy
      obtain ⟨c, m, hc, hv⟩ := hv
      have hb : ∀ w, (Instr.sliceBounds false n n (lo.map a.eval) (hi.map a.eval) none).run P w = .ok (l, h, n) w := fun w => run_sliceBounds (P := P) hT hlo hhi hh hl w
      have hle : h ≤ n := bound_le T hh (Nat.le_refl _)
      refine Yld.plain (v := .slice (some ⟨c, bif Nat.beq n l then o else Nat.add o (Nat.mul l z), none⟩) (h - l) (n - l)) hexec ⟨c, m, n - l, hc, rfl, by omega, by simp⟩ fun w' => ?_
      rw [hv]
      simp only [Instr.sliceAt, Sem.run_bind, run_underlying hu, Result.andThen_ok, Instr.sureAddr, Sem.run_pure, hb, run_size hs, Addr.add_mk]
      congr 3
      by_cases e : n = l
      · subst e; simp
      · have : Nat.beq n l = false := Bool.eq_false_iff.2 fun e' => e (Nat.eq_of_beq_eq_true e')
        simp only [if_neg e, this, cond_false]
        rfl
    · have hat : ∀ (base : Option Addr) (len cap h l : Nat), a.eval x = .slice base len cap → bound T cap len hi' = some h → bound T h 0 lo' = some l →
          ∀ w, (Instr.sliceAt t (a.eval x) (lo.map a.eval) (hi.map a.eval) none).run P w = .ok (.slice (if cap = l then base else base.map (·.add (l * z))) (h - l) (cap - l)) w := fun base len cap h l hv hh hl w => by
        have hb := run_sliceBounds (P := P) (isSlice := true) hT hlo hhi hh hl w
        rw [hv]
        simp only [Instr.sliceAt, Sem.run_bind, run_underlying hu, Result.andThen_ok, Instr.slice, hb, run_size hs, Sem.run_pure]
      cases q <;> simp only [sliceA] at hy <;> first | (cases hy; done) | skip
      · -- nil
        simp only [RC] at hv
        split at hy
        · rename_i h l hh hl
          simp only [Option.some.injEq] at hy
          subst hy
          have h0 : h = 0 := by have := bound_le T hh (Nat.le_refl _); omega
          subst h0
          have l0 : l = 0 := by have := bound_le T hl (Nat.le_refl _); omega
          subst l0
          exact Yld.plain hexec rfl fun w' => by rw [hat none 0 0 0 0 hv hh hl w']; rfl
        · cases hy
      · rename_i b o len cap
        obtain ⟨c, m, k, hc, hv, hlk, hcap⟩ := hv
        cases cap with
        | none => simp at hy
        | some cap =>
          have := hcap cap rfl
          subst this
          simp only [] at hy
          split at hy
          · cases hy
          rename_i h hh
          split at hy
          · cases hy
          rename_i l hl
          simp only [Option.some.injEq] at hy
          subst hy
          have hle : h ≤ k := bound_le T hh hlk
          refine Yld.plain (v := .slice (some ⟨c, bif Nat.beq k l then o else Nat.add o (Nat.mul l z), none⟩) (h - l) (k - l)) hexec ⟨c, m, k - l, hc, rfl, by omega, by simp⟩ fun w' => ?_
          rw [hat _ _ _ _ _ hv hh hl w']
          by_cases e : k = l
          · subst e; simp
          · have : Nat.beq k l = false := Bool.eq_false_iff.2 fun e' => e (Nat.eq_of_beq_eq_true e')
            simp only [if_neg e, this, cond_false, Option.map_some, Addr.add_mk]
            rfl
      · rename_i b len z'
        obtain ⟨c, m, k, hc, hv, hlk, hkm⟩ := hv
        split at hy
        · cases hy
        rename_i h hh
        split at hy
        · cases hy
        rename_i l hl
        have hhl : h ≤ len := bound_le T hh (Nat.le_refl _)
        have hlh : l ≤ h := bound_le T hl (Nat.zero_le _)
        have hh' : bound T k len hi' = some h := by
          unfold bound at hh ⊢
          split
          · exact hh
          · simp only [] at hh ⊢
            split
            · rename_i i hi
              rw [hi] at hh
              simp only [] at hh
              split at hh
              · rename_i hb
                rw [if_pos (by omega)]
                exact hh
              · cases hh
            · rename_i hno
              split at hh
              · rename_i i hi; exact absurd hi (hno _ _)
              · cases hh
        cases hz : Nat.beq z z'
        · rw [hz] at hy; cases hy
        rw [hz, cond_true] at hy
        have hzz := Nat.eq_of_beq_eq_true hz
        subst hzz
        cases hl0 : Nat.beq l 0
        · rw [hl0, cond_false] at hy
          cases hlt : Nat.ble (Nat.succ l) len
          · rw [hlt] at hy; cases hy
          rw [hlt, cond_true] at hy
          simp only [Option.some.injEq] at hy
          subst hy
          have hlt' : l < len := Nat.le_of_ble_eq_true hlt
          refine Yld.plain (v := .slice (some ⟨c, l * z, none⟩) (h - l) (k - l)) hexec ⟨c, m, k - l, hc, rfl, by omega, by simp⟩ fun w' => ?_
          rw [hat _ _ _ _ _ hv hh' hl w', if_neg (by omega)]
          simp [Addr.add_mk]
        · rw [hl0, cond_true] at hy
          simp only [Option.some.injEq] at hy
          subst hy
          have hl0' := Nat.eq_of_beq_eq_true hl0
          subst hl0'
          refine Yld.plain (v := .slice (some ⟨c, 0, none⟩) h k) hexec ⟨c, m, k, hc, rfl, by omega, hkm⟩ fun w' => ?_
          rw [hat _ _ _ _ _ hv hh' hl w']
          by_cases e : k = 0
          · subst e; simp
          · rw [if_neg e]; simp [Addr.add_mk]
  · cases he

/- ### Maps -/

theorem sameInts_eq {l m : List AC} (h : sameInts l m = some true) {vl vm : List Value} (hl : RCs ρ l vl) (hm : RCs ρ m vm) : vl = vm := by
  induction hl generalizing m vm with
  | nil => cases hm with
    | nil => rfl
    | cons _ _ => simp [sameInts] at h
  | cons h0 h1 ih =>
    cases hm with
    | nil => rename_i x v l vl; cases x <;> simp [sameInts] at h
    | cons g0 g1 =>
      rename_i x v l vl y u m vm
      cases x <;> cases y <;> simp only [sameInts] at h <;> first | (cases h; done) | skip
      split at h
      · rename_i hk
        subst hk
        split at h
        · rename_i t ht
          simp only [Option.some.injEq, Bool.and_eq_true] at h
          obtain ⟨h2, rfl⟩ := h
          simp only [beq_iff_eq] at h2
          subst h2
          simp only [RC] at h0 g0
          rw [ih ht g1, h0, g0]
        · cases h
      · cases h

theorem sameInts_ints {l m : List AC} {t : Bool} (h : sameInts l m = some t) {vm : List Value} (hm : RCs ρ m vm) : ∀ v ∈ vm, ∃ k n, v = .int k n := by
  obtain ⟨h1, h2, _⟩ := sameInts_spec h
  intro v hv
  obtain ⟨i, hi, rfl⟩ := List.mem_iff_getElem.1 hv
  have hlen := hm.length
  obtain ⟨k, _, g2⟩ := h2 i (by omega)
  obtain ⟨u, e1, e2⟩ := All2.get hm g2
  rw [List.getElem?_eq_getElem hi] at e1
  simp only [Option.some.injEq] at e1
  simp only [RC] at e2
  exact ⟨_, _, e1.trans e2⟩

theorem sameBits_ints : ∀ (l : List Value), (∀ v ∈ l, ∃ k n, v = .int k n) → ((l.zip l).all fun (x, y) => Instr.sameBits 9999 x y) = true
  | [], _ => rfl
  | v :: l, h => by
    obtain ⟨k, n, rfl⟩ := h v (by simp)
    have ih := sameBits_ints l (fun u hu => h u (by simp [hu]))
    simp only [List.zip_cons_cons, List.all_cons, ih, Bool.and_true]
    simp [Instr.sameBits]

theorem sameKey_eq {k x : AV} {b : Bool} (h : sameKey k x = some b) {vk vx : Value} (hk : RV ρ k vk) (hx : RV ρ x vx) : b = true → vk = vx ∧ Instr.sameBits 10000 vx vk = true := by
  intro hb
  subst hb
  cases k <;> cases x <;> simp only [sameKey] at h <;> first | (cases h; done) | skip
  · have := sameInts_eq h (ρ := ρ) (.cons hk .nil) (.cons hx .nil)
    simp only [List.cons.injEq, and_true] at this
    subst this
    obtain ⟨q, n, rfl⟩ := sameInts_ints h (ρ := ρ) (vm := [vk]) (.cons hx .nil) vk (by simp)
    exact ⟨rfl, by simp [Instr.sameBits]⟩
  · obtain ⟨vs, rfl, hvs⟩ := hk
    obtain ⟨us, rfl, hus⟩ := hx
    have := sameInts_eq h hvs hus
    subst this
    refine ⟨rfl, ?_⟩
    have hb := sameBits_ints vs (sameInts_ints h hus)
    show Instr.sameBits (9999 + 1) _ _ = true
    simp only [Instr.sameBits, beq_self_eq_true, Bool.true_and]
    exact hb

/-- What the model answers to a key. -/
def ansOf (ens : List MapEntry) (i : Nat) : Option (Nat × AV) → Option (Nat × Value)
  | none => none
  | some (j, _) => some (j, ((ens[j - i]?).map (·.val)).getD undef)

def KeyRuns (P : Program) (kt : TypeId) (vk : Value) (w : World) (ens : List MapEntry) (i : Nat) (ans : Option (Nat × Value)) : Option Nat → Prop
  | none => ∃ q, P.underlying kt = some (.int q) ∧ Instr.findNow (.int q) vk ens i = some ans
  | some _ => (Instr.findAsking kt vk ens i).run P w = .ok ans w

def Found (ρ : Rho) (vk : Value) (es : List (AV × AV)) (ens : List MapEntry) (i : Nat) : Option (Nat × AV) → Prop
  | none => True
  | some (j, v) => i ≤ j ∧ ∃ e, ens[j - i]? = some e ∧ (∃ x, es[j - i]? = some (x, v)) ∧ RV ρ v e.val ∧ e.key = vk ∧ Instr.sameBits 10000 e.key vk = true

def Tells (P : Program) (kt : TypeId) (vk : Value) (w : World) (b : Bool) (e : Value) : Option Nat → Prop
  | none => ∀ q, Instr.sameNow (.int q) vk e = some b
  | some _ => (Op.equal kt vk e).run P w = .ok b w

theorem cKey_int {kt : TypeId} (hkt : cKey P kt = some none) : ∃ q, P.underlying kt = some (.int q) := by
  unfold cKey at hkt
  split at hkt
  · rename_i q hq; exact ⟨q, hq⟩
  · split at hkt <;> simp at hkt

theorem cKey_arr {kt : TypeId} {n : Nat} (hkt : cKey P kt = some (some n)) : cInts P kt = some n := by
  unfold cKey at hkt
  split at hkt
  · simp at hkt
  · split at hkt
    · rename_i m hm; simp only [Option.some.injEq] at hkt; subst hkt; exact hm
    · cases hkt

theorem tells {kt : TypeId} {key : Option Nat} (hkt : cKey P kt = some key) {k x : AV} {vk vx : Value} (hok : keyOk key k = true) (hk : RV ρ k vk) (hx : RV ρ x vx) (w : World) {b : Bool} (hb : sameKey k x = some b) : Tells P kt vk w b vx key := by
  cases key with
  | none =>
    intro q
    cases k with
    | agg _ => simp [keyOk] at hok
    | c c1 =>
      cases x with
      | agg _ => simp [sameKey] at hb
      | c c2 =>
        simp only [sameKey] at hb
        cases c1 <;> cases c2 <;> simp only [sameInts] at hb <;> first | (cases hb; done) | skip
        split at hb
        · rename_i hkk
          subst hkk
          simp only [Option.some.injEq, Bool.and_true] at hb
          have e1 : vk = _ := hk
          have e2 : vx = _ := hx
          rw [e1, e2]
          simp [Instr.sameNow, hb]
        · cases hb
  | some n =>
    have hi := cKey_arr hkt
    cases k with
    | c c1 => simp [keyOk] at hok
    | agg ks =>
      cases x with
      | c _ => simp [sameKey] at hb
      | agg xs =>
        obtain ⟨vs, rfl, hvs⟩ := hk
        obtain ⟨us, rfl, hus⟩ := hx
        simp only [keyOk] at hok
        exact run_equal_arr hi 9998 hvs hus (Nat.eq_of_beq_eq_true hok) hb w

/-- Looking a key up. -/
theorem run_findKey {kt : TypeId} {key : Option Nat} (hkt : cKey P kt = some key) {k : AV} {vk : Value} (hok : keyOk key k = true) (hk : RV ρ k vk) (w : World) {es : List (AV × AV)} {ens : List MapEntry} (hes : All2 (RE ρ) es ens) :
    ∀ {i : Nat} {res : Option (Nat × AV)}, findK k es i = some res → KeyRuns P kt vk w ens i (ansOf ens i res) key ∧ Found ρ vk es ens i res := by
  induction hes with
  | nil =>
    intro i res h
    simp only [findK, Option.some.injEq] at h
    subst h
    refine ⟨?_, trivial⟩
    cases key with
    | none => obtain ⟨q, hq⟩ := cKey_int hkt; exact ⟨q, hq, rfl⟩
    | some n => simp [KeyRuns, Instr.findAsking, ansOf]
  | cons h0 h1 ih =>
    rename_i x e es ens
    obtain ⟨xk, xv⟩ := x
    intro i res h
    simp only [findK] at h
    split at h
    · -- found
      rename_i hs
      simp only [Option.some.injEq] at h
      subst h
      have hq := tells hkt hok hk h0.1 w hs
      obtain ⟨g1, g2⟩ := sameKey_eq hs hk h0.1 rfl
      refine ⟨?_, Nat.le_refl _, e, by simp, ⟨xk, by simp⟩, h0.2, g1.symm, g2⟩
      cases key with
      | none =>
        obtain ⟨q, hq'⟩ := cKey_int hkt
        exact ⟨q, hq', by simp only [Instr.findNow, hq q]; simp [ansOf]⟩
      | some n =>
        simp only [Tells] at hq
        simp only [KeyRuns, Instr.findAsking, Sem.run_bind, hq, Result.andThen_ok, if_true]
        simp [ansOf]
    · rename_i hs
      have hq := tells hkt hok hk h0.1 w hs
      obtain ⟨i1, i2⟩ := ih h
      have shift : ansOf ens (Nat.succ i) res = ansOf (e :: ens) i res := by
        cases res with
        | none => rfl
        | some p =>
          obtain ⟨j, v⟩ := p
          have hle : Nat.succ i ≤ j := i2.1
          have : j - i = (j - Nat.succ i) + 1 := by omega
          simp only [ansOf, this, List.getElem?_cons_succ]
      refine ⟨?_, ?_⟩
      · cases key with
        | none =>
          obtain ⟨q, hq', hf⟩ := i1
          refine ⟨q, hq', ?_⟩
          simp only [Instr.findNow, hq q]
          rw [show i + 1 = Nat.succ i from rfl, hf, shift]
        | some n =>
          simp only [Tells] at hq
          simp only [KeyRuns] at i1 ⊢
          simp only [Instr.findAsking, Sem.run_bind, hq, Result.andThen_ok, Bool.false_eq_true, if_false]
          rw [show i + 1 = Nat.succ i from rfl, i1, shift]
      · cases res with
        | none => trivial
        | some p =>
          obtain ⟨j, v⟩ := p
          obtain ⟨g0, e', g1, ⟨x', g2⟩, g3⟩ := i2
          have : j - i = (j - Nat.succ i) + 1 := by omega
          refine ⟨by omega, e', ?_, ⟨x', ?_⟩, g3⟩
          · rw [this]; simpa using g1
          · rw [this]; simpa using g2
    · cases h

/-- What the model answers to a key, whole. -/
def Finds (P : Program) (ρ : Rho) (kt : TypeId) (vk : Value) (w : World) (es : List (AV × AV)) (ens : List MapEntry) : Option (Nat × AV) → Prop
  | none => (Instr.findKey kt vk ens).run P w = .ok none w
  | some (j, v) => ∃ e, ens[j]? = some e ∧ (∃ x, es[j]? = some (x, v)) ∧ RV ρ v e.val ∧ e.key = vk ∧ Instr.sameBits 10000 e.key vk = true ∧ (Instr.findKey kt vk ens).run P w = .ok (some (j, e.val)) w

theorem run_find {kt : TypeId} {key : Option Nat} (hkt : cKey P kt = some key) {k : AV} {vk : Value} (hok : keyOk key k = true) (hk : RV ρ k vk) (w : World) {es : List (AV × AV)} {ens : List MapEntry} (hes : All2 (RE ρ) es ens) {res : Option (Nat × AV)} (h : findK k es 0 = some res) :
    Finds P ρ kt vk w es ens res := by
  obtain ⟨h1, h2⟩ := run_findKey hkt hok hk w hes h
  have hrun : (Instr.findKey kt vk ens).run P w = .ok (ansOf ens 0 res) w := by
    cases key with
    | none =>
      obtain ⟨q, hq, hf⟩ := h1
      simp only [Instr.findKey, Sem.run_bind, run_underlying hq, Result.andThen_ok, hf]
      rfl
    | some n =>
      obtain ⟨e, q, i, hu, _⟩ := cInts_spec (cKey_arr hkt)
      rw [run_findKey_eq w (by rw [hu])]
      exact h1
  cases res with
  | none => exact hrun
  | some p =>
    obtain ⟨j, v⟩ := p
    obtain ⟨_, e, g1, g2, g3, g4, g5⟩ := h2
    simp only [Nat.sub_zero] at g1 g2
    exact ⟨e, g1, g2, g3, g4, g5, by rw [hrun]; simp [ansOf, g1]⟩

theorem run_check_int (d : Nat) {kt : TypeId} {q : IntKind} (hq : P.underlying kt = some (.int q)) (em : Bool) (v : Value) (w : World) : (Instr.checkKey em (d + 1) kt v).run P w = .ok () w := by
  simp [Instr.checkKey, run_underlying hq]

theorem run_check_arr (D : Nat) {kt : TypeId} {n : Nat} (hi : cInts P kt = some n) (em : Bool) (hD : ∀ e q v w, P.underlying e = some (.int q) → (Instr.checkKey em D e v).run P w = .ok () w) (vs : List Value) (hlen : vs.length = n) (w : World) : (Instr.checkKey em (D + 1) kt (.agg vs.toArray)).run P w = .ok () w := by
  obtain ⟨e, q, i, hu, he, hinfo, hsz⟩ := cInts_spec hi
  have hs : (sizeOf e).run P w = .ok 1 w := by rw [run_sizeOf w hinfo, hsz]
  simp only [Instr.checkKey, Sem.run_bind, run_underlying hu, Result.andThen_ok]
  simp only [Std.Legacy.Range.forIn_eq_forIn_range', Std.Legacy.Range.size, Nat.sub_zero, Nat.add_one_sub_one, Nat.div_one]
  have key : ∀ (is : List Nat) (b : PUnit), (∀ j ∈ is, j < n) → (forIn is b fun (i : Nat) (_ : PUnit) => do
      let u ← part e vs.toArray (i * (← sizeOf e))
      Instr.checkKey em D e u
      pure (ForInStep.yield PUnit.unit) : Sem PUnit).run P w = .ok PUnit.unit w := by
    intro is
    induction is with
    | nil => intro b _; rfl
    | cons j is ih =>
      intro b hj
      have hjn := hj j (by simp)
      obtain ⟨v, hv⟩ : ∃ v, vs[j]? = some v := ⟨vs[j]'(by omega), List.getElem?_eq_getElem (by omega)⟩
      have hp : (part e vs.toArray j).run P w = .ok v w := by simp [part, isAgg, run_underlying he, hv]
      have hc := hD e q v w he
      simp only [List.forIn_cons, Sem.run_bind, hs, Result.andThen_ok, Nat.mul_one, hp, hc, Sem.run_pure]
      exact ih _ (fun k hk => hj k (by simp [hk]))
  have := key (List.range' 0 n) PUnit.unit (fun j hj => by simpa using hj)
  simp at this ⊢
  rw [this]
  rfl

theorem run_check {kt : TypeId} {key : Option Nat} (hkt : cKey P kt = some key) {k : AV} {vk : Value} (hok : keyOk key k = true) (hk : RV ρ k vk) (em : Bool) (w : World) : (Instr.checkKey em 10000 kt vk).run P w = .ok () w := by
  cases key with
  | none => obtain ⟨q, hq⟩ := cKey_int hkt; exact run_check_int 9999 hq em vk w
  | some n =>
    cases k with
    | c x => simp [keyOk] at hok
    | agg xs =>
      obtain ⟨vs, rfl, hvs⟩ := hk
      simp only [keyOk] at hok
      exact run_check_arr 9999 (cKey_arr hkt) em (fun e q v w he => run_check_int 9998 he em v w) vs (by rw [← hvs.length]; exact Nat.eq_of_beq_eq_true hok) w

/-- What a map operand holds. -/
def Holds (vm : Value) (ens : Array MapEntry) (w : World) : Prop := (vm = .map none ∧ ens = #[]) ∨ ∃ c, vm = .map (some c) ∧ w.heap[c]? = some (.map ens ens.size)

theorem run_lookup {t kt e : TypeId} (hu : P.underlying t = some (.map kt e)) {vm vk zv : Value} {ens : Array MapEntry} {w : World} (hm : Holds vm ens w) (hc : ∀ em, (Instr.checkKey em 10000 kt vk).run P w = .ok () w) {res : Option (Nat × Value)} (hf : (Instr.findKey kt vk ens.toList).run P w = .ok res w)
    (hz : (zeroValue e).run P w = .ok zv w) (ok : Bool) : (Instr.lookup t vm vk ok).run P w = .ok (match res with | some (_, v) => (if ok then .tuple #[v, .bool true] else v) | none => (if ok then .tuple #[zv, .bool false] else zv)) w := by
  rcases hm with ⟨rfl, rfl⟩ | ⟨c, rfl, hh⟩
  · cases res with
    | none => simp only [Instr.lookup, Sem.run_bind, run_underlying hu, Result.andThen_ok, Sem.run_pure, hc, hf, hz]
    | some p => simp only [Instr.lookup, Sem.run_bind, run_underlying hu, Result.andThen_ok, Sem.run_pure, hc, hf]
  · have hg : (getObj c).run P w = .ok (.map ens ens.size) w := by simp [getObj, Sem.run, hh]
    cases res with
    | none => simp only [Instr.lookup, Sem.run_bind, run_underlying hu, Result.andThen_ok, hg, Sem.run_pure, hc, hf, hz]
    | some p => simp only [Instr.lookup, Sem.run_bind, run_underlying hu, Result.andThen_ok, hg, Sem.run_pure, hc, hf]

/-- The entries that a map operand has. -/
theorem y_lookup (hT : RT ρ T a.tmps) (hH : RH ρ H w) {t kt e : TypeId} {key : Option Nat} {zero : AV} {m k : Operand} {m' k' : AOpnd} {ok : Bool} (hu : P.underlying t = some (.map kt e)) (hkt : cKey P kt = some key) (hz : cZeroV P e = some zero) (hm : cO m = some m') (hk : cO k = some k')
    (he : evOp callf T (.lookup key zero m' k' ok) H = some (r, H')) : H' = H ∧ Yld P ρ (rblk T (.lookup key zero m' k' ok)) a w ⟨dst, .lookup t m k ok, ty, pos, after, guard⟩ r := by
  simp only [evOp] at he
  split at he
  · rename_i x kv hx hkv
    cases hok : keyOk key kv
    · rw [hok] at he; cases he
    rw [hok, cond_true] at he
    have hvk := evV_rel hT hk hkv
    have hvm := evC_rel hT hm hx
    obtain ⟨zv, hzv, hzr⟩ := cZeroV_spec hz
    have hexec : execOp a.eval ⟨dst, .lookup t m k ok, ty, pos, after, guard⟩ = (do pure (.value (← Instr.lookup t (a.eval m) (a.eval k) ok))) := rfl
    have hent : ∀ es, (match x with | .nilm => some [] | .map b => H.getMap b | _ => none : Option (List (AV × AV))) = some es →
        ∃ ens : Array MapEntry, All2 (RE ρ) es ens.toList ∧ ∀ w', Looks ρ (rblk T (.lookup key zero m' k' ok)) w w' → Holds (a.eval m) ens w' := fun es hes => by
      cases x <;> simp only [] at hes <;> first | (cases hes; done) | skip
      · simp only [Option.some.injEq] at hes
        subst hes
        exact ⟨#[], .nil, fun w' _ => .inl ⟨hvm, rfl⟩⟩
      · rename_i b
        obtain ⟨c, l, hc, e0⟩ := hvm
        obtain ⟨_, ens, h1, h2, _⟩ := hH.map hes hc
        have hblk : rblk T (.lookup key zero m' k' ok) = some b := by simp [rblk, hx]
        exact ⟨ens, h2, fun w' hw => .inr ⟨c, e0, (hw b c l hblk hc).trans h1⟩⟩
    split at he
    · cases he
    rename_i es hes
    obtain ⟨ens, hens, hrun⟩ := hent es hes
    have hck := fun w' em => run_check (P := P) hkt hok hvk em w'
    split at he
    · cases he
    · rename_i hf
      simp only [Option.some.injEq, Prod.mk.injEq] at he
      obtain ⟨rfl, rfl⟩ := he
      refine ⟨rfl, Yld.of (v := if ok then .tuple #[zv, .bool false] else zv) hexec ?_ fun w' hw => ?_⟩
      · cases ok
        · exact hzr ρ
        · exact ⟨[zv, .bool false], rfl, .cons (hzr ρ) (.cons rfl .nil)⟩
      · have hfk := run_find (P := P) hkt hok hvk w' hens hf
        exact run_lookup hu (hrun w' hw) (hck w') hfk (hzv w') ok
    · rename_i j v hf
      simp only [Option.some.injEq, Prod.mk.injEq] at he
      obtain ⟨rfl, rfl⟩ := he
      obtain ⟨en, g1, _, g3, _, _, _⟩ := run_find (P := P) hkt hok hvk w hens hf
      refine ⟨rfl, Yld.of (v := if ok then .tuple #[en.val, .bool true] else en.val) hexec ?_ fun w' hw => ?_⟩
      · cases ok
        · exact g3
        · exact ⟨[en.val, .bool true], rfl, .cons g3 (.cons rfl .nil)⟩
      · obtain ⟨en', g1', _, _, _, _, hfk⟩ := run_find (P := P) hkt hok hvk w' hens hf
        rw [g1] at g1'
        simp only [Option.some.injEq] at g1'
        subst g1'
        exact run_lookup hu (hrun w' hw) (hck w') hfk (hzv w') ok
  · cases he
end
end Go.Sv

namespace Go.Sv
variable [gi : GoodC]

section
variable {P : Program} {ρ : Rho} {T : Tr AT} {a : Act} {w : World} {H : AH} {dst : Option Tmp} {ty : TypeId} {pos : String} {after : Array Edge} {guard : Option (Nat × Bool)}
variable {callf : Nat → List AV → AH → Option (AT × AH)} {r : AT} {H' : AH}

/-- The operation comes to something that stands to r, in a world that stands to H'. -/
def Does (P : Program) (ρ : Rho) (H : AH) (a : Act) (w : World) (o : Oper) (r : AT) (H' : AH) : Prop :=
  ∃ v w' ρ', ((execOp a.eval o).run P w = .ok (.value v) w' ∨ ((execOp a.eval o).run P w = .ok .skip w' ∧ v = undef)) ∧ St ρ H w ρ' H' w' ∧ R1 ρ' r v

theorem Does.of_yld {blk : Option Nat} {o : Oper} (hH : RH ρ H w) (h : H' = H ∧ Yld P ρ blk a w o r) : Does P ρ H a w o r H' := by
  obtain ⟨rfl, v, h1, h2⟩ := h
  exact ⟨v, w, ρ, .inl (h2 w (Looks.refl _ _ _)), St.refl hH, h1⟩

theorem Does.value {o : Oper} {s : Sem Value} {v : Value} {w' : World} {ρ' : Rho} (he : execOp a.eval o = (do pure (.value (← s)))) (hs : s.run P w = .ok v w') (hst : St ρ H w ρ' H' w') (hr : R1 ρ' r v) : Does P ρ H a w o r H' :=
  ⟨v, w', ρ', .inl (by rw [he]; simp [hs]), hst, hr⟩

theorem Does.unit {o : Oper} {s : Sem Unit} {w' : World} {ρ' : Rho} (he : execOp a.eval o = (do s; pure .skip)) (hs : s.run P w = .ok () w') (hst : St ρ H w ρ' H' w') : Does P ρ H a w o undefA H' :=
  ⟨undef, w', ρ', .inr ⟨by rw [he]; simp [hs], rfl⟩, hst, ⟨[], rfl, .nil⟩⟩

/- ### New blocks -/

theorem new_full (hH : RH ρ H w) {xs : List AC} {vs : List Value} (hx : RCs ρ xs vs) (e : TypeId) :
    St ρ H w (up ρ H.n (w.heap.size, vs.length)) (H.new (.cells xs true)) (w.alloc (.cells vs.toArray e)) ∧ up ρ H.n (w.heap.size, vs.length) H.n = some (w.heap.size, vs.length) :=
  ⟨St.new hH ⟨vs.toArray, e, vs, [], rfl, by simp, by simp, hx, fun _ => rfl⟩, by simp [up]⟩

theorem run_newRow (e : TypeId) (vs : Array Value) (w : World) : (newRow e vs).run P w = .ok ⟨w.heap.size, 0, none⟩ (w.alloc (.cells vs e)) := by
  simp [newRow]

theorem d_alloc (hH : RH ρ H w) {e : TypeId} {z : Nat} {cells : List AC} (hz : cZero P e = some (z, cells)) (he : evOp callf T (.alloc cells) H = some (r, H')) : Does P ρ H a w ⟨dst, .alloc e, ty, pos, after, guard⟩ r H' := by
  simp only [evOp, Option.some.injEq, Prod.mk.injEq] at he
  obtain ⟨rfl, rfl⟩ := he
  obtain ⟨i, zv, h1, h2, h3, h4, h5⟩ := cZero_spec hz
  obtain ⟨hst, hup⟩ := new_full hH (h5 ρ) e
  refine Does.value (s := Instr.alloc e true (.tuple #[])) (v := .pointer (some ⟨w.heap.size, 0, none⟩)) rfl ?_ hst ⟨_, _, hup, rfl⟩
  simp only [Instr.alloc, Sem.run_bind, run_zero h1 h3, Result.andThen_ok, newVar, run_newRow, Sem.run_pure, Array.toArray_toList]

theorem d_box (hT : RT ρ T a.tmps) (hH : RH ρ H w) {e : TypeId} {x : Operand} {x' : AOpnd} (hx : cO x = some x') (he : evOp callf T (.box x') H = some (r, H')) : Does P ρ H a w ⟨dst, .box e x, ty, pos, after, guard⟩ r H' := by
  simp only [evOp] at he
  split at he
  · rename_i v hv
    simp only [Option.some.injEq, Prod.mk.injEq] at he
    obtain ⟨rfl, rfl⟩ := he
    have hr := evV_rel (a := a) hT hx hv
    obtain ⟨hst, hup⟩ := new_full hH hr.cells e
    refine Does.value (s := Instr.box e (a.eval x)) (v := .pointer (some ⟨w.heap.size, 0, none⟩)) rfl ?_ hst ⟨_, _, hup, rfl⟩
    simp only [Instr.box, Sem.run_bind, newVar, run_newRow, Result.andThen_ok, Sem.run_pure, Array.toArray_toList]
  · cases he

theorem reps_rel {xs : List AC} {vs : List Value} (h : RCs ρ xs vs) : ∀ n, RCs ρ (reps xs n) (List.replicate n vs).flatten
  | 0 => .nil
  | n + 1 => by rw [List.replicate_succ, List.flatten_cons]; exact h.append (reps_rel h n)

theorem reps_mod (vs : Array Value) (hz : 1 ≤ vs.size) : ∀ n, ((Array.range (n * vs.size)).map (vs[· % vs.size]!)).toList = (List.replicate n vs.toList).flatten
  | 0 => by simp
  | n + 1 => by
    have ih := reps_mod vs hz n
    simp only [Array.toList_map, Array.toList_range] at ih ⊢
    rw [List.replicate_succ, List.flatten_cons, ← ih, Nat.succ_mul, Nat.add_comm (n * vs.size), List.range_add, List.map_append]
    congr 1
    · apply List.ext_getElem?
      intro i
      rw [List.getElem?_map]
      by_cases hi : i < vs.size
      · rw [List.getElem?_range hi, Option.map_some, Nat.mod_eq_of_lt hi, List.getElem?_eq_getElem (by simpa using hi)]
        simp [hi]
      · rw [List.getElem?_eq_none (by simp; omega), List.getElem?_eq_none (by simp; omega)]
        rfl
    · rw [List.map_map]
      apply List.map_congr_left
      intro i _
      simp

theorem d_buildSlice (hT : RT ρ T a.tmps) (hH : RH ρ H w) {t e : TypeId} {len z : Nat} {zero : List AC} {ps : Array (Nat × Operand)} {qs : List (Nat × Nat × AOpnd)} (hu : P.underlying t = some (.slice e)) (hz : cZero P e = some (z, zero)) (hlen : 1 ≤ z ∧ len * z ≤ 2 ^ 24)
    (hp : cPlaces (fun i => some (i * z, z)) ps.toList = some qs) (he : evOp callf T (.buildSlice (reps zero len) qs len) H = some (r, H')) : Does P ρ H a w ⟨dst, .buildSlice t len ps, ty, pos, after, guard⟩ r H' := by
  simp only [evOp] at he
  split at he
  · rename_i cs hf
    simp only [Option.some.injEq, Prod.mk.injEq] at he
    obtain ⟨rfl, rfl⟩ := he
    obtain ⟨i, zv, h1, rfl, h3, h4, h5⟩ := cZero_spec hz
    have hzs : zv.cells.size = i.size := by have := (h5 ρ).length; simp at this; omega
    obtain ⟨vs, hvs, hfill⟩ := fill_rel (a := a) hT hp (reps_rel (h5 ρ) len) hf
    obtain ⟨hst, hup⟩ := new_full hH hvs e
    have hbig : ¬ len * i.size > 2 ^ 24 := by omega
    have hsz : cSize P e = some i.size := by simp [cSize, h1]
    have hcells : ∀ z0 : Array Value, (len * i.size = 0 → z0 = #[]) → (¬ len * i.size = 0 → z0 = zv.cells) → (Array.range (len * i.size)).map (z0[· % z0.size]!) = (List.replicate len zv.cells.toList).flatten.toArray := fun z0 e0 e1 => by
      apply Array.ext'
      by_cases hc : len * i.size = 0
      · have hl0 : len = 0 := by
          rcases Nat.mul_eq_zero.1 hc with h | h
          · exact h
          · omega
        subst hl0
        simp
      · rw [e1 hc, ← hzs, reps_mod zv.cells (by omega) len]
    have hpm : (ps.map fun (i, x) => (i, a.eval x)).toList = ps.toList.map fun (i, x) => (i, a.eval x) := by simp
    have hrun : (Instr.buildSlice t len (ps.map fun (i, x) => (i, a.eval x))).run P w = .ok (.slice (some ⟨w.heap.size, 0, none⟩) len len) (w.alloc (.cells vs.toArray e)) := by
      by_cases hc : len * i.size = 0
      · have hcc := hcells #[] (fun _ => rfl) (fun h => absurd hc h)
        simp only [Instr.buildSlice, Sem.run_bind, run_underlying hu, Result.andThen_ok, run_size hsz, if_neg hbig, if_pos hc, Sem.run_pure, hpm]
        rw [hcc]
        simp only [hfill, Sem.run_bind, run_newRow, Result.andThen_ok, Sem.run_pure]
      · have hcc := hcells zv.cells (fun h => absurd h hc) (fun _ => rfl)
        simp only [Instr.buildSlice, Sem.run_bind, run_underlying hu, Result.andThen_ok, run_size hsz, if_neg hbig, if_neg hc, run_zero h1 h3, Sem.run_pure, hpm]
        rw [hcc]
        simp only [hfill, Sem.run_bind, run_newRow, Result.andThen_ok, Sem.run_pure]
    have hrel : R1 (up ρ H.n (w.heap.size, vs.length)) (mk1 (.sl H.n 0 len (some len))) (.slice (some ⟨w.heap.size, 0, none⟩) len len) := ⟨_, _, len, hup, rfl, Nat.le_refl _, by simp⟩
    refine ⟨_, _, _, .inl ?_, hst, hrel⟩
    simp only [execOp, Sem.run_bind, hrun, Result.andThen_ok, Sem.run_pure]
  · cases he

theorem d_store (hT : RT ρ T a.tmps) (hH : RH ρ H w) {t : TypeId} {z : Nat} {x y : Operand} {x' y' : AOpnd} (hz : cSize P t = some z) (hx : cO x = some x') (hy : cO y = some y') (he : evOp callf T (.store z x' y') H = some (r, H')) :
    Does P ρ H a w ⟨dst, .store t x y, ty, pos, after, guard⟩ r H' := by
  simp only [evOp] at he
  split at he
  · rename_i b o v hb hv
    cases hl : Nat.beq v.cells.length z
    · rw [hl] at he; cases he
    rw [hl, cond_true] at he
    split at he
    · rename_i H₁ hw
      simp only [Option.some.injEq, Prod.mk.injEq] at he
      obtain ⟨rfl, rfl⟩ := he
      obtain ⟨c, m, hc, hp⟩ := evC_rel hT hx hb
      have hr := evV_rel (a := a) hT hy hv
      obtain ⟨w', hrun, hst⟩ := run_write (P := P) hH hw hc hr.cells
      refine Does.unit (s := Instr.storeAt t (a.eval x) (a.eval y)) rfl ?_ hst
      have hsz : (a.eval y).cells.size = z := by
        have := hr.cells.length
        have h2 := Nat.eq_of_beq_eq_true hl
        simp only [Array.length_toList] at this
        omega
      rw [hp]
      simp only [Instr.storeAt, Instr.sureAddr, Sem.run_bind, Sem.run_pure, Result.andThen_ok, storeVar, run_size hz, Sem.run_ite, hsz, ne_eq, not_true, if_false]
      exact hrun
    · cases he
  · cases he

theorem d_mkMap (hH : RH ρ H w) {t : TypeId} (he : evOp callf T .mkMap H = some (r, H')) : Does P ρ H a w ⟨dst, .makeMap t none, ty, pos, after, guard⟩ r H' := by
  simp only [evOp, Option.some.injEq, Prod.mk.injEq] at he
  obtain ⟨rfl, rfl⟩ := he
  have hst := St.new (o := .map []) (m := 0) (obj := .map #[] 0) hH ⟨#[], rfl, .nil, by simp⟩
  refine Does.value (s := Instr.makeMap t none) (v := .map (some w.heap.size)) rfl ?_ hst ⟨_, 0, by simp [up], rfl⟩
  simp [Instr.makeMap]

theorem wrap_small {n : Int} (h0 : 0 ≤ n) (h : n ≤ big) : IntKind.i64.wrap n = n := by
  have hb : (big : Int) = 2 ^ 40 := rfl
  simp only [IntKind.wrap, IntKind.signed, IntKind.bits]
  simp
  omega

theorem d_mkSlice (hT : RT ρ T a.tmps) (hH : RH ρ H w) {t e : TypeId} {z : Nat} {zero : List AC} {i : TypeInfo} {l c : Operand} {l' c' : AOpnd} (hu : P.underlying t = some (.slice e)) (hz : cZero P e = some (z, zero)) (hi : P.info? e = some i) (hz1 : 1 ≤ z) (hl : cO l = some l') (hc : cO c = some c')
    (he : evOp callf T (.mkSlice z zero i.bytes l' c') H = some (r, H')) : Does P ρ H a w ⟨dst, .makeSlice t l c, ty, pos, after, guard⟩ r H' := by
  simp only [evOp] at he
  split at he
  · rename_i k1 ln k2 cn hln hcn
    split at he
    · rename_i hb
      obtain ⟨b0, b1, b2, b3⟩ := hb
      cases hzz : Nat.beq zero.length z
      · rw [hzz] at he; cases he
      rw [hzz, cond_true] at he
      simp only [Option.some.injEq, Prod.mk.injEq] at he
      obtain ⟨rfl, rfl⟩ := he
      obtain ⟨i', zv, h1, rfl, h3, h4, h5⟩ := cZero_spec hz
      rw [hi] at h1
      simp only [Option.some.injEq] at h1
      subst h1
      have hlv : a.eval l = .int k1 ln := evC_rel hT hl hln
      have hcv : a.eval c = .int k2 cn := evC_rel hT hc hcn
      have hzs : zv.cells.size = i.size := by have := (h5 ρ).length; simp at this; omega
      obtain ⟨hst, hup⟩ := new_full hH (reps_rel (h5 ρ) cn.toNat) e
      have w1 := wrap_small (n := ln) b0 (by omega)
      have w2 := wrap_small (n := cn) (by omega) b2
      have hsz : cSize P e = some i.size := by simp [cSize, hi]
      have hcells : ∀ z0 : Array Value, (¬ cn.toNat * i.size = 0 → z0 = zv.cells) → (Array.range (cn.toNat * i.size)).map (z0[· % z0.size]!) = (List.replicate cn.toNat zv.cells.toList).flatten.toArray := fun z0 e1 => by
        apply Array.ext'
        by_cases hc0 : cn.toNat * i.size = 0
        · have hl0 : cn.toNat = 0 := by
            rcases Nat.mul_eq_zero.1 hc0 with h | h
            · exact h
            · omega
          rw [hl0]
          simp
        · rw [e1 hc0, ← hzs, reps_mod zv.cells (by omega) cn.toNat]
      have t1 : ¬ ((i.bytes : Int) * cn > 2 ^ 48) := by omega
      have cond1 : ((decide (cn < 0) || decide ((i.bytes : Int) * cn > 2 ^ 48)) || decide (ln < 0) || decide (ln > cn)) = false := by
        simp only [Bool.or_eq_false_iff, decide_eq_false_iff_not]
        refine ⟨⟨⟨by omega, t1⟩, by omega⟩, by omega⟩
      have hrun : (Instr.makeSlice t (.int k1 ln) (.int k2 cn)).run P w = .ok (.slice (some ⟨w.heap.size, 0, none⟩) ln.toNat cn.toNat) (w.alloc (.cells (List.replicate cn.toNat zv.cells.toList).flatten.toArray e)) := by
        simp only [Instr.makeSlice, Sem.run_bind, run_underlying hu, Result.andThen_ok, asInt, asIntOf, Sem.run_pure, typeInfo, run_program, hi, w1, w2]
        rw [if_neg (by rw [cond1]; simp)]
        by_cases hc0 : cn.toNat * i.size = 0
        · have hcc := hcells #[] (fun h => absurd hc0 h)
          simp only [Sem.run_bind, run_askRoom, Result.andThen_ok, run_size hsz, if_pos hc0, Sem.run_pure]
          rw [hcc]
          simp only [run_newRow, Result.andThen_ok]
        · have hcc := hcells zv.cells (fun _ => rfl)
          simp only [Sem.run_bind, run_askRoom, Result.andThen_ok, run_size hsz, if_neg hc0, Sem.run_pure, run_zero hi h3]
          rw [hcc]
          simp only [run_newRow, Result.andThen_ok]
      have hrel : R1 (up ρ H.n (w.heap.size, (List.replicate cn.toNat zv.cells.toList).flatten.length)) (mk1 (.sl H.n 0 ln.toNat (some cn.toNat))) (.slice (some ⟨w.heap.size, 0, none⟩) ln.toNat cn.toNat) := ⟨_, _, cn.toNat, hup, rfl, by omega, by simp⟩
      rw [← hlv, ← hcv] at hrun
      exact Does.value (s := Instr.makeSlice t (a.eval l) (a.eval c)) rfl hrun hst hrel
    · cases he
  · cases he
end
end Go.Sv

namespace Go.Sv
variable [gi : GoodC]

section
variable {P : Program} {ρ : Rho} {T : Tr AT} {a : Act} {w : World} {H : AH} {dst : Option Tmp} {ty : TypeId} {pos : String} {after : Array Edge} {guard : Option (Nat × Bool)}
variable {callf : Nat → List AV → AH → Option (AT × AH)} {r : AT} {H' : AH}

/- ### Maps -/

theorem setAt_all {es : List (AV × AV)} {ens : List MapEntry} (h : All2 (RE ρ) es ens) : ∀ {j : Nat} {x : AV × AV} {f : MapEntry → MapEntry}, (∀ m, ens[j]? = some m → RE ρ x (f m)) → All2 (RE ρ) (setAt es j x) (ens.modify j f) := by
  induction h with
  | nil => intro j x f _; simp [setAt]; exact .nil
  | cons h0 h1 ih =>
    intro j x f hx
    cases j with
    | zero => simp only [setAt, List.modify_zero_cons]; exact .cons (hx _ rfl) h1
    | succ j => simp only [setAt, List.modify_succ_cons]; exact .cons h0 (ih fun m hm => hx m (by simpa using hm))

theorem born_modify {ens : Array MapEntry} (h : ∀ (i : Nat) (e : MapEntry), ens[i]? = some e → e.born = i) {j : Nat} {f : MapEntry → MapEntry} (hf : ∀ e, (f e).born = e.born) : ∀ (i : Nat) (e : MapEntry), (ens.modify j f)[i]? = some e → e.born = i := by
  intro i e he
  rw [Array.getElem?_modify] at he
  split at he
  · rw [Option.map_eq_some_iff] at he
    obtain ⟨e', h1, rfl⟩ := he
    rw [hf]
    exact h i e' h1
  · exact h i e he

theorem born_push {ens : Array MapEntry} (h : ∀ (i : Nat) (e : MapEntry), ens[i]? = some e → e.born = i) {k v : Value} : ∀ (i : Nat) (e : MapEntry), (ens.push { key := k, val := v, born := ens.size })[i]? = some e → e.born = i := by
  intro i e he
  rw [Array.getElem?_push] at he
  split at he
  · rename_i hi
    simp only [Option.some.injEq] at he
    subst he
    exact hi.symm
  · exact h i e he

theorem run_keyThatStays {old new : Value} (h : Instr.sameBits 10000 old new = true) (w : World) : (Instr.keyThatStays old new).run P w = .ok new w := by
  simp [Instr.keyThatStays, h]

theorem getMap_map {b : Nat} {es : List (AV × AV)} (h : H.getMap b = some es) : H.t.get b = some (.map es) := by
  unfold AH.getMap at h
  split at h
  · simp only [Option.some.injEq] at h; subst h; assumption
  · cases h

/-- What is stored where a key was looked up. -/
theorem map_set (hH : RH ρ H w) {b c m : Nat} (hc : ρ b = some (c, m)) {es : List (AV × AV)} (hes : H.getMap b = some es) {ens : Array MapEntry} (h2 : All2 (RE ρ) es ens.toList) (h3 : ∀ (i : Nat) (e : MapEntry), ens[i]? = some e → e.born = i)
    {H₁ : AH} {k x : AV} {vk vx : Value} (hk : RV ρ k vk) (hx : RV ρ x vx) :
    (∀ j, H.setMap b (setAt es j (k, x)) = some H₁ → ∃ w', (setObj c (.map (ens.modify j fun e => { e with key := vk, val := vx }) ens.size)).run P w = .ok () w' ∧ St ρ H w ρ H₁ w') ∧
    (H.setMap b (es ++ [(k, x)]) = some H₁ → ∃ w', (setObj c (.map (ens.push { key := vk, val := vx, born := ens.size }) (ens.size + 1))).run P w = .ok () w' ∧ St ρ H w ρ H₁ w') := by
  refine ⟨fun j hs => ?_, fun hs => ?_⟩
  · obtain ⟨w', g1, _, g2⟩ := run_setMap (P := P) hH hes hs hc (ens := ens.modify j fun e => { e with key := vk, val := vx }) (by rw [Array.toList_modify]; exact setAt_all h2 fun m _ => ⟨hk, hx⟩) (born_modify h3 fun _ => rfl)
    rw [Array.size_modify] at g1
    exact ⟨w', g1, g2⟩
  · obtain ⟨w', g1, _, g2⟩ := run_setMap (P := P) hH hes hs hc (ens := ens.push { key := vk, val := vx, born := ens.size }) (by rw [Array.toList_push]; exact h2.append (.cons ⟨hk, hx⟩ .nil)) (born_push h3)
    rw [Array.size_push] at g1
    exact ⟨w', g1, g2⟩

theorem d_mapUpdate (hT : RT ρ T a.tmps) (hH : RH ρ H w) {t kt e : TypeId} {key : Option Nat} {m k x : Operand} {m' k' x' : AOpnd} (hu : P.underlying t = some (.map kt e)) (hkt : cKey P kt = some key) (hm : cO m = some m') (hk : cO k = some k') (hx : cO x = some x')
    {o : Op} (ho : o = .mapUpdate t m k x) (he : evOp callf T (.mapUpdate key m' k' x') H = some (r, H')) : Does P ρ H a w ⟨dst, o, ty, pos, after, guard⟩ r H' := by
  subst ho
  simp only [evOp] at he
  split at he
  · rename_i b kv xv hb hkv hxv
    cases hok : keyOk key kv
    · rw [hok] at he; cases he
    rw [hok, cond_true] at he
    split at he
    · cases he
    rename_i es hes
    obtain ⟨c, l, hc, hmv⟩ := evC_rel hT hm hb
    have hvk := evV_rel (a := a) hT hk hkv
    have hvx := evV_rel (a := a) hT hx hxv
    obtain ⟨_, ens, h1, h2, h3⟩ := hH.map hes hc
    have hg : (getObj c).run P w = .ok (.map ens ens.size) w := by simp [getObj, Sem.run, h1]
    have hck := run_check (P := P) hkt hok hvk false w
    have hexec : execOp a.eval ⟨dst, .mapUpdate t m k x, ty, pos, after, guard⟩ = (do Instr.mapUpdate t (a.eval m) (a.eval k) (a.eval x); pure .skip) := rfl
    split at he
    · cases he
    · rename_i hf
      split at he
      · rename_i H₁ hs
        simp only [Option.some.injEq, Prod.mk.injEq] at he
        obtain ⟨rfl, rfl⟩ := he
        have hfk : (Instr.findKey kt (a.eval k) ens.toList).run P w = .ok none w := run_find (P := P) hkt hok hvk w h2 hf
        obtain ⟨w', g1, g2⟩ := (map_set (P := P) hH hc hes h2 h3 hvk hvx).2 hs
        refine Does.unit hexec ?_ g2
        rw [hmv]
        simp only [Instr.mapUpdate, Sem.run_bind, run_underlying hu, Result.andThen_ok, hg, hck, hfk, g1]
      · cases he
    · rename_i j v hf
      split at he
      · rename_i H₁ hs
        simp only [Option.some.injEq, Prod.mk.injEq] at he
        obtain ⟨rfl, rfl⟩ := he
        obtain ⟨en, e1, _, _, e4, e5, hfk⟩ := run_find (P := P) hkt hok hvk w h2 hf
        rw [Array.getElem?_toList] at e1
        obtain ⟨w', g1, g2⟩ := (map_set (P := P) hH hc hes h2 h3 hvk hvx).1 j hs
        refine Does.unit hexec ?_ g2
        rw [hmv]
        simp only [Instr.mapUpdate, Sem.run_bind, run_underlying hu, Result.andThen_ok, hg, hck, hfk, e1, Option.map_some, Option.getD_some, run_keyThatStays e5, g1]
      · cases he
  · cases he

theorem d_mapEntry (hT : RT ρ T a.tmps) (hH : RH ρ H w) {t kt e : TypeId} {key : Option Nat} {zero : AV} {m k : Operand} {m' k' : AOpnd} (hu : P.underlying t = some (.map kt e)) (hkt : cKey P kt = some key) (hz : cZeroV P e = some zero) (hm : cO m = some m') (hk : cO k = some k')
    (he : evOp callf T (.mapEntry key zero m' k') H = some (r, H')) : Does P ρ H a w ⟨dst, .mapEntry t m k, ty, pos, after, guard⟩ r H' := by
  simp only [evOp] at he
  split at he
  · rename_i b kv hb hkv
    cases hok : keyOk key kv
    · rw [hok] at he; cases he
    rw [hok, cond_true] at he
    split at he
    · cases he
    rename_i es hes
    obtain ⟨c, l, hc, hmv⟩ := evC_rel hT hm hb
    have hvk := evV_rel (a := a) hT hk hkv
    obtain ⟨zv, hzv, hzr⟩ := cZeroV_spec hz
    obtain ⟨_, ens, h1, h2, h3⟩ := hH.map hes hc
    have hg : (getObj c).run P w = .ok (.map ens ens.size) w := by simp [getObj, Sem.run, h1]
    have hck := run_check (P := P) hkt hok hvk false w
    have hexec : execOp a.eval ⟨dst, .mapEntry t m k, ty, pos, after, guard⟩ = (do pure (.value (← Instr.mapEntry t (a.eval m) (a.eval k)))) := rfl
    have hlen : es.length = ens.size := by have := h2.length; simpa using this
    split at he
    · cases he
    · rename_i hf
      split at he
      · rename_i H₁ hs
        simp only [Option.some.injEq, Prod.mk.injEq] at he
        obtain ⟨rfl, rfl⟩ := he
        have hfk : (Instr.findKey kt (a.eval k) ens.toList).run P w = .ok none w := run_find (P := P) hkt hok hvk w h2 hf
        obtain ⟨w', g1, g2⟩ := (map_set (P := P) hH hc hes h2 h3 hvk (hzr ρ)).2 hs
        refine Does.value (v := .tuple #[zv, goInt ens.size]) hexec ?_ g2 ⟨[zv, goInt ens.size], rfl, .cons (hzr ρ) (.cons (by rw [hlen]; rfl) .nil)⟩
        rw [hmv]
        simp only [Instr.mapEntry, Sem.run_bind, run_underlying hu, Result.andThen_ok, hg, hck, hfk, hzv, g1, Sem.run_pure]
      · cases he
    · rename_i j v hf
      split at he
      · rename_i H₁ hs
        simp only [Option.some.injEq, Prod.mk.injEq] at he
        obtain ⟨rfl, rfl⟩ := he
        obtain ⟨en, e1, _, e3, e4, e5, hfk⟩ := run_find (P := P) hkt hok hvk w h2 hf
        rw [Array.getElem?_toList] at e1
        obtain ⟨w', g1, g2⟩ := (map_set (P := P) hH hc hes h2 h3 hvk e3).1 j hs
        have hmod : (ens.modify j fun e => { e with key := a.eval k, val := en.val }) = ens.modify j fun e => { e with key := a.eval k } := by
          apply Array.ext_getElem?
          intro i
          simp only [Array.getElem?_modify]
          split
          · rename_i hij
            subst hij
            rw [e1]
            rfl
          · rfl
        rw [hmod] at g1
        have hborn : en.born = j := h3 j en e1
        refine Does.value (v := .tuple #[en.val, goInt j]) hexec ?_ g2 ⟨[en.val, goInt j], rfl, .cons e3 (.cons rfl .nil)⟩
        rw [hmv]
        simp only [Instr.mapEntry, Sem.run_bind, run_underlying hu, Result.andThen_ok, hg, hck, hfk, e1, Option.map_some, Option.getD_some, run_keyThatStays e5, g1, Sem.run_pure, hborn]
      · cases he
  · cases he

theorem atE_eq : ∀ (es : List (AV × AV)) (i : Nat), atE es i = es[i]?
  | [], _ => rfl
  | _ :: _, 0 => rfl
  | _ :: r, i + 1 => by simpa [atE] using atE_eq r i

theorem find_born {ens : Array MapEntry} (h : ∀ (i : Nat) (e : MapEntry), ens[i]? = some e → e.born = i) {i : Nat} (hi : i < ens.size) : ens.findIdx? (fun e => (e.born : Int) == (i : Int)) = some i := by
  rw [Array.findIdx?_eq_some_iff_getElem]
  refine ⟨hi, ?_, fun j hj => ?_⟩
  · have := h i ens[i] (Array.getElem?_eq_getElem hi)
    simp [this]
  · have := h j ens[j] (Array.getElem?_eq_getElem (by omega))
    simp only [this, beq_iff_eq]
    omega

theorem d_entryStore (hT : RT ρ T a.tmps) (hH : RH ρ H w) {t : TypeId} {m s x : Operand} {m' s' x' : AOpnd} (hm : cO m = some m') (hs' : cO s = some s') (hx : cO x = some x') (he : evOp callf T (.entryStore m' s' x') H = some (r, H')) :
    Does P ρ H a w ⟨dst, .entryStore t m s x, ty, pos, after, guard⟩ r H' := by
  simp only [evOp] at he
  split at he
  · rename_i b q i xv hb hi hxv
    split at he
    · cases he
    rename_i es hes
    split at he
    · rename_i h0
      split at he
      · rename_i kx v0 hat
        split at he
        · rename_i H₁ hs
          simp only [Option.some.injEq, Prod.mk.injEq] at he
          obtain ⟨rfl, rfl⟩ := he
          obtain ⟨c, l, hc, hmv⟩ := evC_rel hT hm hb
          have hsv : a.eval s = .int q i := evC_rel hT hs' hi
          have hvx := evV_rel (a := a) hT hx hxv
          obtain ⟨_, ens, h1, h2, h3⟩ := hH.map hes hc
          have hg : (getObj c).run P w = .ok (.map ens ens.size) w := by simp [getObj, Sem.run, h1]
          rw [atE_eq] at hat
          obtain ⟨en, g1, g2⟩ := All2.get h2 hat
          rw [Array.getElem?_toList] at g1
          have hlt := (Array.getElem?_eq_some_iff.1 g1).1
          obtain ⟨w', f1, _, f2⟩ := run_setMap (P := P) hH hes hs hc (ens := ens.modify i.toNat fun e => { e with val := a.eval x }) (by
            rw [Array.toList_modify]
            refine setAt_all h2 fun m hm => ?_
            rw [Array.getElem?_toList, g1] at hm
            simp only [Option.some.injEq] at hm
            subst hm
            exact ⟨g2.1, hvx⟩) (born_modify h3 fun _ => rfl)
          rw [Array.size_modify] at f1
          refine Does.unit (s := Instr.entryStore t (a.eval m) (a.eval s) (a.eval x)) rfl ?_ f2
          have hfi := find_born h3 hlt
          rw [show ((i.toNat : Nat) : Int) = i from by omega] at hfi
          rw [hmv, hsv]
          simp only [Instr.entryStore, Sem.run_bind, hg, Result.andThen_ok, asInt, asIntOf, Sem.run_pure, hfi, f1]
        · cases he
      · cases he
    · cases he
  · cases he

/- ### Built-in functions -/

theorem exec_bi {c : Call} {b : Builtin} (hc : c.callee = .builtin b) : ∃ cs, ∀ w, (execOp a.eval ⟨dst, .call c, ty, pos, after, guard⟩).run P w = (builtin b c.argTypes ty cs (c.args.map a.eval)).run P w := by
  obtain ⟨callee, args, ts⟩ := c
  simp only [] at hc
  subst hc
  exact ⟨args.map fun | .const _ => true | _ => false, fun w => by simp [execOp, resolve, invoke]; rfl⟩

/-- A built-in function that comes to one value. -/
theorem Does.bi {c : Call} {b : Builtin} (hc : c.callee = .builtin b) {s : Sem Value} {v : Value} {w' : World} {ρ' : Rho} (hb : ∀ cs, builtin b c.argTypes ty cs (c.args.map a.eval) = (do pure (.value (← s)))) (hs : s.run P w = .ok v w') (hst : St ρ H w ρ' H' w') (hr : R1 ρ' r v) :
    Does P ρ H a w ⟨dst, .call c, ty, pos, after, guard⟩ r H' := by
  obtain ⟨cs, hx⟩ := exec_bi (a := a) (P := P) (dst := dst) (ty := ty) (pos := pos) (after := after) (guard := guard) hc
  exact ⟨v, w', ρ', .inl (by rw [hx w, hb cs]; simp [hs]), hst, hr⟩

theorem Yld.bi {c : Call} {b : Builtin} (hc : c.callee = .builtin b) {s : Sem Value} {v : Value} (hb : ∀ cs, builtin b c.argTypes ty cs (c.args.map a.eval) = (do pure (.value (← s)))) (hs : ∀ w, s.run P w = .ok v w) (hr : R1 ρ r v) :
    Yld P ρ none a w ⟨dst, .call c, ty, pos, after, guard⟩ r := by
  obtain ⟨cs, hx⟩ := exec_bi (a := a) (P := P) (dst := dst) (ty := ty) (pos := pos) (after := after) (guard := guard) hc
  exact ⟨v, hr, fun w' _ => by rw [hx w', hb cs]; simp [hs w']⟩

theorem run_max2 {x y z : AC} (h : max2 x y = some z) {u v : Value} (hu : RC ρ x u) (hv : RC ρ y v) (w : World) : ∃ q w', RC ρ z q ∧ Drawn w w' ∧ (Builtin.max2 u v).run P w = .ok q w' := by
  have hn : ∀ (n m : Nat) (w : World), FloatKind.f64.format.order n m = none → ∃ q w', RC ρ (.flt .nan) q ∧ Drawn w w' ∧ (Builtin.max2 (.float .f64 n) (.float .f64 m)).run P w = .ok q w' := fun n m w hh =>
    ⟨.float .f64 (Question.cut (.nanMinMax .f64 true n m) (w.tape w.drawn (.nanMinMax .f64 true n m))), w.drew, ⟨_, nan_bits _, rfl⟩, Drawn.drew w, by simp [Builtin.max2, hh, Question.forced]⟩
  unfold max2 at h
  split at h
  · split at h
    · rename_i hk
      simp only [Option.some.injEq] at h
      subst h
      simp only [RC] at hu hv
      subst hu; subst hv
      exact ⟨_, w, rfl, Drawn.refl w, rfl⟩
    · cases h
  · obtain ⟨n, hn', rfl⟩ := hu
    obtain ⟨m, hm', rfl⟩ := hv
    simp only [RF] at hn' hm'
    subst hn'; subst hm'
    split at h <;> rename_i ho <;> simp only [Option.some.injEq] at h <;> subst h
    · exact hn n m w ho
    · exact ⟨_, w, ⟨_, rfl, rfl⟩, Drawn.refl w, by simp [Builtin.max2, ho]⟩
    · exact ⟨_, w, ⟨_, rfl, rfl⟩, Drawn.refl w, by simp [Builtin.max2, ho]⟩
    · exact ⟨_, w, ⟨_, rfl, rfl⟩, Drawn.refl w, by simp [Builtin.max2, ho]⟩
  · rename_i p q hno
    obtain ⟨n, hn', rfl⟩ := hu
    obtain ⟨m, hm', rfl⟩ := hv
    cases hS : isS p || isS q
    case true =>
      rw [hS, cond_true] at h
      obtain ⟨K, rfl, hK⟩ := maxS_ok hn' hm' h
      refine ⟨.float .f64 (fmax n m), w, ⟨_, ⟨rfl, hK⟩, rfl⟩, Drawn.refl w, ?_⟩
      have hne : FloatKind.f64.format.order n m ≠ none := fun e => by
        cases p <;> cases q <;> simp only [maxS] at h <;> first | (cases h; done) | skip
        rename_i k F k' G
        obtain ⟨rfl, hF⟩ := hn'
        obtain ⟨rfl, hG⟩ := hm'
        split at h
        · rename_i a b ha hb
          obtain ⟨x, hx, _⟩ := hF.bd a ha
          obtain ⟨y, hy, _⟩ := hG.bd b hb
          obtain ⟨h1, h2, h3⟩ := order_num hx hy
          have e' : Ieee.double.order n m = none := e
          by_cases g1 : x < y
          · rw [h1 g1] at e'; cases e'
          · by_cases g2 : x = y
            · rw [h2 g2] at e'; cases e'
            · rw [h3 (by grind)] at e'; cases e'
        · cases h
      unfold fmax
      cases ho : FloatKind.f64.format.order n m with
      | none => exact absurd ho hne
      | some o => cases o <;> simp [Builtin.max2, ho]
    rw [hS, cond_false] at h
    simp only [Option.some.injEq] at h
    subst h
    refine hn n m w ?_
    cases p with
    | s k F => cases hS
    | f b => cases q with
      | s k F => cases hS
      | f c => exact absurd rfl (hno b c rfl)
      | nan => exact (add_nan (.inr hm')).2.2.2.2
    | nan => exact (add_nan (.inl hn')).2.2.2.2
  · cases h

theorem run_min2 {x y z : AC} (h : min2 x y = some z) {u v : Value} (hu : RC ρ x u) (hv : RC ρ y v) (w : World) : ∃ q w', RC ρ z q ∧ Drawn w w' ∧ (Builtin.min2 u v).run P w = .ok q w' := by
  have hn : ∀ (n m : Nat) (w : World), FloatKind.f64.format.order n m = none → ∃ q w', RC ρ (.flt .nan) q ∧ Drawn w w' ∧ (Builtin.min2 (.float .f64 n) (.float .f64 m)).run P w = .ok q w' := fun n m w hh =>
    ⟨.float .f64 (Question.cut (.nanMinMax .f64 false n m) (w.tape w.drawn (.nanMinMax .f64 false n m))), w.drew, ⟨_, nan_bits _, rfl⟩, Drawn.drew w, by simp [Builtin.min2, hh, Question.forced]⟩
  unfold min2 at h
  split at h
  · split at h
    · rename_i hk
      simp only [Option.some.injEq] at h
      subst h
      simp only [RC] at hu hv
      subst hu; subst hv
      exact ⟨_, w, rfl, Drawn.refl w, rfl⟩
    · cases h
  · obtain ⟨n, hn', rfl⟩ := hu
    obtain ⟨m, hm', rfl⟩ := hv
    simp only [RF] at hn' hm'
    subst hn'; subst hm'
    split at h <;> rename_i ho <;> simp only [Option.some.injEq] at h <;> subst h
    · exact hn n m w ho
    · exact ⟨_, w, ⟨_, rfl, rfl⟩, Drawn.refl w, by simp [Builtin.min2, ho]⟩
    · exact ⟨_, w, ⟨_, rfl, rfl⟩, Drawn.refl w, by simp [Builtin.min2, ho]⟩
    · exact ⟨_, w, ⟨_, rfl, rfl⟩, Drawn.refl w, by simp [Builtin.min2, ho]⟩
  · rename_i p q hno
    obtain ⟨n, hn', rfl⟩ := hu
    obtain ⟨m, hm', rfl⟩ := hv
    cases hS : isS p || isS q
    case true =>
      rw [hS, cond_true] at h
      obtain ⟨K, rfl, hK⟩ := minS_ok hn' hm' h
      refine ⟨.float .f64 (fmin n m), w, ⟨_, ⟨rfl, hK⟩, rfl⟩, Drawn.refl w, ?_⟩
      have hne : FloatKind.f64.format.order n m ≠ none := fun e => by
        cases p <;> cases q <;> simp only [minS] at h <;> first | (cases h; done) | skip
        rename_i k F k' G
        obtain ⟨rfl, hF⟩ := hn'
        obtain ⟨rfl, hG⟩ := hm'
        split at h
        · rename_i a b ha hb
          obtain ⟨x, hx, _⟩ := hF.bd a ha
          obtain ⟨y, hy, _⟩ := hG.bd b hb
          obtain ⟨h1, h2, h3⟩ := order_num hx hy
          have e' : Ieee.double.order n m = none := e
          by_cases g1 : x < y
          · rw [h1 g1] at e'; cases e'
          · by_cases g2 : x = y
            · rw [h2 g2] at e'; cases e'
            · rw [h3 (by grind)] at e'; cases e'
        · cases h
      unfold fmin
      cases ho : FloatKind.f64.format.order n m with
      | none => exact absurd ho hne
      | some o => cases o <;> simp [Builtin.min2, ho]
    rw [hS, cond_false] at h
    simp only [Option.some.injEq] at h
    subst h
    refine hn n m w ?_
    cases p with
    | s k F => cases hS
    | f b => cases q with
      | s k F => cases hS
      | f c => exact absurd rfl (hno b c rfl)
      | nan => exact (add_nan (.inr hm')).2.2.2.2
    | nan => exact (add_nan (.inl hn')).2.2.2.2
  · cases h

theorem run_foldC {g : AC → AC → Option AC} {G : Value → Value → Sem Value} (hg : ∀ {x y z : AC}, g x y = some z → ∀ {u v : Value}, RC ρ x u → RC ρ y v → ∀ w, ∃ q w', RC ρ z q ∧ Drawn w w' ∧ (G u v).run P w = .ok q w') :
    ∀ {r : List AV} {vs : List Value}, All2 (RV ρ) r vs → ∀ {x z : AC} {u : Value}, foldC g x r = some z → RC ρ x u → ∀ w, ∃ q w', RC ρ z q ∧ Drawn w w' ∧ (vs.foldlM G u).run P w = .ok q w' := by
  intro r vs h
  induction h with
  | nil =>
    intro x z u hf hu w
    simp only [foldC, Option.some.injEq] at hf
    subst hf
    exact ⟨u, w, hu, Drawn.refl w, rfl⟩
  | @cons y v r vs h0 _ ih =>
    intro x z u hf hu w
    cases y with
    | agg _ => simp [foldC] at hf
    | c y =>
      simp only [foldC] at hf
      split at hf
      · rename_i z1 hz1
        obtain ⟨q, w1, e1, e2, e3⟩ := hg hz1 hu h0 w
        obtain ⟨q', w2, f1, f2, f3⟩ := ih hf e1 w1
        exact ⟨q', w2, f1, e2.trans f2, by simp [List.foldlM_cons, e3, f3]⟩
      · cases hf

theorem St.of_drawn (hH : RH ρ H w) {w' : World} (h : Drawn w w') : St ρ H w ρ H w' := (St.refl hH).drawn h

/-- The built-in functions that only look, and draw nothing. -/
theorem y_bi (hT : RT ρ T a.tmps) {c : Call} {b : Builtin} {b' : ABi} {xs : List AOpnd} (hc : c.callee = .builtin b) (hb : cBuiltin P b c.argTypes.toList = some b') (hxs : cOs c.args.toList = some xs) (hq : quiet (.bi b' xs) = true) (he : evOp callf T (.bi b' xs) H = some (r, H')) :
    H' = H ∧ Yld P ρ none a w ⟨dst, .call c, ty, pos, after, guard⟩ r := by
  simp only [evOp, biA] at he
  split at he
  · cases he
  rename_i vs hvs
  have hrel := evVs_rel (a := a) hT hxs hvs
  have hargs : ∀ l : List Value, c.args.toList.map a.eval = l → c.args.map a.eval = l.toArray := fun l hl => Array.ext' (by simp [hl])
  split at he
  · -- len
    rename_i x
    split at he
    · rename_i n hn
      simp only [Option.some.injEq, Prod.mk.injEq] at he
      obtain ⟨rfl, rfl⟩ := he
      refine ⟨rfl, ?_⟩
      generalize hl : c.args.toList.map a.eval = l at hrel
      cases hrel with
      | cons g0 g1 =>
        cases g1
        rename_i v
        have hts : ∃ t e, c.argTypes = #[t] ∧ P.underlying t = some (.slice e) ∧ b = .len := by
          unfold cBuiltin at hb
          split at hb
          · rename_i t ht
            split at hb
            · rename_i e hu; exact ⟨t, e, Array.ext' ht, hu, rfl⟩
            · simp at hb
            · cases hb
          all_goals first | (simp at hb; done) | (split at hb <;> first | (simp at hb; done) | (split at hb <;> simp at hb))
        obtain ⟨t, e, h1, h2, rfl⟩ := hts
        refine Yld.bi (b := .len) hc (s := Builtin.len_ c.argTypes ty (c.args.map a.eval)) (v := goInt n) (fun _ => rfl) (fun w' => ?_) rfl
        rw [h1, hargs _ hl]
        have g0' : RC ρ x v := g0
        cases x <;> simp [lenOf] at hn <;> simp only [RC] at g0'
        · subst hn; subst g0'; simp [Builtin.len_, run_underlying h2]
        · subst hn; obtain ⟨_, _, _, _, rfl, _⟩ := g0'; simp [Builtin.len_, run_underlying h2]
        · subst hn; obtain ⟨_, _, _, _, rfl, _⟩ := g0'; simp [Builtin.len_, run_underlying h2]
    · split at he
      · rename_i bb j n e0 hn
        simp only [Option.some.injEq, Prod.mk.injEq] at he
        obtain ⟨rfl, rfl⟩ := he
        refine ⟨rfl, ?_⟩
        generalize hl : c.args.toList.map a.eval = l at hrel
        cases hrel with
        | cons g0 g1 =>
          cases g1
          rename_i v
          have hts : ∃ t e, c.argTypes = #[t] ∧ P.underlying t = some (.slice e) ∧ b = .len := by
            unfold cBuiltin at hb
            split at hb
            · rename_i t ht
              split at hb
              · rename_i e hu; exact ⟨t, e, Array.ext' ht, hu, rfl⟩
              · simp at hb
              · cases hb
            all_goals first | (simp at hb; done) | (split at hb <;> first | (simp at hb; done) | (split at hb <;> simp at hb))
          obtain ⟨t, e, h1, h2, rfl⟩ := hts
          obtain ⟨c0, m0, hc0, rfl, hn0, hlen, _⟩ : RC ρ (.xs bb j n e0) v := g0
          refine Yld.bi (b := .len) hc (s := Builtin.len_ c.argTypes ty (c.args.map a.eval)) (v := goInt n) (fun _ => rfl) (fun w' => ?_) ⟨rfl, by rw [hn0], hlen⟩
          rw [h1, hargs _ hl, hn0]
          simp [Builtin.len_, run_underlying h2]
      · cases he
  · simp [quiet] at hq
  · simp [quiet] at hq
  · -- real
    rename_i x y
    simp only [Option.some.injEq, Prod.mk.injEq] at he
    obtain ⟨rfl, rfl⟩ := he
    refine ⟨rfl, ?_⟩
    generalize hl : c.args.toList.map a.eval = l at hrel
    cases hrel with
    | cons g0 g1 =>
      cases g1
      obtain ⟨n, m, e1, e2, rfl⟩ : RC ρ (.cpx x y) _ := g0
      have hbb : b = .real := by
        unfold cBuiltin at hb
        split at hb
        all_goals first | rfl | (simp at hb; done) | (split at hb <;> first | (simp at hb; done) | (split at hb <;> simp at hb))
      subst hbb
      refine Yld.bi (b := .real) hc (s := Builtin.real_ c.argTypes ty (c.args.map a.eval)) (v := .float .f64 n) (fun _ => rfl) (fun w' => ?_) ⟨n, e1, rfl⟩
      rw [hargs _ hl]
      rfl
  · -- imag
    rename_i x y
    simp only [Option.some.injEq, Prod.mk.injEq] at he
    obtain ⟨rfl, rfl⟩ := he
    refine ⟨rfl, ?_⟩
    generalize hl : c.args.toList.map a.eval = l at hrel
    cases hrel with
    | cons g0 g1 =>
      cases g1
      obtain ⟨n, m, e1, e2, rfl⟩ : RC ρ (.cpx x y) _ := g0
      have hbb : b = .imag := by
        unfold cBuiltin at hb
        split at hb
        all_goals first | rfl | (simp at hb; done) | (split at hb <;> first | (simp at hb; done) | (split at hb <;> simp at hb))
      subst hbb
      refine Yld.bi (b := .imag) hc (s := Builtin.imag_ c.argTypes ty (c.args.map a.eval)) (v := .float .f64 m) (fun _ => rfl) (fun w' => ?_) ⟨m, e2, rfl⟩
      rw [hargs _ hl]
      rfl
  · -- complex
    rename_i x y
    simp only [Option.some.injEq, Prod.mk.injEq] at he
    obtain ⟨rfl, rfl⟩ := he
    refine ⟨rfl, ?_⟩
    generalize hl : c.args.toList.map a.eval = l at hrel
    cases hrel with
    | cons g0 g1 =>
      cases g1 with
      | cons g1 g2 =>
        cases g2
        obtain ⟨n, e1, rfl⟩ : RC ρ (.flt x) _ := g0
        obtain ⟨m, e2, rfl⟩ : RC ρ (.flt y) _ := g1
        have hbb : b = .complex := by
          unfold cBuiltin at hb
          split at hb
          all_goals first | rfl | (simp at hb; done) | (split at hb <;> first | (simp at hb; done) | (split at hb <;> simp at hb))
        subst hbb
        refine Yld.bi (b := .complex) hc (s := Builtin.complex_ c.argTypes ty (c.args.map a.eval)) (v := .complex .f64 n m) (fun _ => rfl) (fun w' => ?_) ⟨n, m, e1, e2, rfl⟩
        rw [hargs _ hl]
        rfl
  all_goals first | (cases he; done) | (simp [quiet] at hq)
end
end Go.Sv
