/-
  Slices, maps, the library's float functions, the built-in functions. No conditions.
-/
import Derived.Test.YtfgkhpoibfbnkaaGreatEvH
namespace Go.Ev

section
variable {P : Program} {ρ : Rho} {T : Tr AT} {a : Act} {w : World} {H : AH} {dst : Option Tmp} {ty : TypeId} {pos : String} {after : Array Edge} {guard : Option (Nat × Bool)}
variable {callf : Nat → List AV → AH → Option (AT × AH)} {r : AT} {H' : AH}

/- ### Slices -/

theorem run_bound (hT : RT ρ T a.tmps) {y d n : Nat} {o : Option Operand} {o' : Option AOpnd} (hx : cOO o = some o') (h : bound T y d o' = some n) (code : BoundsCode) (w : World) :
    (match o.map a.eval with | some v => Instr.sliceBound v y code | none => pure d).run P w = .ok n w ∧ (o.isSome = true → n ≤ y) ∧ (o = none → n = d) := by
  cases o with
  | none =>
    simp [cOO] at hx
    subst hx
    simp only [bound, Option.some.injEq] at h
    subst h
    exact ⟨rfl, by simp, fun _ => rfl⟩
  | some x =>
    simp only [cOO] at hx
    split at hx
    · rename_i x' hx'
      simp only [Option.some.injEq] at hx
      subst hx
      simp only [bound] at h
      split at h
      · rename_i k i hi
        split at h
        · rename_i hb
          simp only [Option.some.injEq] at h
          subst h
          have hv : a.eval x = .int k i := evC_rel hT hx' hi
          refine ⟨?_, fun _ => by omega, by simp⟩
          simp [hv, Instr.sliceBound, asIntOf, hb]
        · cases h
      · cases h
    · cases hx

theorem run_sliceBounds (hT : RT ρ T a.tmps) {isSlice : Bool} {len cap h l : Nat} {lo hi : Option Operand} {lo' hi' : Option AOpnd} (hlo : cOO lo = some lo') (hhi : cOO hi = some hi') (h1 : bound T cap len hi' = some h) (h2 : bound T h 0 lo' = some l) (w : World) :
    (Instr.sliceBounds isSlice len cap (lo.map a.eval) (hi.map a.eval) none).run P w = .ok (l, h, cap) w := by
  obtain ⟨g1, _, _⟩ := run_bound (P := P) hT hhi h1 (if isSlice then .sliceAcap else .sliceAlen) w
  obtain ⟨g2, _, _⟩ := run_bound (P := P) hT hlo h2 .sliceB w
  simp only [Instr.sliceBounds, Sem.run_bind, Sem.run_pure, Result.andThen_ok, Option.isSome_none, Bool.false_eq_true, if_false]
  cases hi <;> cases lo <;> simp only [Option.map_none, Option.map_some, Sem.run_pure] at g1 g2 ⊢ <;> simp_all

theorem bound_le (T : Tr AT) {y d n : Nat} {o : Option AOpnd} (h : bound T y d o = some n) (hd : d ≤ y) : n ≤ y := by
  unfold bound at h
  split at h
  · simp only [Option.some.injEq] at h; omega
  · split at h
    · split at h
      · simp only [Option.some.injEq] at h; omega
      · cases h
    · cases h

theorem y_slice (hT : RT ρ T a.tmps) {t : TypeId} {z : Nat} {arr : Option Nat} {x : Operand} {lo hi : Option Operand} {x' : AOpnd} {lo' hi' : Option AOpnd} (hx : cO x = some x') (hlo : cOO lo = some lo') (hhi : cOO hi = some hi')
    (ht : (∃ n e, arr = some n ∧ P.underlying t = some (.array n e) ∧ cSize P e = some z) ∨ (∃ e, arr = none ∧ P.underlying t = some (.slice e) ∧ cSize P e = some z))
    (he : evOp callf T (.slice z arr x' lo' hi') H = some (r, H')) : H' = H ∧ Yld P ρ none a w ⟨dst, .slice t x lo hi none, ty, pos, after, guard⟩ r := by
  simp only [evOp] at he
  split at he
  · rename_i q hq
    obtain ⟨y, hy, rfl, rfl⟩ := some1_spec he
    have hv := evC_rel hT hx hq
    refine ⟨rfl, ?_⟩
    have hexec : execOp a.eval ⟨dst, .slice t x lo hi none, ty, pos, after, guard⟩ = (do pure (.value (← Instr.sliceAt t (a.eval x) (lo.map a.eval) (hi.map a.eval) none))) := rfl
    rcases ht with ⟨n, e, rfl, hu, hs⟩ | ⟨e, rfl, hu, hs⟩
    · cases q <;> simp only [sliceA] at hy <;> first | (cases hy; done) | skip
      rename_i b o
      split at hy
      · cases hy
      rename_i h hh
      split at hy
      · cases hy
      rename_i l hl
      simp only [Option.some.injEq] at hy
      subst hy
      obtain ⟨c, m, hc, hv⟩ := hv
      have hb : ∀ w, (Instr.sliceBounds false n n (lo.map a.eval) (hi.map a.eval) none).run P w = .ok (l, h, n) w := fun w => run_sliceBounds (P := P) hT hlo hhi hh hl w
      have hle : h ≤ n := bound_le T hh (Nat.le_refl _)
      refine Yld.plain (v := .slice (some ⟨c, bif Nat.beq n l then o else Nat.add o (Nat.mul l z), none⟩) (h - l) (n - l)) hexec ⟨c, m, n - l, hc, rfl, by omega, by simp⟩ fun w' => ?_
      rw [hv]
      simp only [Instr.sliceAt, Sem.run_bind, run_underlying hu, Result.andThen_ok, Instr.sureAddr, Sem.run_pure, hb, run_size hs, Addr.add_mk]
      congr 3
      by_cases e : n = l
      · subst e; simp
      · have : Nat.beq n l = false := Bool.eq_false_iff.2 fun e' => e (Nat.eq_of_beq_eq_true e')
        simp only [if_neg e, this, cond_false]
        rfl
    · have hat : ∀ (base : Option Addr) (len cap h l : Nat), a.eval x = .slice base len cap → bound T cap len hi' = some h → bound T h 0 lo' = some l →
          ∀ w, (Instr.sliceAt t (a.eval x) (lo.map a.eval) (hi.map a.eval) none).run P w = .ok (.slice (if cap = l then base else base.map (·.add (l * z))) (h - l) (cap - l)) w := fun base len cap h l hv hh hl w => by
        have hb := run_sliceBounds (P := P) (isSlice := true) hT hlo hhi hh hl w
        rw [hv]
        simp only [Instr.sliceAt, Sem.run_bind, run_underlying hu, Result.andThen_ok, Instr.slice, hb, run_size hs, Sem.run_pure]
      cases q <;> simp only [sliceA] at hy <;> first | (cases hy; done) | skip
      · -- nil
        simp only [RC] at hv
        split at hy
        · rename_i h l hh hl
          simp only [Option.some.injEq] at hy
          subst hy
          have h0 : h = 0 := by have := bound_le T hh (Nat.le_refl _); omega
          subst h0
          have l0 : l = 0 := by have := bound_le T hl (Nat.le_refl _); omega
          subst l0
          exact Yld.plain hexec rfl fun w' => by rw [hat none 0 0 0 0 hv hh hl w']; rfl
        · cases hy
      · rename_i b o len cap
        obtain ⟨c, m, k, hc, hv, hlk, hcap⟩ := hv
        cases cap with
        | none => simp at hy
        | some cap =>
          have := hcap cap rfl
          subst this
          simp only [] at hy
          split at hy
          · cases hy
          rename_i h hh
          split at hy
          · cases hy
          rename_i l hl
          simp only [Option.some.injEq] at hy
          subst hy
          have hle : h ≤ k := bound_le T hh hlk
          refine Yld.plain (v := .slice (some ⟨c, bif Nat.beq k l then o else Nat.add o (Nat.mul l z), none⟩) (h - l) (k - l)) hexec ⟨c, m, k - l, hc, rfl, by omega, by simp⟩ fun w' => ?_
          rw [hat _ _ _ _ _ hv hh hl w']
          by_cases e : k = l
          · subst e; simp
          · have : Nat.beq k l = false := Bool.eq_false_iff.2 fun e' => e (Nat.eq_of_beq_eq_true e')
            simp only [if_neg e, this, cond_false, Option.map_some, Addr.add_mk]
            rfl
      · rename_i b len z'
        obtain ⟨c, m, k, hc, hv, hlk, hkm⟩ := hv
        split at hy
        · cases hy
        rename_i h hh
        split at hy
        · cases hy
        rename_i l hl
        have hhl : h ≤ len := bound_le T hh (Nat.le_refl _)
        have hlh : l ≤ h := bound_le T hl (Nat.zero_le _)
        have hh' : bound T k len hi' = some h := by
          unfold bound at hh ⊢
          split
          · exact hh
          · simp only [] at hh ⊢
            split
            · rename_i i hi
              rw [hi] at hh
              simp only [] at hh
              split at hh
              · rename_i hb
                rw [if_pos (by omega)]
                exact hh
              · cases hh
            · rename_i hno
              split at hh
              · rename_i i hi; exact absurd hi (hno _ _)
              · cases hh
        cases hz : Nat.beq z z'
        · rw [hz] at hy; cases hy
        rw [hz, cond_true] at hy
        have hzz := Nat.eq_of_beq_eq_true hz
        subst hzz
        cases hl0 : Nat.beq l 0
        · rw [hl0, cond_false] at hy
          cases hlt : Nat.ble (Nat.succ l) len
          · rw [hlt] at hy; cases hy
          rw [hlt, cond_true] at hy
          simp only [Option.some.injEq] at hy
          subst hy
          have hlt' : l < len := Nat.le_of_ble_eq_true hlt
          refine Yld.plain (v := .slice (some ⟨c, l * z, none⟩) (h - l) (k - l)) hexec ⟨c, m, k - l, hc, rfl, by omega, by simp⟩ fun w' => ?_
          rw [hat _ _ _ _ _ hv hh' hl w', if_neg (by omega)]
          simp [Addr.add_mk]
        · rw [hl0, cond_true] at hy
          simp only [Option.some.injEq] at hy
          subst hy
          have hl0' := Nat.eq_of_beq_eq_true hl0
          subst hl0'
          refine Yld.plain (v := .slice (some ⟨c, 0, none⟩) h k) hexec ⟨c, m, k, hc, rfl, by omega, hkm⟩ fun w' => ?_
          rw [hat _ _ _ _ _ hv hh' hl w']
          by_cases e : k = 0
          · subst e; simp
          · rw [if_neg e]; simp [Addr.add_mk]
  · cases he

/- ### Maps -/

theorem sameInts_eq {l m : List AC} (h : sameInts l m = some true) {vl vm : List Value} (hl : RCs ρ l vl) (hm : RCs ρ m vm) : vl = vm := by
  induction hl generalizing m vm with
  | nil => cases hm with
    | nil => rfl
    | cons _ _ => simp [sameInts] at h
  | cons h0 h1 ih =>
    cases hm with
    | nil => rename_i x v l vl; cases x <;> simp [sameInts] at h
    | cons g0 g1 =>
      rename_i x v l vl y u m vm
      cases x <;> cases y <;> simp only [sameInts] at h <;> first | (cases h; done) | skip
      split at h
      · rename_i hk
        subst hk
        split at h
        · rename_i t ht
          simp only [Option.some.injEq, Bool.and_eq_true] at h
          obtain ⟨h2, rfl⟩ := h
          simp only [beq_iff_eq] at h2
          subst h2
          simp only [RC] at h0 g0
          rw [ih ht g1, h0, g0]
        · cases h
      · cases h

theorem sameInts_ints {l m : List AC} {t : Bool} (h : sameInts l m = some t) {vm : List Value} (hm : RCs ρ m vm) : ∀ v ∈ vm, ∃ k n, v = .int k n := by
  obtain ⟨h1, h2, _⟩ := sameInts_spec h
  intro v hv
  obtain ⟨i, hi, rfl⟩ := List.mem_iff_getElem.1 hv
  have hlen := hm.length
  obtain ⟨k, _, g2⟩ := h2 i (by omega)
  obtain ⟨u, e1, e2⟩ := All2.get hm g2
  rw [List.getElem?_eq_getElem hi] at e1
  simp only [Option.some.injEq] at e1
  simp only [RC] at e2
  exact ⟨_, _, e1.trans e2⟩

theorem sameBits_ints : ∀ (l : List Value), (∀ v ∈ l, ∃ k n, v = .int k n) → ((l.zip l).all fun (x, y) => Instr.sameBits 9999 x y) = true
  | [], _ => rfl
  | v :: l, h => by
    obtain ⟨k, n, rfl⟩ := h v (by simp)
    have ih := sameBits_ints l (fun u hu => h u (by simp [hu]))
    simp only [List.zip_cons_cons, List.all_cons, ih, Bool.and_true]
    simp [Instr.sameBits]

theorem sameKey_eq {k x : AV} {b : Bool} (h : sameKey k x = some b) {vk vx : Value} (hk : RV ρ k vk) (hx : RV ρ x vx) : b = true → vk = vx ∧ Instr.sameBits 10000 vx vk = true := by
  intro hb
  subst hb
  cases k <;> cases x <;> simp only [sameKey] at h <;> first | (cases h; done) | skip
  · have := sameInts_eq h (ρ := ρ) (.cons hk .nil) (.cons hx .nil)
    simp only [List.cons.injEq, and_true] at this
    subst this
    obtain ⟨q, n, rfl⟩ := sameInts_ints h (ρ := ρ) (vm := [vk]) (.cons hx .nil) vk (by simp)
    exact ⟨rfl, by simp [Instr.sameBits]⟩
  · obtain ⟨vs, rfl, hvs⟩ := hk
    obtain ⟨us, rfl, hus⟩ := hx
    have := sameInts_eq h hvs hus
    subst this
    refine ⟨rfl, ?_⟩
    have hb := sameBits_ints vs (sameInts_ints h hus)
    show Instr.sameBits (9999 + 1) _ _ = true
    simp only [Instr.sameBits, beq_self_eq_true, Bool.true_and]
    exact hb

/-- What the model answers to a key. -/
def ansOf (ens : List MapEntry) (i : Nat) : Option (Nat × AV) → Option (Nat × Value)
  | none => none
  | some (j, _) => some (j, ((ens[j - i]?).map (·.val)).getD undef)

def KeyRuns (P : Program) (kt : TypeId) (vk : Value) (w : World) (ens : List MapEntry) (i : Nat) (ans : Option (Nat × Value)) : Option Nat → Prop
  | none => ∃ q, P.underlying kt = some (.int q) ∧ Instr.findNow (.int q) vk ens i = some ans
  | some _ => (Instr.findAsking kt vk ens i).run P w = .ok ans w

def Found (ρ : Rho) (vk : Value) (es : List (AV × AV)) (ens : List MapEntry) (i : Nat) : Option (Nat × AV) → Prop
  | none => True
  | some (j, v) => i ≤ j ∧ ∃ e, ens[j - i]? = some e ∧ (∃ x, es[j - i]? = some (x, v)) ∧ RV ρ v e.val ∧ e.key = vk ∧ Instr.sameBits 10000 e.key vk = true

def Tells (P : Program) (kt : TypeId) (vk : Value) (w : World) (b : Bool) (e : Value) : Option Nat → Prop
  | none => ∀ q, Instr.sameNow (.int q) vk e = some b
  | some _ => (Op.equal kt vk e).run P w = .ok b w

theorem cKey_int {kt : TypeId} (hkt : cKey P kt = some none) : ∃ q, P.underlying kt = some (.int q) := by
  unfold cKey at hkt
  split at hkt
  · rename_i q hq; exact ⟨q, hq⟩
  · split at hkt <;> simp at hkt

theorem cKey_arr {kt : TypeId} {n : Nat} (hkt : cKey P kt = some (some n)) : cInts P kt = some n := by
  unfold cKey at hkt
  split at hkt
  · simp at hkt
  · split at hkt
    · rename_i m hm; simp only [Option.some.injEq] at hkt; subst hkt; exact hm
    · cases hkt

theorem tells {kt : TypeId} {key : Option Nat} (hkt : cKey P kt = some key) {k x : AV} {vk vx : Value} (hok : keyOk key k = true) (hk : RV ρ k vk) (hx : RV ρ x vx) (w : World) {b : Bool} (hb : sameKey k x = some b) : Tells P kt vk w b vx key := by
  cases key with
  | none =>
    intro q
    cases k with
    | agg _ => simp [keyOk] at hok
    | c c1 =>
      cases x with
      | agg _ => simp [sameKey] at hb
      | c c2 =>
        simp only [sameKey] at hb
        cases c1 <;> cases c2 <;> simp only [sameInts] at hb <;> first | (cases hb; done) | skip
        split at hb
        · rename_i hkk
          subst hkk
          simp only [Option.some.injEq, Bool.and_true] at hb
          have e1 : vk = _ := hk
          have e2 : vx = _ := hx
          rw [e1, e2]
          simp [Instr.sameNow, hb]
        · cases hb
  | some n =>
    have hi := cKey_arr hkt
    cases k with
    | c c1 => simp [keyOk] at hok
    | agg ks =>
      cases x with
      | c _ => simp [sameKey] at hb
      | agg xs =>
        obtain ⟨vs, rfl, hvs⟩ := hk
        obtain ⟨us, rfl, hus⟩ := hx
        simp only [keyOk] at hok
        exact run_equal_arr hi 9998 hvs hus (Nat.eq_of_beq_eq_true hok) hb w

/-- Looking a key up. -/
theorem run_findKey {kt : TypeId} {key : Option Nat} (hkt : cKey P kt = some key) {k : AV} {vk : Value} (hok : keyOk key k = true) (hk : RV ρ k vk) (w : World) {es : List (AV × AV)} {ens : List MapEntry} (hes : All2 (RE ρ) es ens) :
    ∀ {i : Nat} {res : Option (Nat × AV)}, findK k es i = some res → KeyRuns P kt vk w ens i (ansOf ens i res) key ∧ Found ρ vk es ens i res := by
  induction hes with
  | nil =>
    intro i res h
    simp only [findK, Option.some.injEq] at h
    subst h
    refine ⟨?_, trivial⟩
    cases key with
    | none => obtain ⟨q, hq⟩ := cKey_int hkt; exact ⟨q, hq, rfl⟩
    | some n => simp [KeyRuns, Instr.findAsking, ansOf]
  | cons h0 h1 ih =>
    rename_i x e es ens
    obtain ⟨xk, xv⟩ := x
    intro i res h
    simp only [findK] at h
    split at h
    · -- found
      rename_i hs
      simp only [Option.some.injEq] at h
      subst h
      have hq := tells hkt hok hk h0.1 w hs
      obtain ⟨g1, g2⟩ := sameKey_eq hs hk h0.1 rfl
      refine ⟨?_, Nat.le_refl _, e, by simp, ⟨xk, by simp⟩, h0.2, g1.symm, g2⟩
      cases key with
      | none =>
        obtain ⟨q, hq'⟩ := cKey_int hkt
        exact ⟨q, hq', by simp only [Instr.findNow, hq q]; simp [ansOf]⟩
      | some n =>
        simp only [Tells] at hq
        simp only [KeyRuns, Instr.findAsking, Sem.run_bind, hq, Result.andThen_ok, if_true]
        simp [ansOf]
    · rename_i hs
      have hq := tells hkt hok hk h0.1 w hs
      obtain ⟨i1, i2⟩ := ih h
      have shift : ansOf ens (Nat.succ i) res = ansOf (e :: ens) i res := by
        cases res with
        | none => rfl
        | some p =>
          obtain ⟨j, v⟩ := p
          have hle : Nat.succ i ≤ j := i2.1
          have : j - i = (j - Nat.succ i) + 1 := by omega
          simp only [ansOf, this, List.getElem?_cons_succ]
      refine ⟨?_, ?_⟩
      · cases key with
        | none =>
          obtain ⟨q, hq', hf⟩ := i1
          refine ⟨q, hq', ?_⟩
          simp only [Instr.findNow, hq q]
          rw [show i + 1 = Nat.succ i from rfl, hf, shift]
        | some n =>
          simp only [Tells] at hq
          simp only [KeyRuns] at i1 ⊢
          simp only [Instr.findAsking, Sem.run_bind, hq, Result.andThen_ok, Bool.false_eq_true, if_false]
          rw [show i + 1 = Nat.succ i from rfl, i1, shift]
      · cases res with
        | none => trivial
        | some p =>
          obtain ⟨j, v⟩ := p
          obtain ⟨g0, e', g1, ⟨x', g2⟩, g3⟩ := i2
          have : j - i = (j - Nat.succ i) + 1 := by omega
          refine ⟨by omega, e', ?_, ⟨x', ?_⟩, g3⟩
          · rw [this]; simpa using g1
          · rw [this]; simpa using g2
    · cases h

/-- What the model answers to a key, whole. -/
def Finds (P : Program) (ρ : Rho) (kt : TypeId) (vk : Value) (w : World) (es : List (AV × AV)) (ens : List MapEntry) : Option (Nat × AV) → Prop
  | none => (Instr.findKey kt vk ens).run P w = .ok none w
  | some (j, v) => ∃ e, ens[j]? = some e ∧ (∃ x, es[j]? = some (x, v)) ∧ RV ρ v e.val ∧ e.key = vk ∧ Instr.sameBits 10000 e.key vk = true ∧ (Instr.findKey kt vk ens).run P w = .ok (some (j, e.val)) w

theorem run_find {kt : TypeId} {key : Option Nat} (hkt : cKey P kt = some key) {k : AV} {vk : Value} (hok : keyOk key k = true) (hk : RV ρ k vk) (w : World) {es : List (AV × AV)} {ens : List MapEntry} (hes : All2 (RE ρ) es ens) {res : Option (Nat × AV)} (h : findK k es 0 = some res) :
    Finds P ρ kt vk w es ens res := by
  obtain ⟨h1, h2⟩ := run_findKey hkt hok hk w hes h
  have hrun : (Instr.findKey kt vk ens).run P w = .ok (ansOf ens 0 res) w := by
    cases key with
    | none =>
      obtain ⟨q, hq, hf⟩ := h1
      simp only [Instr.findKey, Sem.run_bind, run_underlying hq, Result.andThen_ok, hf]
      rfl
    | some n =>
      obtain ⟨e, q, i, hu, _⟩ := cInts_spec (cKey_arr hkt)
      rw [run_findKey_eq w (by rw [hu])]
      exact h1
  cases res with
  | none => exact hrun
  | some p =>
    obtain ⟨j, v⟩ := p
    obtain ⟨_, e, g1, g2, g3, g4, g5⟩ := h2
    simp only [Nat.sub_zero] at g1 g2
    exact ⟨e, g1, g2, g3, g4, g5, by rw [hrun]; simp [ansOf, g1]⟩

theorem run_check_int (d : Nat) {kt : TypeId} {q : IntKind} (hq : P.underlying kt = some (.int q)) (em : Bool) (v : Value) (w : World) : (Instr.checkKey em (d + 1) kt v).run P w = .ok () w := by
  simp [Instr.checkKey, run_underlying hq]

theorem run_check_arr (D : Nat) {kt : TypeId} {n : Nat} (hi : cInts P kt = some n) (em : Bool) (hD : ∀ e q v w, P.underlying e = some (.int q) → (Instr.checkKey em D e v).run P w = .ok () w) (vs : List Value) (hlen : vs.length = n) (w : World) : (Instr.checkKey em (D + 1) kt (.agg vs.toArray)).run P w = .ok () w := by
  obtain ⟨e, q, i, hu, he, hinfo, hsz⟩ := cInts_spec hi
  have hs : (sizeOf e).run P w = .ok 1 w := by rw [run_sizeOf w hinfo, hsz]
  simp only [Instr.checkKey, Sem.run_bind, run_underlying hu, Result.andThen_ok]
  simp only [Std.Legacy.Range.forIn_eq_forIn_range', Std.Legacy.Range.size, Nat.sub_zero, Nat.add_one_sub_one, Nat.div_one]
  have key : ∀ (is : List Nat) (b : PUnit), (∀ j ∈ is, j < n) → (forIn is b fun (i : Nat) (_ : PUnit) => do
      let u ← part e vs.toArray (i * (← sizeOf e))
      Instr.checkKey em D e u
      pure (ForInStep.yield PUnit.unit) : Sem PUnit).run P w = .ok PUnit.unit w := by
    intro is
    induction is with
    | nil => intro b _; rfl
    | cons j is ih =>
      intro b hj
      have hjn := hj j (by simp)
      obtain ⟨v, hv⟩ : ∃ v, vs[j]? = some v := ⟨vs[j]'(by omega), List.getElem?_eq_getElem (by omega)⟩
      have hp : (part e vs.toArray j).run P w = .ok v w := by simp [part, isAgg, run_underlying he, hv]
      have hc := hD e q v w he
      simp only [List.forIn_cons, Sem.run_bind, hs, Result.andThen_ok, Nat.mul_one, hp, hc, Sem.run_pure]
      exact ih _ (fun k hk => hj k (by simp [hk]))
  have := key (List.range' 0 n) PUnit.unit (fun j hj => by simpa using hj)
  simp at this ⊢
  rw [this]
  rfl

theorem run_check {kt : TypeId} {key : Option Nat} (hkt : cKey P kt = some key) {k : AV} {vk : Value} (hok : keyOk key k = true) (hk : RV ρ k vk) (em : Bool) (w : World) : (Instr.checkKey em 10000 kt vk).run P w = .ok () w := by
  cases key with
  | none => obtain ⟨q, hq⟩ := cKey_int hkt; exact run_check_int 9999 hq em vk w
  | some n =>
    cases k with
    | c x => simp [keyOk] at hok
    | agg xs =>
      obtain ⟨vs, rfl, hvs⟩ := hk
      simp only [keyOk] at hok
      exact run_check_arr 9999 (cKey_arr hkt) em (fun e q v w he => run_check_int 9998 he em v w) vs (by rw [← hvs.length]; exact Nat.eq_of_beq_eq_true hok) w

/-- What a map operand holds. -/
def Holds (vm : Value) (ens : Array MapEntry) (w : World) : Prop := (vm = .map none ∧ ens = #[]) ∨ ∃ c, vm = .map (some c) ∧ w.heap[c]? = some (.map ens ens.size)

theorem run_lookup {t kt e : TypeId} (hu : P.underlying t = some (.map kt e)) {vm vk zv : Value} {ens : Array MapEntry} {w : World} (hm : Holds vm ens w) (hc : ∀ em, (Instr.checkKey em 10000 kt vk).run P w = .ok () w) {res : Option (Nat × Value)} (hf : (Instr.findKey kt vk ens.toList).run P w = .ok res w)
    (hz : (zeroValue e).run P w = .ok zv w) (ok : Bool) : (Instr.lookup t vm vk ok).run P w = .ok (match res with | some (_, v) => (if ok then .tuple #[v, .bool true] else v) | none => (if ok then .tuple #[zv, .bool false] else zv)) w := by
  rcases hm with ⟨rfl, rfl⟩ | ⟨c, rfl, hh⟩
  · cases res with
    | none => simp only [Instr.lookup, Sem.run_bind, run_underlying hu, Result.andThen_ok, Sem.run_pure, hc, hf, hz]
    | some p => simp only [Instr.lookup, Sem.run_bind, run_underlying hu, Result.andThen_ok, Sem.run_pure, hc, hf]
  · have hg : (getObj c).run P w = .ok (.map ens ens.size) w := by simp [getObj, Sem.run, hh]
    cases res with
    | none => simp only [Instr.lookup, Sem.run_bind, run_underlying hu, Result.andThen_ok, hg, Sem.run_pure, hc, hf, hz]
    | some p => simp only [Instr.lookup, Sem.run_bind, run_underlying hu, Result.andThen_ok, hg, Sem.run_pure, hc, hf]

/-- The entries that a map operand has. -/
theorem y_lookup (hT : RT ρ T a.tmps) (hH : RH ρ H w) {t kt e : TypeId} {key : Option Nat} {zero : AV} {m k : Operand} {m' k' : AOpnd} {ok : Bool} (hu : P.underlying t = some (.map kt e)) (hkt : cKey P kt = some key) (hz : cZeroV P e = some zero) (hm : cO m = some m') (hk : cO k = some k')
    (he : evOp callf T (.lookup key zero m' k' ok) H = some (r, H')) : H' = H ∧ Yld P ρ (rblk T (.lookup key zero m' k' ok)) a w ⟨dst, .lookup t m k ok, ty, pos, after, guard⟩ r := by
  simp only [evOp] at he
  split at he
  · rename_i x kv hx hkv
    cases hok : keyOk key kv
    · rw [hok] at he; cases he
    rw [hok, cond_true] at he
    have hvk := evV_rel hT hk hkv
    have hvm := evC_rel hT hm hx
    obtain ⟨zv, hzv, hzr⟩ := cZeroV_spec hz
    have hexec : execOp a.eval ⟨dst, .lookup t m k ok, ty, pos, after, guard⟩ = (do pure (.value (← Instr.lookup t (a.eval m) (a.eval k) ok))) := rfl
    have hent : ∀ es, (match x with | .nilm => some [] | .map b => H.getMap b | _ => none : Option (List (AV × AV))) = some es →
        ∃ ens : Array MapEntry, All2 (RE ρ) es ens.toList ∧ ∀ w', Looks ρ (rblk T (.lookup key zero m' k' ok)) w w' → Holds (a.eval m) ens w' := fun es hes => by
      cases x <;> simp only [] at hes <;> first | (cases hes; done) | skip
      · simp only [Option.some.injEq] at hes
        subst hes
        exact ⟨#[], .nil, fun w' _ => .inl ⟨hvm, rfl⟩⟩
      · rename_i b
        obtain ⟨c, l, hc, e0⟩ := hvm
        obtain ⟨_, ens, h1, h2, _⟩ := hH.map hes hc
        have hblk : rblk T (.lookup key zero m' k' ok) = some b := by simp [rblk, hx]
        exact ⟨ens, h2, fun w' hw => .inr ⟨c, e0, (hw b c l hblk hc).trans h1⟩⟩
    split at he
    · cases he
    rename_i es hes
    obtain ⟨ens, hens, hrun⟩ := hent es hes
    have hck := fun w' em => run_check (P := P) hkt hok hvk em w'
    split at he
    · cases he
    · rename_i hf
      simp only [Option.some.injEq, Prod.mk.injEq] at he
      obtain ⟨rfl, rfl⟩ := he
      refine ⟨rfl, Yld.of (v := if ok then .tuple #[zv, .bool false] else zv) hexec ?_ fun w' hw => ?_⟩
      · cases ok
        · exact hzr ρ
        · exact ⟨[zv, .bool false], rfl, .cons (hzr ρ) (.cons rfl .nil)⟩
      · have hfk := run_find (P := P) hkt hok hvk w' hens hf
        exact run_lookup hu (hrun w' hw) (hck w') hfk (hzv w') ok
    · rename_i j v hf
      simp only [Option.some.injEq, Prod.mk.injEq] at he
      obtain ⟨rfl, rfl⟩ := he
      obtain ⟨en, g1, _, g3, _, _, _⟩ := run_find (P := P) hkt hok hvk w hens hf
      refine ⟨rfl, Yld.of (v := if ok then .tuple #[en.val, .bool true] else en.val) hexec ?_ fun w' hw => ?_⟩
      · cases ok
        · exact g3
        · exact ⟨[en.val, .bool true], rfl, .cons g3 (.cons rfl .nil)⟩
      · obtain ⟨en', g1', _, _, _, _, hfk⟩ := run_find (P := P) hkt hok hvk w' hens hf
        rw [g1] at g1'
        simp only [Option.some.injEq] at g1'
        subst g1'
        exact run_lookup hu (hrun w' hw) (hck w') hfk (hzv w') ok
  · cases he
end
end Go.Ev
