/-
  Operations that make or turn memory; the built-in functions; the library's float functions. No conditions.
-/
import Derived.Test.YtfgkhpoibfbnkaaGreatEvI
namespace Go.Ev

section
variable {P : Program} {ρ : Rho} {T : Tr AT} {a : Act} {w : World} {H : AH} {dst : Option Tmp} {ty : TypeId} {pos : String} {after : Array Edge} {guard : Option (Nat × Bool)}
variable {callf : Nat → List AV → AH → Option (AT × AH)} {r : AT} {H' : AH}

/-- The operation comes to something that stands to r, in a world that stands to H'. -/
def Does (P : Program) (ρ : Rho) (H : AH) (a : Act) (w : World) (o : Oper) (r : AT) (H' : AH) : Prop :=
  ∃ v w' ρ', ((execOp a.eval o).run P w = .ok (.value v) w' ∨ ((execOp a.eval o).run P w = .ok .skip w' ∧ v = undef)) ∧ St ρ H w ρ' H' w' ∧ R1 ρ' r v

theorem Does.of_yld {blk : Option Nat} {o : Oper} (hH : RH ρ H w) (h : H' = H ∧ Yld P ρ blk a w o r) : Does P ρ H a w o r H' := by
  obtain ⟨rfl, v, h1, h2⟩ := h
  exact ⟨v, w, ρ, .inl (h2 w (Looks.refl _ _ _)), St.refl hH, h1⟩

theorem Does.value {o : Oper} {s : Sem Value} {v : Value} {w' : World} {ρ' : Rho} (he : execOp a.eval o = (do pure (.value (← s)))) (hs : s.run P w = .ok v w') (hst : St ρ H w ρ' H' w') (hr : R1 ρ' r v) : Does P ρ H a w o r H' :=
  ⟨v, w', ρ', .inl (by rw [he]; simp [hs]), hst, hr⟩

theorem Does.unit {o : Oper} {s : Sem Unit} {w' : World} {ρ' : Rho} (he : execOp a.eval o = (do s; pure .skip)) (hs : s.run P w = .ok () w') (hst : St ρ H w ρ' H' w') : Does P ρ H a w o undefA H' :=
  ⟨undef, w', ρ', .inr ⟨by rw [he]; simp [hs], rfl⟩, hst, ⟨[], rfl, .nil⟩⟩

/- ### New blocks -/

theorem new_full (hH : RH ρ H w) {xs : List AC} {vs : List Value} (hx : RCs ρ xs vs) (e : TypeId) :
    St ρ H w (up ρ H.n (w.heap.size, vs.length)) (H.new (.cells xs true)) (w.alloc (.cells vs.toArray e)) ∧ up ρ H.n (w.heap.size, vs.length) H.n = some (w.heap.size, vs.length) :=
  ⟨St.new hH ⟨vs.toArray, e, vs, [], rfl, by simp, by simp, hx, fun _ => rfl⟩, by simp [up]⟩

theorem run_newRow (e : TypeId) (vs : Array Value) (w : World) : (newRow e vs).run P w = .ok ⟨w.heap.size, 0, none⟩ (w.alloc (.cells vs e)) := by
  simp [newRow]

theorem d_alloc (hH : RH ρ H w) {e : TypeId} {z : Nat} {cells : List AC} (hz : cZero P e = some (z, cells)) (he : evOp callf T (.alloc cells) H = some (r, H')) : Does P ρ H a w ⟨dst, .alloc e, ty, pos, after, guard⟩ r H' := by
  simp only [evOp, Option.some.injEq, Prod.mk.injEq] at he
  obtain ⟨rfl, rfl⟩ := he
  obtain ⟨i, zv, h1, h2, h3, h4, h5⟩ := cZero_spec hz
  obtain ⟨hst, hup⟩ := new_full hH (h5 ρ) e
  refine Does.value (s := Instr.alloc e true (.tuple #[])) (v := .pointer (some ⟨w.heap.size, 0, none⟩)) rfl ?_ hst ⟨_, _, hup, rfl⟩
  simp only [Instr.alloc, Sem.run_bind, run_zero h1 h3, Result.andThen_ok, newVar, run_newRow, Sem.run_pure, Array.toArray_toList]

theorem d_box (hT : RT ρ T a.tmps) (hH : RH ρ H w) {e : TypeId} {x : Operand} {x' : AOpnd} (hx : cO x = some x') (he : evOp callf T (.box x') H = some (r, H')) : Does P ρ H a w ⟨dst, .box e x, ty, pos, after, guard⟩ r H' := by
  simp only [evOp] at he
  split at he
  · rename_i v hv
    simp only [Option.some.injEq, Prod.mk.injEq] at he
    obtain ⟨rfl, rfl⟩ := he
    have hr := evV_rel (a := a) hT hx hv
    obtain ⟨hst, hup⟩ := new_full hH hr.cells e
    refine Does.value (s := Instr.box e (a.eval x)) (v := .pointer (some ⟨w.heap.size, 0, none⟩)) rfl ?_ hst ⟨_, _, hup, rfl⟩
    simp only [Instr.box, Sem.run_bind, newVar, run_newRow, Result.andThen_ok, Sem.run_pure, Array.toArray_toList]
  · cases he

theorem reps_rel {xs : List AC} {vs : List Value} (h : RCs ρ xs vs) : ∀ n, RCs ρ (reps xs n) (List.replicate n vs).flatten
  | 0 => .nil
  | n + 1 => by rw [List.replicate_succ, List.flatten_cons]; exact h.append (reps_rel h n)

theorem reps_mod (vs : Array Value) (hz : 1 ≤ vs.size) : ∀ n, ((Array.range (n * vs.size)).map (vs[· % vs.size]!)).toList = (List.replicate n vs.toList).flatten
  | 0 => by simp
  | n + 1 => by
    have ih := reps_mod vs hz n
    simp only [Array.toList_map, Array.toList_range] at ih ⊢
    rw [List.replicate_succ, List.flatten_cons, ← ih, Nat.succ_mul, Nat.add_comm (n * vs.size), List.range_add, List.map_append]
    congr 1
    · apply List.ext_getElem?
      intro i
      rw [List.getElem?_map]
      by_cases hi : i < vs.size
      · rw [List.getElem?_range hi, Option.map_some, Nat.mod_eq_of_lt hi, List.getElem?_eq_getElem (by simpa using hi)]
        simp [hi]
      · rw [List.getElem?_eq_none (by simp; omega), List.getElem?_eq_none (by simp; omega)]
        rfl
    · rw [List.map_map]
      apply List.map_congr_left
      intro i _
      simp

theorem d_buildSlice (hT : RT ρ T a.tmps) (hH : RH ρ H w) {t e : TypeId} {len z : Nat} {zero : List AC} {ps : Array (Nat × Operand)} {qs : List (Nat × Nat × AOpnd)} (hu : P.underlying t = some (.slice e)) (hz : cZero P e = some (z, zero)) (hlen : 1 ≤ z ∧ len * z ≤ 2 ^ 24)
    (hp : cPlaces (fun i => some (i * z, z)) ps.toList = some qs) (he : evOp callf T (.buildSlice (reps zero len) qs len) H = some (r, H')) : Does P ρ H a w ⟨dst, .buildSlice t len ps, ty, pos, after, guard⟩ r H' := by
  simp only [evOp] at he
  split at he
  · rename_i cs hf
    simp only [Option.some.injEq, Prod.mk.injEq] at he
    obtain ⟨rfl, rfl⟩ := he
    obtain ⟨i, zv, h1, rfl, h3, h4, h5⟩ := cZero_spec hz
    have hzs : zv.cells.size = i.size := by have := (h5 ρ).length; simp at this; omega
    obtain ⟨vs, hvs, hfill⟩ := fill_rel (a := a) hT hp (reps_rel (h5 ρ) len) hf
    obtain ⟨hst, hup⟩ := new_full hH hvs e
    have hbig : ¬ len * i.size > 2 ^ 24 := by omega
    have hsz : cSize P e = some i.size := by simp [cSize, h1]
    have hcells : ∀ z0 : Array Value, (len * i.size = 0 → z0 = #[]) → (¬ len * i.size = 0 → z0 = zv.cells) → (Array.range (len * i.size)).map (z0[· % z0.size]!) = (List.replicate len zv.cells.toList).flatten.toArray := fun z0 e0 e1 => by
      apply Array.ext'
      by_cases hc : len * i.size = 0
      · have hl0 : len = 0 := by
          rcases Nat.mul_eq_zero.1 hc with h | h
          · exact h
          · omega
        subst hl0
        simp
      · rw [e1 hc, ← hzs, reps_mod zv.cells (by omega) len]
    have hpm : (ps.map fun (i, x) => (i, a.eval x)).toList = ps.toList.map fun (i, x) => (i, a.eval x) := by simp
    have hrun : (Instr.buildSlice t len (ps.map fun (i, x) => (i, a.eval x))).run P w = .ok (.slice (some ⟨w.heap.size, 0, none⟩) len len) (w.alloc (.cells vs.toArray e)) := by
      by_cases hc : len * i.size = 0
      · have hcc := hcells #[] (fun _ => rfl) (fun h => absurd hc h)
        simp only [Instr.buildSlice, Sem.run_bind, run_underlying hu, Result.andThen_ok, run_size hsz, if_neg hbig, if_pos hc, Sem.run_pure, hpm]
        rw [hcc]
        simp only [hfill, Sem.run_bind, run_newRow, Result.andThen_ok, Sem.run_pure]
      · have hcc := hcells zv.cells (fun h => absurd h hc) (fun _ => rfl)
        simp only [Instr.buildSlice, Sem.run_bind, run_underlying hu, Result.andThen_ok, run_size hsz, if_neg hbig, if_neg hc, run_zero h1 h3, Sem.run_pure, hpm]
        rw [hcc]
        simp only [hfill, Sem.run_bind, run_newRow, Result.andThen_ok, Sem.run_pure]
    have hrel : R1 (up ρ H.n (w.heap.size, vs.length)) (mk1 (.sl H.n 0 len (some len))) (.slice (some ⟨w.heap.size, 0, none⟩) len len) := ⟨_, _, len, hup, rfl, Nat.le_refl _, by simp⟩
    refine ⟨_, _, _, .inl ?_, hst, hrel⟩
    simp only [execOp, Sem.run_bind, hrun, Result.andThen_ok, Sem.run_pure]
  · cases he

theorem d_store (hT : RT ρ T a.tmps) (hH : RH ρ H w) {t : TypeId} {z : Nat} {x y : Operand} {x' y' : AOpnd} (hz : cSize P t = some z) (hx : cO x = some x') (hy : cO y = some y') (he : evOp callf T (.store z x' y') H = some (r, H')) :
    Does P ρ H a w ⟨dst, .store t x y, ty, pos, after, guard⟩ r H' := by
  simp only [evOp] at he
  split at he
  · rename_i b o v hb hv
    cases hl : Nat.beq v.cells.length z
    · rw [hl] at he; cases he
    rw [hl, cond_true] at he
    split at he
    · rename_i H₁ hw
      simp only [Option.some.injEq, Prod.mk.injEq] at he
      obtain ⟨rfl, rfl⟩ := he
      obtain ⟨c, m, hc, hp⟩ := evC_rel hT hx hb
      have hr := evV_rel (a := a) hT hy hv
      obtain ⟨w', hrun, hst⟩ := run_write (P := P) hH hw hc hr.cells
      refine Does.unit (s := Instr.storeAt t (a.eval x) (a.eval y)) rfl ?_ hst
      have hsz : (a.eval y).cells.size = z := by
        have := hr.cells.length
        have h2 := Nat.eq_of_beq_eq_true hl
        simp only [Array.length_toList] at this
        omega
      rw [hp]
      simp only [Instr.storeAt, Instr.sureAddr, Sem.run_bind, Sem.run_pure, Result.andThen_ok, storeVar, run_size hz, Sem.run_ite, hsz, ne_eq, not_true, if_false]
      exact hrun
    · cases he
  · cases he

theorem d_mkMap (hH : RH ρ H w) {t : TypeId} (he : evOp callf T .mkMap H = some (r, H')) : Does P ρ H a w ⟨dst, .makeMap t none, ty, pos, after, guard⟩ r H' := by
  simp only [evOp, Option.some.injEq, Prod.mk.injEq] at he
  obtain ⟨rfl, rfl⟩ := he
  have hst := St.new (o := .map []) (m := 0) (obj := .map #[] 0) hH ⟨#[], rfl, .nil, by simp⟩
  refine Does.value (s := Instr.makeMap t none) (v := .map (some w.heap.size)) rfl ?_ hst ⟨_, 0, by simp [up], rfl⟩
  simp [Instr.makeMap]

theorem wrap_small {n : Int} (h0 : 0 ≤ n) (h : n ≤ big) : IntKind.i64.wrap n = n := by
  have hb : (big : Int) = 2 ^ 40 := rfl
  simp only [IntKind.wrap, IntKind.signed, IntKind.bits]
  simp
  omega

theorem d_mkSlice (hT : RT ρ T a.tmps) (hH : RH ρ H w) {t e : TypeId} {z : Nat} {zero : List AC} {i : TypeInfo} {l c : Operand} {l' c' : AOpnd} (hu : P.underlying t = some (.slice e)) (hz : cZero P e = some (z, zero)) (hi : P.info? e = some i) (hz1 : 1 ≤ z) (hl : cO l = some l') (hc : cO c = some c')
    (he : evOp callf T (.mkSlice z zero i.bytes l' c') H = some (r, H')) : Does P ρ H a w ⟨dst, .makeSlice t l c, ty, pos, after, guard⟩ r H' := by
  simp only [evOp] at he
  split at he
  · rename_i k1 ln k2 cn hln hcn
    split at he
    · rename_i hb
      obtain ⟨b0, b1, b2, b3⟩ := hb
      cases hzz : Nat.beq zero.length z
      · rw [hzz] at he; cases he
      rw [hzz, cond_true] at he
      simp only [Option.some.injEq, Prod.mk.injEq] at he
      obtain ⟨rfl, rfl⟩ := he
      obtain ⟨i', zv, h1, rfl, h3, h4, h5⟩ := cZero_spec hz
      rw [hi] at h1
      simp only [Option.some.injEq] at h1
      subst h1
      have hlv : a.eval l = .int k1 ln := evC_rel hT hl hln
      have hcv : a.eval c = .int k2 cn := evC_rel hT hc hcn
      have hzs : zv.cells.size = i.size := by have := (h5 ρ).length; simp at this; omega
      obtain ⟨hst, hup⟩ := new_full hH (reps_rel (h5 ρ) cn.toNat) e
      have w1 := wrap_small (n := ln) b0 (by omega)
      have w2 := wrap_small (n := cn) (by omega) b2
      have hsz : cSize P e = some i.size := by simp [cSize, hi]
      have hcells : ∀ z0 : Array Value, (¬ cn.toNat * i.size = 0 → z0 = zv.cells) → (Array.range (cn.toNat * i.size)).map (z0[· % z0.size]!) = (List.replicate cn.toNat zv.cells.toList).flatten.toArray := fun z0 e1 => by
        apply Array.ext'
        by_cases hc0 : cn.toNat * i.size = 0
        · have hl0 : cn.toNat = 0 := by
            rcases Nat.mul_eq_zero.1 hc0 with h | h
            · exact h
            · omega
          rw [hl0]
          simp
        · rw [e1 hc0, ← hzs, reps_mod zv.cells (by omega) cn.toNat]
      have t1 : ¬ ((i.bytes : Int) * cn > 2 ^ 48) := by omega
      have cond1 : ((decide (cn < 0) || decide ((i.bytes : Int) * cn > 2 ^ 48)) || decide (ln < 0) || decide (ln > cn)) = false := by
        simp only [Bool.or_eq_false_iff, decide_eq_false_iff_not]
        refine ⟨⟨⟨by omega, t1⟩, by omega⟩, by omega⟩
      have hrun : (Instr.makeSlice t (.int k1 ln) (.int k2 cn)).run P w = .ok (.slice (some ⟨w.heap.size, 0, none⟩) ln.toNat cn.toNat) (w.alloc (.cells (List.replicate cn.toNat zv.cells.toList).flatten.toArray e)) := by
        simp only [Instr.makeSlice, Sem.run_bind, run_underlying hu, Result.andThen_ok, asInt, asIntOf, Sem.run_pure, typeInfo, run_program, hi, w1, w2]
        rw [if_neg (by rw [cond1]; simp)]
        by_cases hc0 : cn.toNat * i.size = 0
        · have hcc := hcells #[] (fun h => absurd hc0 h)
          simp only [Sem.run_bind, run_askRoom, Result.andThen_ok, run_size hsz, if_pos hc0, Sem.run_pure]
          rw [hcc]
          simp only [run_newRow, Result.andThen_ok]
        · have hcc := hcells zv.cells (fun _ => rfl)
          simp only [Sem.run_bind, run_askRoom, Result.andThen_ok, run_size hsz, if_neg hc0, Sem.run_pure, run_zero hi h3]
          rw [hcc]
          simp only [run_newRow, Result.andThen_ok]
      have hrel : R1 (up ρ H.n (w.heap.size, (List.replicate cn.toNat zv.cells.toList).flatten.length)) (mk1 (.sl H.n 0 ln.toNat (some cn.toNat))) (.slice (some ⟨w.heap.size, 0, none⟩) ln.toNat cn.toNat) := ⟨_, _, cn.toNat, hup, rfl, by omega, by simp⟩
      rw [← hlv, ← hcv] at hrun
      exact Does.value (s := Instr.makeSlice t (a.eval l) (a.eval c)) rfl hrun hst hrel
    · cases he
  · cases he
end
end Go.Ev
