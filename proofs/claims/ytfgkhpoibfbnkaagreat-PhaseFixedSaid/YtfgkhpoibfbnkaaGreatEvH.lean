/-
  What the other operations that only look give. No conditions.
-/
import Derived.Test.YtfgkhpoibfbnkaaGreatEvG
import Derived.Laws.Externs
import Derived.KernelRfl
namespace Go.Ev

section
variable {P : Program} {ρ : Rho} {T : Tr AT} {a : Act} {w : World} {H : AH} {dst : Option Tmp} {ty : TypeId} {pos : String} {after : Array Edge} {guard : Option (Nat × Bool)}
variable {callf : Nat → List AV → AH → Option (AT × AH)} {r : AT} {H' : AH}

theorem some1_spec {x : Option AC} (h : some1 H x = some (r, H')) : ∃ y, x = some y ∧ r = mk1 y ∧ H' = H := by
  cases x with
  | none => simp [some1] at h
  | some y => simp only [some1, Option.some.injEq, Prod.mk.injEq] at h; exact ⟨y, rfl, h.1.symm, h.2.symm⟩

theorem keepH_spec {x : Option AT} (h : keepH H x = some (r, H')) : x = some r ∧ H' = H := by
  cases x with
  | none => simp [keepH] at h
  | some y => simp only [keepH, Option.some.injEq, Prod.mk.injEq] at h; exact ⟨by rw [h.1], h.2.symm⟩

/-- A value that does not hang on the world. -/
theorem Yld.plain {o : Oper} {s : Sem Value} {v : Value} (he : execOp a.eval o = (do pure (.value (← s)))) (hr : R1 ρ r v) (hs : ∀ w', s.run P w' = .ok v w') : Yld P ρ none a w o r :=
  Yld.of he hr fun w' _ => hs w'

theorem y_build (hT : RT ρ T a.tmps) {t : TypeId} {ps : Array (Nat × Operand)} {place : Nat → Option (Nat × Nat)} {qs : List (Nat × Nat × AOpnd)} {zero : List AC} {z : Nat} (hz : cZero P t = some (z, zero)) (hp : cPlaces place ps.toList = some qs)
    (hrun : ∀ (zv : Value) (cs : Array Value), (∀ w', (zeroValue t).run P w' = .ok zv w') → Instr.fill place zv.cells (ps.toList.map fun (i, x) => (i, a.eval x)) = some cs → ∀ w', (Instr.build t (ps.map fun (i, x) => (i, a.eval x))).run P w' = .ok (.agg cs) w')
    (he : evOp callf T (.build zero qs) H = some (r, H')) : H' = H ∧ Yld P ρ none a w ⟨dst, .build t ps, ty, pos, after, guard⟩ r := by
  simp only [evOp] at he
  split at he
  · rename_i cs hf
    simp only [Option.some.injEq, Prod.mk.injEq] at he
    obtain ⟨rfl, rfl⟩ := he
    obtain ⟨i, zv, h1, h2, h3, h4, h5⟩ := cZero_spec hz
    obtain ⟨vs, hvs, hfill⟩ := fill_rel (a := a) hT hp (h5 ρ) hf
    refine ⟨rfl, Yld.plain (s := Instr.build t (ps.map fun (i, x) => (i, a.eval x))) (v := .agg vs.toArray) rfl ⟨vs, rfl, hvs⟩ fun w' => ?_⟩
    exact hrun zv vs.toArray (fun w => run_zero h1 h3 w) (by simpa using hfill) w'
  · cases he

theorem run_fieldPlaces (fs : Array Field) (h : sizesOk P fs = true) (w : World) : (fs.mapM fun f => do pure (f.offset, ← sizeOf f.type) : Sem (Array (Nat × Nat))).run P w = .ok (fs.map fun f => (f.offset, P.cellsOf f.type)) w := by
  rw [Array.mapM_eq_mapM_toList]
  have key : ∀ l : List Field, (∀ f ∈ l, (cSize P f.type).isSome = true) → (l.mapM fun f => do pure (f.offset, ← sizeOf f.type) : Sem (List (Nat × Nat))).run P w = .ok (l.map fun f => (f.offset, P.cellsOf f.type)) w := by
    intro l
    induction l with
    | nil => intro _; rfl
    | cons f l ih =>
      intro hl
      obtain ⟨z, hz⟩ := Option.isSome_iff_exists.1 (hl f (by simp))
      obtain ⟨i, hi, rfl⟩ := cSize_spec hz
      have ih' := ih (fun g hg => hl g (by simp [hg]))
      simp only [List.mapM_cons, Sem.run_bind, run_size hz, Result.andThen_ok, Sem.run_pure, ih', List.map_cons, Program.cellsOf, hi, Option.map_some, Option.getD_some]
  have hall : ∀ f ∈ fs.toList, (cSize P f.type).isSome = true := fun f hf => Array.all_eq_true_iff_forall_mem.1 h f (Array.mem_toList_iff.1 hf)
  simp only [Sem.run_map, key _ hall, Result.andThen_ok]
  congr 1
  apply Array.ext'
  simp

theorem fieldAtA_eq (fs : Array Field) (h : sizesOk P fs = true) (i : Nat) : (fs.map fun f => (f.offset, P.cellsOf f.type))[i]? = fieldAtA P fs i := by
  unfold fieldAtA
  rw [Array.getElem?_map]
  cases hf : fs[i]? with
  | none => rfl
  | some f =>
    obtain ⟨z, hz⟩ := Option.isSome_iff_exists.1 (Array.all_eq_true_iff_forall_mem.1 h f (Array.mem_of_getElem? hf))
    obtain ⟨j, hj, rfl⟩ := cSize_spec hz
    simp [hz, Program.cellsOf, hj]

theorem y_build_struct (hT : RT ρ T a.tmps) {t : TypeId} {ps : Array (Nat × Operand)} {fs : Array Field} {qs : List (Nat × Nat × AOpnd)} {zero : List AC} {z : Nat} (hz : cZero P t = some (z, zero)) (hu : P.underlying t = some (.struct fs)) (hs : sizesOk P fs = true)
    (hp : cPlaces (fieldAtA P fs) ps.toList = some qs) (he : evOp callf T (.build zero qs) H = some (r, H')) : H' = H ∧ Yld P ρ none a w ⟨dst, .build t ps, ty, pos, after, guard⟩ r := by
  refine y_build hT hz hp (fun zv cs hzv hfill w' => ?_) he
  have hfun : ((fs.map fun f => (f.offset, P.cellsOf f.type))[·]?) = fieldAtA P fs := funext fun i => fieldAtA_eq fs hs i
  simp only [Instr.build, Sem.run_bind, hzv, Result.andThen_ok, run_underlying hu, run_fieldPlaces fs hs]
  rw [hfun]
  simp [hfill]

theorem y_build_array (hT : RT ρ T a.tmps) {t e : TypeId} {n sz : Nat} {ps : Array (Nat × Operand)} {qs : List (Nat × Nat × AOpnd)} {zero : List AC} {z : Nat} (hz : cZero P t = some (z, zero)) (hu : P.underlying t = some (.array n e)) (hs : cSize P e = some sz)
    (hp : cPlaces (fun i => some (i * sz, sz)) ps.toList = some qs) (he : evOp callf T (.build zero qs) H = some (r, H')) : H' = H ∧ Yld P ρ none a w ⟨dst, .build t ps, ty, pos, after, guard⟩ r := by
  refine y_build hT hz hp (fun zv cs hzv hfill w' => ?_) he
  simp only [Instr.build, Sem.run_bind, hzv, Result.andThen_ok, run_underlying hu, run_size hs]
  simp [hfill]

theorem y_nilCheck (hT : RT ρ T a.tmps) {x : Operand} {y : AOpnd} (hx : cO x = some y) (he : evOp callf T (.nilCheck y) H = some (r, H')) : H' = H ∧ Yld P ρ none a w ⟨dst, .nilCheck x, ty, pos, after, guard⟩ r := by
  simp only [evOp] at he
  split at he
  · rename_i b o hb
    simp only [Option.some.injEq, Prod.mk.injEq] at he
    obtain ⟨rfl, rfl⟩ := he
    have hr := evC_rel hT hx hb
    obtain ⟨c, m, hc, hv⟩ := id hr
    exact ⟨rfl, _, hr, fun w' _ => by simp [execOp, hv]⟩
  · rename_i f caps hb
    simp only [Option.some.injEq, Prod.mk.injEq] at he
    obtain ⟨rfl, rfl⟩ := he
    have hr := evC_rel hT hx hb
    obtain ⟨vs, hv, _⟩ := id hr
    exact ⟨rfl, _, hr, fun w' _ => by simp [execOp, hv]⟩
  · cases he

theorem RC.notIface {x : AC} {v : Value} (h : RC ρ x v) : v ≠ .nilIface ∧ ∀ cs, v ≠ .agg cs := by
  have h1 := h.one
  cases x <;> simp only [RC, RPtr] at h
  case flt => obtain ⟨n, _, rfl⟩ := h; simp
  case cpx => obtain ⟨n, m, _, _, rfl⟩ := h; simp
  case ptr => obtain ⟨c, m, _, rfl⟩ := h; simp
  case sl => obtain ⟨c, m, k, _, rfl, _⟩ := h; simp
  case osl => obtain ⟨c, m, k, _, rfl, _⟩ := h; simp
  case map => obtain ⟨c, m, _, rfl⟩ := h; simp
  case fn => obtain ⟨vs, rfl, _⟩ := h; simp
  all_goals (subst h; simp)

theorem exec_bin (op : BinOp) (t yt : TypeId) (x y : Operand) : execOp a.eval ⟨dst, .binOp op t x y yt, ty, pos, after, guard⟩ = (do pure (.value (← (do eqGuard op t x y (a.eval x) (a.eval y); binOp op t (a.eval x) (a.eval y))))) := rfl

theorem y_bin (hT : RT ρ T a.tmps) {op : BinOp} {t yt : TypeId} {x y : Operand} {x' y' : AOpnd} (hx : cO x = some x') (hy : cO y = some y') (he : evOp callf T (.bin op x' y') H = some (r, H')) :
    H' = H ∧ (Yld P ρ none a w ⟨dst, .binOp op t x y yt, ty, pos, after, guard⟩ r ∨
      (drewNan (.bin op x' y') r = true ∧ ∀ w, ∃ q w', R1 ρ r q ∧ Drawn w w' ∧ (execOp a.eval ⟨dst, .binOp op t x y yt, ty, pos, after, guard⟩).run P w = .ok (.value q) w')) := by
  simp only [evOp] at he
  split at he
  · rename_i p q hp hq
    obtain ⟨z, hz, rfl, rfl⟩ := some1_spec he
    have hu := evC_rel hT hx hp
    have hv := evC_rel hT hy hq
    have hg := fun w => eqGuard_plain (P := P) (op := op) (t := t) (x := x) (y := y) (v := a.eval y) hu.notIface.1 hu.notIface.2 w
    refine ⟨rfl, ?_⟩
    rcases run_binC (P := P) hz hu hv t with ⟨v, h1, h2⟩ | ⟨hn, h2⟩
    · exact .inl (Yld.plain (exec_bin op t yt x y) h1 fun w' => by simp [hg, h2])
    · refine .inr ⟨hn, fun w => ?_⟩
      obtain ⟨v, w', h3, h4, h5⟩ := h2 w
      exact ⟨v, w', h3, h4, by rw [exec_bin]; simp [hg, h5]⟩
  · cases he

theorem y_eqB (hT : RT ρ T a.tmps) {neg : Bool} {op : BinOp} (hop : op = if neg then .neq else .eql) {t yt : TypeId} {x y : Operand} {x' y' : AOpnd} (hu : P.underlying t = some .bool) (hx : cO x = some x') (hy : cO y = some y') (he : evOp callf T (.eqB neg x' y') H = some (r, H')) :
    H' = H ∧ Yld P ρ none a w ⟨dst, .binOp op t x y yt, ty, pos, after, guard⟩ r := by
  simp only [evOp] at he
  split at he
  · rename_i p q hp hq
    simp only [Option.some.injEq, Prod.mk.injEq] at he
    obtain ⟨rfl, rfl⟩ := he
    have hp' := evC_rel hT hx hp
    have hq' := evC_rel hT hy hq
    simp only [RC] at hp' hq'
    have hg := fun w => eqGuard_plain (P := P) (op := op) (t := t) (x := x) (y := y) (u := .bool p) (v := .bool q) (by simp) (by simp) w
    have he : ∀ w, (Op.equal t (.bool p) (.bool q)).run P w = .ok (p == q) w := fun w => run_equalIn_bool w 9999 t p q hu
    refine ⟨rfl, Yld.plain (v := .bool (xor neg (p == q))) (exec_bin op t yt x y) rfl fun w' => ?_⟩
    rw [hp', hq']
    simp only [Sem.run_bind, hg, Result.andThen_ok]
    subst hop
    cases neg <;> simp [binOp, he]
  · cases he

theorem y_eqA (hT : RT ρ T a.tmps) {neg : Bool} {op : BinOp} (hop : op = if neg then .neq else .eql) {t yt : TypeId} {n : Nat} {x y : Operand} {x' y' : AOpnd} (hi : cInts P t = some n) (hgd : P.eqGuardType P.depth t = false) (hx : cO x = some x') (hy : cO y = some y') (he : evOp callf T (.eqA neg n x' y') H = some (r, H')) :
    H' = H ∧ Yld P ρ none a w ⟨dst, .binOp op t x y yt, ty, pos, after, guard⟩ r := by
  simp only [evOp] at he
  split at he
  · rename_i p q hp hq
    cases hb : Nat.beq p.length n
    · rw [hb] at he; cases he
    · rw [hb, cond_true] at he
      split at he
      · rename_i b hs
        simp only [Option.some.injEq, Prod.mk.injEq] at he
        obtain ⟨rfl, rfl⟩ := he
        obtain ⟨vx, ex, hvx⟩ := evV_rel hT hx hp
        obtain ⟨vy, ey, hvy⟩ := evV_rel hT hy hq
        have hg := fun w => run_eqGuard_agg (P := P) w op t x y vx.toArray vy.toArray hgd
        have he : ∀ w, (Op.equalIn 10000 t (.agg vx.toArray) (.agg vy.toArray)).run P w = .ok b w := fun w => run_equal_arr hi 9998 hvx hvy (Nat.eq_of_beq_eq_true hb) hs w
        refine ⟨rfl, Yld.plain (v := .bool (xor neg b)) (exec_bin op t yt x y) rfl fun w' => ?_⟩
        rw [ex, ey]
        simp only [Sem.run_bind, hg, Result.andThen_ok]
        subst hop
        cases neg
        · simp only [Bool.false_eq_true, if_false, run_eql_struct, he, Result.andThen_ok, Bool.false_xor]
        · simp only [if_true, run_neq_struct, he, Result.andThen_ok, Bool.true_xor]
      · cases he
  · cases he

theorem run_equalIn_sliceNil (d : Nat) {t e : TypeId} (hu : P.underlying t = some (.slice e)) (base : Option Addr) (l k : Nat) (w : World) : (Op.equalIn (d + 1) t (.slice base l k) (.slice none 0 0)).run P w = .ok base.isNone w := by
  cases base <;> simp [Op.equalIn, run_underlying hu]

theorem y_isNil (hT : RT ρ T a.tmps) {neg : Bool} {op : BinOp} (hop : op = if neg then .neq else .eql) {t yt e : TypeId} {x y : Operand} {x' : AOpnd} (hu : P.underlying t = some (.slice e)) (hx : cO x = some x') (hy : a.eval y = .slice none 0 0) (he : evOp callf T (.isNil neg x') H = some (r, H')) :
    H' = H ∧ Yld P ρ none a w ⟨dst, .binOp op t x y yt, ty, pos, after, guard⟩ r := by
  have go : ∀ (base : Option Addr) (l k : Nat) (b : Bool), a.eval x = .slice base l k → base.isNone = b → Yld P ρ none a w ⟨dst, .binOp op t x y yt, ty, pos, after, guard⟩ (mk1 (.bool (xor neg b))) := fun base l k b hv hb => by
    have hg := fun w => eqGuard_plain (P := P) (op := op) (t := t) (x := x) (y := y) (u := .slice base l k) (v := .slice none 0 0) (by simp) (by simp) w
    have hq : ∀ w, (Op.equal t (.slice base l k) (.slice none 0 0)).run P w = .ok b w := fun w => by
      rw [← hb]
      exact run_equalIn_sliceNil 9999 hu base l k w
    refine Yld.plain (v := .bool (xor neg b)) (exec_bin op t yt x y) rfl fun w' => ?_
    rw [hv, hy]
    simp only [Sem.run_bind, hg, Result.andThen_ok]
    subst hop
    cases neg <;> simp [binOp, hq]
  simp only [evOp] at he
  split at he
  · rename_i hp
    simp only [Option.some.injEq, Prod.mk.injEq] at he
    obtain ⟨rfl, rfl⟩ := he
    exact ⟨rfl, go none 0 0 true (evC_rel hT hx hp) rfl⟩
  · rename_i b o l cap hp
    simp only [Option.some.injEq, Prod.mk.injEq] at he
    obtain ⟨rfl, rfl⟩ := he
    obtain ⟨c, m, k, _, hv, _⟩ := evC_rel hT hx hp
    exact ⟨rfl, go _ _ _ false hv rfl⟩
  · rename_i b l z hp
    simp only [Option.some.injEq, Prod.mk.injEq] at he
    obtain ⟨rfl, rfl⟩ := he
    obtain ⟨c, m, k, _, hv, _⟩ := evC_rel hT hx hp
    exact ⟨rfl, go _ _ _ false hv rfl⟩
  · cases he

theorem y_strAt (hT : RT ρ T a.tmps) {t : TypeId} {s : ByteArray} {i : Operand} {i' : AOpnd} (hu : P.underlying t = some .string) (hi : cO i = some i') (he : evOp callf T (.strAt (s.data.toList.map UInt8.toNat) i') H = some (r, H')) :
    H' = H ∧ Yld P ρ none a w ⟨dst, .index t (.const (.string s)) i, ty, pos, after, guard⟩ r := by
  simp only [evOp] at he
  split at he
  · rename_i k n hn
    split at he
    · rename_i h0
      split at he
      · rename_i b hb
        simp only [Option.some.injEq, Prod.mk.injEq] at he
        obtain ⟨rfl, rfl⟩ := he
        have hv : a.eval i = .int k n := evC_rel hT hi hn
        rw [List.getElem?_map, Option.map_eq_some_iff] at hb
        obtain ⟨u, hu', rfl⟩ := hb
        have hs : s[n.toNat]? = some u := by
          rw [Array.getElem?_toList] at hu'
          obtain ⟨hlt, e⟩ := Array.getElem?_eq_some_iff.1 hu'
          have hlt' : n.toNat < s.size := hlt
          rw [getElem?_pos s n.toNat hlt']
          exact congrArg some e
        refine ⟨rfl, Yld.plain (s := Instr.index t (.string s) (a.eval i)) (v := .int .u8 u.toNat) rfl rfl fun w' => ?_⟩
        rw [hv]
        simp [Instr.index, asIntOf, run_underlying hu, h0, hs]
      · cases he
    · cases he
  · cases he

theorem y_un (hT : RT ρ T a.tmps) {op : UnOp} {t : TypeId} {x : Operand} {x' : AOpnd} (hx : cO x = some x') (he : evOp callf T (.un op x') H = some (r, H')) : H' = H ∧ Yld P ρ none a w ⟨dst, .unOp op t x, ty, pos, after, guard⟩ r := by
  simp only [evOp] at he
  split at he
  · rename_i p hp
    obtain ⟨z, hz, rfl, rfl⟩ := some1_spec he
    obtain ⟨v, h1, h2⟩ := run_unC (P := P) hz (evC_rel hT hx hp)
    exact ⟨rfl, Yld.plain (s := Op.unary op (a.eval x)) rfl h1 h2⟩
  · cases he

theorem y_toInt (hT : RT ρ T a.tmps) {s d : TypeId} {k : IntKind} {ds : TypeDesc} {x : Operand} {x' : AOpnd} (hs : P.underlying s = some ds) (hd : P.underlying d = some (.int k)) (hx : cO x = some x') (he : evOp callf T (.toInt k x') H = some (r, H')) :
    H' = H ∧ Yld P ρ none a w ⟨dst, .convert s d x, ty, pos, after, guard⟩ r := by
  simp only [evOp] at he
  split at he
  · rename_i k' n hn
    simp only [Option.some.injEq, Prod.mk.injEq] at he
    obtain ⟨rfl, rfl⟩ := he
    have hv : a.eval x = .int k' n := evC_rel hT hx hn
    refine ⟨rfl, Yld.plain (s := convert s d (a.eval x)) (v := .int k (k.wrap n)) rfl rfl fun w' => ?_⟩
    rw [hv]
    simp [convert, run_underlying hs, run_underlying hd, Conv.intToInt]
  · cases he

theorem y_toFlt (hT : RT ρ T a.tmps) {s d : TypeId} {ds : TypeDesc} {x : Operand} {x' : AOpnd} (hs : P.underlying s = some ds) (hd : P.underlying d = some (.float .f64)) (hx : cO x = some x') (he : evOp callf T (.toFlt x') H = some (r, H')) :
    H' = H ∧ Yld P ρ none a w ⟨dst, .convert s d x, ty, pos, after, guard⟩ r := by
  simp only [evOp] at he
  split at he
  · rename_i k' n hn
    simp only [Option.some.injEq, Prod.mk.injEq] at he
    obtain ⟨rfl, rfl⟩ := he
    have hv : a.eval x = .int k' n := evC_rel hT hx hn
    refine ⟨rfl, Yld.plain (s := convert s d (a.eval x)) (v := .float .f64 (FloatKind.f64.nearest n)) rfl ⟨_, rfl, rfl⟩ fun w' => ?_⟩
    rw [hv]
    simp [convert, run_underlying hs, run_underlying hd, Conv.intToFloat]
  · rename_i q hq
    simp only [Option.some.injEq, Prod.mk.injEq] at he
    obtain ⟨rfl, rfl⟩ := he
    obtain ⟨n, hn, hv⟩ := evC_rel hT hx hq
    refine ⟨rfl, Yld.plain (s := convert s d (a.eval x)) (v := .float .f64 n) rfl ⟨n, hn, rfl⟩ fun w' => ?_⟩
    rw [hv]
    simp [convert, run_underlying hs, run_underlying hd, Conv.floatToFloat]
  · cases he

theorem y_mkFn (hT : RT ρ T a.tmps) {f : Nat} {first caps : Array Operand} {xs : List AOpnd} (hf : first.toList = []) (hx : cOs caps.toList = some xs) (he : evOp callf T (.mkFn f xs) H = some (r, H')) :
    H' = H ∧ Yld P ρ none a w ⟨dst, .makeFunc (.func f) first caps, ty, pos, after, guard⟩ r := by
  simp only [evOp] at he
  split at he
  · rename_i ps hp
    simp only [Option.some.injEq, Prod.mk.injEq] at he
    obtain ⟨rfl, rfl⟩ := he
    have hrel := evCs_rel (a := a) hT hx hp
    have hfe : first = #[] := Array.ext' hf
    subst hfe
    refine ⟨rfl, Yld.plain (s := Instr.makeFunc (.func f) (Array.map a.eval #[]) (caps.map a.eval)) (v := .func (.func f) #[] (caps.map a.eval)) rfl ⟨(caps.map a.eval).toList, by rw [Array.toArray_toList], by simpa using hrel⟩ fun w' => ?_⟩
    simp [Instr.makeFunc]
  · cases he

theorem y_addr (hT : RT ρ T a.tmps) {t : TypeId} {fs : Array Field} {x : Operand} {x' : AOpnd} {i z : Nat} {f : Field} (hu : P.underlying t = some (.struct fs)) (hf : fs[i]? = some f) (hz : cSize P f.type = some (z + 1)) (hx : cO x = some x') (he : evOp callf T (.addr f.offset x') H = some (r, H')) :
    H' = H ∧ Yld P ρ none a w ⟨dst, .fieldAddr t x i, ty, pos, after, guard⟩ r := by
  simp only [evOp] at he
  split at he
  · rename_i b o hb
    simp only [Option.some.injEq, Prod.mk.injEq] at he
    obtain ⟨rfl, rfl⟩ := he
    obtain ⟨c, m, hc, hv⟩ := evC_rel hT hx hb
    refine ⟨rfl, Yld.plain (s := Instr.fieldAt t (a.eval x) i) (v := .pointer (some ⟨c, o + f.offset, none⟩)) rfl ⟨c, m, hc, rfl⟩ fun w' => ?_⟩
    rw [hv]
    simp [Instr.fieldAt, run_underlying hu, hf, Instr.sureAddr, fieldPlace, run_size hz, Addr.add_mk]
  · cases he

theorem y_field (hT : RT ρ T a.tmps) {t : TypeId} {fs : Array Field} {x : Operand} {x' : AOpnd} {i : Nat} {f : Field} {z : Option Nat} (hu : P.underlying t = some (.struct fs)) (hf : fs[i]? = some f) (hz : cShape P f.type = some z) (hx : cO x = some x') (he : evOp callf T (.field z f.offset x') H = some (r, H')) :
    H' = H ∧ Yld P ρ none a w ⟨dst, .field t x i, ty, pos, after, guard⟩ r := by
  simp only [evOp] at he
  split at he
  · rename_i xs hxs
    split at he
    · rename_i v hp
      simp only [Option.some.injEq, Prod.mk.injEq] at he
      obtain ⟨rfl, rfl⟩ := he
      obtain ⟨vs, hv, hvs⟩ := evV_rel hT hx hxs
      obtain ⟨q, h1, h2⟩ := run_partA (P := P) hz hvs hp
      refine ⟨rfl, Yld.plain (s := Instr.field t (a.eval x) i) (v := q) rfl h1 fun w' => ?_⟩
      rw [hv]
      simp [Instr.field, run_underlying hu, hf, asAgg, h2]
    · cases he
  · cases he

theorem y_index (hT : RT ρ T a.tmps) {t e : TypeId} {n sz : Nat} {x i : Operand} {x' i' : AOpnd} {z : Option Nat} (hu : P.underlying t = some (.array n e)) (hz : cShape P e = some z) (hs : cSize P e = some sz) (hx : cO x = some x') (hi : cO i = some i') (he : evOp callf T (.index z sz n x' i') H = some (r, H')) :
    H' = H ∧ Yld P ρ none a w ⟨dst, .index t x i, ty, pos, after, guard⟩ r := by
  simp only [evOp] at he
  split at he
  · rename_i xs k m hxs hm
    split at he
    · rename_i hb
      split at he
      · rename_i v hp
        simp only [Option.some.injEq, Prod.mk.injEq] at he
        obtain ⟨rfl, rfl⟩ := he
        obtain ⟨vs, hv, hvs⟩ := evV_rel hT hx hxs
        have hiv : a.eval i = .int k m := evC_rel hT hi hm
        obtain ⟨q, h1, h2⟩ := run_partA (P := P) hz hvs hp
        refine ⟨rfl, Yld.plain (s := Instr.index t (a.eval x) (a.eval i)) (v := q) rfl h1 fun w' => ?_⟩
        rw [hv, hiv]
        have h2' : ∀ w, (part e vs.toArray (m.toNat * sz)).run P w = .ok q w := h2
        simp [Instr.index, asIntOf, run_underlying hu, hb, run_size hs, h2']
      · cases he
    · cases he
  · cases he

theorem y_indexAddr_arr (hT : RT ρ T a.tmps) {t e : TypeId} {n z : Nat} {x i : Operand} {x' i' : AOpnd} (hu : P.underlying t = some (.array n e)) (hs : cSize P e = some z) (hx : cO x = some x') (hi : cO i = some i') (he : evOp callf T (.indexAddr z (some n) x' i') H = some (r, H')) :
    H' = H ∧ Yld P ρ none a w ⟨dst, .indexAddr t x i, ty, pos, after, guard⟩ r := by
  simp only [evOp] at he
  split at he
  · rename_i q k m hq hm
    cases q <;> simp only [] at he <;> first | (cases he; done) | skip
    rename_i b o
    split at he
    · rename_i hb
      simp only [Option.some.injEq, Prod.mk.injEq] at he
      obtain ⟨rfl, rfl⟩ := he
      obtain ⟨c, l, hc, hv⟩ := evC_rel hT hx hq
      have hiv : a.eval i = .int k m := evC_rel hT hi hm
      refine ⟨rfl, Yld.plain (s := Instr.indexAt t (a.eval x) (a.eval i)) (v := .pointer (some ⟨c, o + m.toNat * z, none⟩)) rfl ⟨c, l, hc, rfl⟩ fun w' => ?_⟩
      rw [hv, hiv]
      simp [Instr.indexAt, asIntOf, run_underlying hu, Instr.sureAddr, hb, run_size hs, Addr.add_mk]
    · cases he
  · cases he

theorem y_indexAddr_slice (hT : RT ρ T a.tmps) {t e : TypeId} {z : Nat} {x i : Operand} {x' i' : AOpnd} (hu : P.underlying t = some (.slice e)) (hs : cSize P e = some z) (hx : cO x = some x') (hi : cO i = some i') (he : evOp callf T (.indexAddr z none x' i') H = some (r, H')) :
    H' = H ∧ Yld P ρ none a w ⟨dst, .indexAddr t x i, ty, pos, after, guard⟩ r := by
  simp only [evOp] at he
  split at he
  · rename_i q k m hq hm
    have hiv : a.eval i = .int k m := evC_rel hT hi hm
    have run : ∀ (c o l cap : Nat) (w' : World), 0 ≤ m ∧ m < l → (Instr.indexAt t (.slice (some ⟨c, o, none⟩) l cap) (.int k m)).run P w' = .ok (.pointer (some ⟨c, o + m.toNat * z, none⟩)) w' := fun c o l cap w' hb => by
      simp [Instr.indexAt, asIntOf, run_underlying hu, hb, run_size hs, Addr.add_mk]
    cases q <;> simp only [] at he <;> first | (cases he; done) | skip
    · split at he
      · rename_i hb
        simp only [Option.some.injEq, Prod.mk.injEq] at he
        obtain ⟨rfl, rfl⟩ := he
        obtain ⟨c, l', k', hc, hv, _⟩ := evC_rel hT hx hq
        refine ⟨rfl, Yld.plain (s := Instr.indexAt t (a.eval x) (a.eval i)) (v := .pointer (some ⟨c, _, none⟩)) rfl ⟨c, l', hc, rfl⟩ fun w' => ?_⟩
        rw [hv, hiv]
        exact run _ _ _ _ _ hb
      · cases he
    · split at he
      · rename_i hb
        simp only [Option.some.injEq, Prod.mk.injEq] at he
        obtain ⟨rfl, rfl⟩ := he
        obtain ⟨c, l', k', hc, hv, _⟩ := evC_rel hT hx hq
        refine ⟨rfl, Yld.plain (s := Instr.indexAt t (a.eval x) (a.eval i)) (v := .pointer (some ⟨c, _, none⟩)) rfl ⟨c, l', hc, rfl⟩ fun w' => ?_⟩
        rw [hv, hiv]
        have := run c 0 _ k' w' hb
        simpa using this
      · cases he
  · cases he

theorem y_extract (hT : RT ρ T a.tmps) {x : Operand} {x' : AOpnd} {i : Nat} (hx : cO x = some x') (he : evOp callf T (.extract i x') H = some (r, H')) : H' = H ∧ Yld P ρ none a w ⟨dst, .extract x i, ty, pos, after, guard⟩ r := by
  simp only [evOp] at he
  split at he
  · rename_i xs hxs
    split at he
    · rename_i v hv
      simp only [Option.some.injEq, Prod.mk.injEq] at he
      obtain ⟨rfl, rfl⟩ := he
      obtain ⟨vs, e, hvs⟩ := ev_rel (a := a) hT hx hxs
      obtain ⟨q, h1, h2⟩ := All2.get hvs hv
      refine ⟨rfl, Yld.plain (s := Instr.extract (a.eval x) i) (v := q) rfl h2 fun w' => ?_⟩
      rw [e]
      simp [Instr.extract, h1]
    · cases he
  · cases he
end
end Go.Ev
