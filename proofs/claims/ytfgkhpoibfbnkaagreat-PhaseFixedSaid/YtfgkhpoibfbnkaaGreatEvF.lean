/-
  What an operation that only looks gives: the model's own word for it, where the evaluator's state stands to the model's. No conditions.
-/
import Derived.Test.YtfgkhpoibfbnkaaGreatEvE
namespace Go.Ev

section
variable {P : Program} {ρ : Rho} {T : Tr AT} {a : Act}

theorem cCell_rel {v : Value} {x : AC} (h : cCell v = some x) : RC ρ x v := by
  unfold cCell at h
  split at h <;> first | (cases h; done) | skip
  all_goals simp only [Option.some.injEq] at h; subst h
  all_goals simp only [RC, RF]
  · exact ⟨_, rfl, rfl⟩
  · exact ⟨_, _, rfl, rfl, rfl⟩

theorem cCells_rel : ∀ {vs : List Value} {xs : List AC}, cCells vs = some xs → RCs ρ xs vs
  | [], xs, h => by simp [cCells] at h; subst h; exact .nil
  | v :: r, xs, h => by
    simp only [cCells] at h
    split at h
    · cases h
    · rename_i x hx
      split at h
      · cases h
      · rename_i xs' hxs
        simp only [Option.some.injEq] at h
        subst h
        exact .cons (cCell_rel hx) (cCells_rel hxs)

theorem cVal_rel {v : Value} {x : AV} (h : cVal v = some x) : RV ρ x v := by
  unfold cVal at h
  split at h
  · split at h
    · rename_i cs _ xs hxs
      simp only [Option.some.injEq] at h
      subst h
      exact ⟨cs.toList, by simp, cCells_rel hxs⟩
    · cases h
  · split at h
    · rename_i x hx
      simp only [Option.some.injEq] at h
      subst h
      exact cCell_rel hx
    · cases h

theorem ev_rel (hT : RT ρ T a.tmps) {o : Operand} {x : AOpnd} (hx : cO o = some x) {r : AT} (he : x.ev T = some r) : R1 ρ r (a.eval o) := by
  unfold cO at hx
  split at hx
  · simp only [Option.some.injEq] at hx
    subst hx
    obtain ⟨v, hv, hr⟩ := hT _ _ he
    simp only [Act.eval, Array.getD_eq_getD_getElem?, hv, Option.getD_some]
    exact hr
  · split at hx
    · rename_i x hx'
      simp only [Option.some.injEq] at hx
      subst hx
      simp only [AOpnd.ev, Option.some.injEq] at he
      subst he
      exact cVal_rel hx'
    · cases hx
  · cases hx
  · simp only [Option.some.injEq] at hx
    subst hx
    simp only [AOpnd.ev, Option.some.injEq] at he
    subst he
    exact ⟨[], rfl, .nil⟩

theorem evV_ev {x : AOpnd} {r : AV} (h : x.evV T = some r) : x.ev T = some (.v r) := by
  unfold AOpnd.evV at h
  split at h
  · rename_i x hx; simp only [Option.some.injEq] at h; subst h; exact hx
  · cases h

theorem evC_ev {x : AOpnd} {r : AC} (h : x.evC T = some r) : x.ev T = some (.v (.c r)) := by
  unfold AOpnd.evC at h
  split at h
  · rename_i x hx; simp only [Option.some.injEq] at h; subst h; exact hx
  · cases h

theorem evV_rel (hT : RT ρ T a.tmps) {o : Operand} {x : AOpnd} (hx : cO o = some x) {r : AV} (he : x.evV T = some r) : RV ρ r (a.eval o) := ev_rel hT hx (evV_ev he)
theorem evC_rel (hT : RT ρ T a.tmps) {o : Operand} {x : AOpnd} (hx : cO o = some x) {r : AC} (he : x.evC T = some r) : RC ρ r (a.eval o) := ev_rel hT hx (evC_ev he)

theorem evVs_rel (hT : RT ρ T a.tmps) : ∀ {os : List Operand} {xs : List AOpnd}, cOs os = some xs → ∀ {rs : List AV}, evVs T xs = some rs → All2 (RV ρ) rs (os.map a.eval)
  | [], xs, h, rs, he => by simp [cOs] at h; subst h; simp [evVs] at he; subst he; exact .nil
  | o :: os, xs, h, rs, he => by
    simp only [cOs] at h
    split at h
    · cases h
    · rename_i x hx
      split at h
      · cases h
      · rename_i xs' hxs
        simp only [Option.some.injEq] at h
        subst h
        simp only [evVs] at he
        split at he
        · cases he
        · rename_i v hv
          split at he
          · cases he
          · rename_i vs hvs
            simp only [Option.some.injEq] at he
            subst he
            exact .cons (evV_rel hT hx hv) (evVs_rel hT hxs hvs)

theorem evCs_rel (hT : RT ρ T a.tmps) : ∀ {os : List Operand} {xs : List AOpnd}, cOs os = some xs → ∀ {rs : List (Nat × Nat)}, evCs T xs = some rs → All2 (RPtr ρ) rs (os.map a.eval)
  | [], xs, h, rs, he => by simp [cOs] at h; subst h; simp [evCs] at he; subst he; exact .nil
  | o :: os, xs, h, rs, he => by
    simp only [cOs] at h
    split at h
    · cases h
    · rename_i x hx
      split at h
      · cases h
      · rename_i xs' hxs
        simp only [Option.some.injEq] at h
        subst h
        simp only [evCs] at he
        split at he
        · rename_i b o' hv
          split at he
          · rename_i ps hps
            simp only [Option.some.injEq] at he
            subst he
            exact .cons (evC_rel hT hx hv) (evCs_rel hT hxs hps)
          · cases he
        · cases he

/- ### Types -/

theorem cSize_spec {t : TypeId} {z : Nat} (h : cSize P t = some z) : ∃ i, P.info? t = some i ∧ i.size = z := by
  unfold cSize at h
  split at h
  · rename_i i hi; simp only [Option.some.injEq] at h; exact ⟨i, hi, h⟩
  · cases h

theorem run_size {t : TypeId} {z : Nat} (h : cSize P t = some z) (w : World) : (sizeOf t).run P w = .ok z w := by
  obtain ⟨i, hi, rfl⟩ := cSize_spec h
  simp [sizeOf, typeInfo, hi]

theorem cZero_spec {t : TypeId} {z : Nat} {xs : List AC} (h : cZero P t = some (z, xs)) :
    ∃ i zv, P.info? t = some i ∧ i.size = z ∧ i.zero = some zv ∧ xs.length = z ∧ ∀ ρ, RCs ρ xs zv.cells.toList := by
  unfold cZero at h
  split at h
  · rename_i i hi
    split at h
    · rename_i zv hz
      split at h
      · rename_i xs' hxs
        split at h
        · rename_i hl
          simp only [Option.some.injEq, Prod.mk.injEq] at h
          obtain ⟨rfl, rfl⟩ := h
          exact ⟨i, zv, hi, rfl, hz, hl, fun ρ => cCells_rel hxs⟩
        · cases h
      · cases h
    · cases h
  · cases h

theorem run_zero {t : TypeId} {i : TypeInfo} {zv : Value} (hi : P.info? t = some i) (hz : i.zero = some zv) (w : World) : (zeroValue t).run P w = .ok zv w := by
  simp [zeroValue, typeInfo, hi, hz]

theorem cZeroV_spec {t : TypeId} {x : AV} (h : cZeroV P t = some x) : ∃ zv, (∀ w, (zeroValue t).run P w = .ok zv w) ∧ ∀ ρ, RV ρ x zv := by
  unfold cZeroV at h
  split at h
  · rename_i i hi
    split at h
    · rename_i zv hz
      exact ⟨zv, fun w => run_zero hi hz w, fun ρ => cVal_rel h⟩
    · cases h
  · cases h

theorem isAggT_spec {t : TypeId} {b : Bool} (h : isAggT P t = some b) (w : World) : (isAgg t).run P w = .ok b w := by
  unfold isAggT at h
  split at h
  · rename_i fs hu; simp only [Option.some.injEq] at h; subst h; simp [isAgg, run_underlying hu]
  · rename_i n e hu; simp only [Option.some.injEq] at h; subst h; simp [isAgg, run_underlying hu]
  · rename_i d _ _ hu
    simp only [Option.some.injEq] at h
    subst h
    simp only [isAgg, Sem.run_bind, run_underlying hu, Result.andThen_ok]
    rfl
  · cases h

theorem cShape_spec {t : TypeId} {z : Option Nat} (h : cShape P t = some z) : (z = none ∧ ∀ w, (isAgg t).run P w = .ok false w) ∨ ∃ n, z = some n ∧ (∀ w, (isAgg t).run P w = .ok true w) ∧ ∀ w, (sizeOf t).run P w = .ok n w := by
  unfold cShape at h
  split at h
  · cases h
  · rename_i hb; simp only [Option.some.injEq] at h; exact .inl ⟨h.symm, isAggT_spec hb⟩
  · rename_i hb
    split at h
    · rename_i n hn
      simp only [Option.some.injEq] at h
      exact .inr ⟨n, h.symm, isAggT_spec hb, run_size hn⟩
    · cases h

/-- A part of an aggregate. -/
theorem run_partA {t : TypeId} {z : Option Nat} (h : cShape P t = some z) {cs : List AC} {vs : List Value} (hcs : RCs ρ cs vs) {off : Nat} {x : AV} (hp : partA z cs off = some x) :
    ∃ v, RV ρ x v ∧ ∀ w, (part t vs.toArray off).run P w = .ok v w := by
  rcases cShape_spec h with ⟨rfl, hb⟩ | ⟨n, rfl, hb, hs⟩
  · simp only [partA] at hp
    split at hp
    · rename_i x' hx
      simp only [Option.some.injEq] at hp
      subst hp
      rw [at?_eq] at hx
      obtain ⟨v, hv, hr⟩ := All2.get hcs hx
      refine ⟨v, hr, fun w => ?_⟩
      simp [part, hb, hv]
    · cases hp
  · simp only [partA] at hp
    split at hp
    · rename_i xs hx
      simp only [Option.some.injEq] at hp
      subst hp
      obtain ⟨hl, rfl⟩ := cut_spec _ _ _ _ hx
      refine ⟨.agg ((vs.drop off).take n).toArray, ⟨_, rfl, (hcs.drop off).take n⟩, fun w => ?_⟩
      simp only [part, Sem.run_bind, hb, Result.andThen_ok, hs, if_true, Sem.run_pure]
      congr 2
      apply Array.ext'
      simp
    · cases hp

/- ### Whole numbers held against each other -/

def getI : List AC → Nat → Int
  | .int _ n :: _, 0 => n
  | _ :: r, i + 1 => getI r i
  | _, _ => 0

theorem sameInts_spec : ∀ {l m : List AC} {t : Bool}, sameInts l m = some t → l.length = m.length ∧
    (∀ i, i < l.length → ∃ k, l[i]? = some (.int k (getI l i)) ∧ m[i]? = some (.int k (getI m i))) ∧ t = (List.range l.length).all fun i => getI l i == getI m i
  | [], [], t, h => by simp [sameInts] at h; subst h; exact ⟨rfl, fun i hi => by simp at hi, rfl⟩
  | [], _ :: _, t, h => by simp [sameInts] at h
  | x :: r, y :: s, t, h => by
    cases x <;> cases y <;> simp only [sameInts] at h <;> first | (cases h; done) | skip
    rename_i k a k' b
    split at h
    · rename_i hk
      subst hk
      split at h
      · rename_i t' ht
        simp only [Option.some.injEq] at h
        subst h
        obtain ⟨h1, h2, h3⟩ := sameInts_spec ht
        refine ⟨by simp [h1], fun i hi => ?_, ?_⟩
        · cases i with
          | zero => exact ⟨k, rfl, rfl⟩
          | succ i =>
            obtain ⟨q, q1, q2⟩ := h2 i (by simpa using hi)
            exact ⟨q, by simpa [getI] using q1, by simpa [getI] using q2⟩
        · rw [h3, List.length_cons, List.range_succ_eq_map, List.all_cons, List.all_map]
          rfl
      · cases h
    · cases h
  | _ :: _, [], t, h => by rename_i x r; cases x <;> simp [sameInts] at h

theorem run_eqItems_ints {e : TypeId} {k' : IntKind} (hu : P.underlying e = some (.int k')) (d : Nat) {xs ys : List Value} {A B : Nat → Int} (w : World) :
    ∀ (is : List Nat), (∀ i ∈ is, ∃ k, xs[i]? = some (.int k (A i)) ∧ ys[i]? = some (.int k (B i))) →
      (Op.eqItems (d + 1) e 1 xs.toArray ys.toArray is).run P w = .ok (is.all fun i => A i == B i) w
  | [], _ => by simp [Op.eqItems]
  | i :: is, h => by
    obtain ⟨k, h1, h2⟩ := h i (by simp)
    have ih := run_eqItems_ints hu d (xs := xs) (ys := ys) w is (fun j hj => h j (by simp [hj]))
    have p1 : (part e xs.toArray i).run P w = .ok (.int k (A i)) w := by simp [part, isAgg, run_underlying hu, h1]
    have p2 : (part e ys.toArray i).run P w = .ok (.int k (B i)) w := by simp [part, isAgg, run_underlying hu, h2]
    simp only [Op.eqItems, Sem.run_bind, Nat.mul_one, p1, p2, Result.andThen_ok, run_equalIn_int w d e k k' _ _ hu, List.all_cons]
    cases hb : (A i == B i)
    · simp
    · simp [ih]

theorem cInts_spec {t : TypeId} {n : Nat} (h : cInts P t = some n) : ∃ e k i, P.underlying t = some (.array n e) ∧ P.underlying e = some (.int k) ∧ P.info? e = some i ∧ P.cellsOf e = 1 := by
  unfold cInts at h
  split at h
  · rename_i m e hu
    split at h
    · rename_i k hk
      split at h
      · rename_i hs
        simp only [Option.some.injEq] at h
        subst h
        obtain ⟨i, hi, hz⟩ := cSize_spec hs
        exact ⟨e, k, i, hu, hk, hi, by simp [Program.cellsOf, hi, hz]⟩
      · cases h
    · cases h
  · cases h

theorem run_equal_arr {t : TypeId} {n : Nat} (h : cInts P t = some n) (d : Nat) {xs ys : List AC} {vx vy : List Value} (hx : RCs ρ xs vx) (hy : RCs ρ ys vy) (hn : xs.length = n) {r : Bool} (hs : sameInts xs ys = some r) (w : World) :
    (Op.equalIn (d + 2) t (.agg vx.toArray) (.agg vy.toArray)).run P w = .ok r w := by
  obtain ⟨e, k, i, h1, h2, h3, h4⟩ := cInts_spec h
  obtain ⟨hl, hall, rfl⟩ := sameInts_spec hs
  rw [run_equalIn_array w (d + 1) vx.toArray vy.toArray h1 h3, h4, run_eqItems_ints h2 d (A := getI xs) (B := getI ys) w (List.range n) (fun j hj => ?_), hn]
  simp only [List.mem_range] at hj
  obtain ⟨q, q1, q2⟩ := hall j (by omega)
  obtain ⟨v1, e1, e2⟩ := All2.get hx q1
  obtain ⟨v2, e3, e4⟩ := All2.get hy q2
  simp only [RC] at e2 e4
  subst e2; subst e4
  exact ⟨q, e1, e3⟩

/- ### Operations that only look -/

/-- The block that a read looks at. -/
def rblk (T : Tr AT) (op : AOp) : Option Nat :=
  match op with
  | .load _ x =>
    match x.evC T with
    | some (.ptr b _) => some b
    | _ => none
  | .lookup _ _ m _ _ =>
    match m.evC T with
    | some (.map b) => some b
    | _ => none
  | _ => none

/-- The one block that is looked at is as it was. -/
def Looks (ρ : Rho) (blk : Option Nat) (w w' : World) : Prop := ∀ b c m, blk = some b → ρ b = some (c, m) → w'.heap[c]? = w.heap[c]?

theorem Looks.refl (ρ : Rho) (blk : Option Nat) (w : World) : Looks ρ blk w w := fun _ _ _ _ _ => rfl

/-- In each world where the one block is as it is here the operation yields something that stands to r. -/
def Yld (P : Program) (ρ : Rho) (blk : Option Nat) (a : Act) (w : World) (o : Oper) (r : AT) : Prop :=
  ∃ v, R1 ρ r v ∧ ∀ w', Looks ρ blk w w' → (execOp a.eval o).run P w' = .ok (.value v) w'

theorem Yld.of {blk : Option Nat} {w : World} {o : Oper} {r : AT} {s : Sem Value} {v : Value} (he : execOp a.eval o = (do pure (.value (← s)))) (hr : R1 ρ r v) (hs : ∀ w', Looks ρ blk w w' → s.run P w' = .ok v w') : Yld P ρ blk a w o r :=
  ⟨v, hr, fun w' hw => by rw [he]; simp [hs w' hw]⟩

variable {w : World} {H : AH} {dst : Option Tmp} {ty : TypeId} {pos : String} {after : Array Edge} {guard : Option (Nat × Bool)}

theorem y_load (hT : RT ρ T a.tmps) (hH : RH ρ H w) {t : TypeId} {x : Operand} {z : Option Nat} {y : AOpnd} (hz : cShape P t = some z) (hx : cO x = some y) {r : AT} {H' : AH}
    {callf : Nat → List AV → AH → Option (AT × AH)} (he : evOp callf T (.load z y) H = some (r, H')) :
    H' = H ∧ Yld P ρ (rblk T (.load z y)) a w ⟨dst, .load t x, ty, pos, after, guard⟩ r := by
  simp only [evOp] at he
  split at he
  · rename_i b o hb
    obtain ⟨c, m, hc, hv⟩ := evC_rel hT hx hb
    have hblk : rblk T (.load z y) = some b := by simp [rblk, hb]
    rcases cShape_spec hz with ⟨rfl, h1⟩ | ⟨n, rfl, h1, h2⟩
    · simp only [some1] at he
      split at he
      · rename_i x' hr
        simp only [Option.some.injEq, Prod.mk.injEq] at he
        obtain ⟨rfl, rfl⟩ := he
        obtain ⟨v, hrel, hrun⟩ := run_read1 (P := P) hH hr hc
        refine ⟨rfl, Yld.of (s := Instr.loadAt t (a.eval x)) (v := v) rfl hrel fun w' hw => ?_⟩
        rw [hv]
        simp only [Instr.loadAt, Instr.sureAddr, loadVar, Sem.run_bind, Sem.run_pure, Result.andThen_ok, h1, Bool.false_eq_true, if_false]
        exact hrun w' (hw b c m hblk hc)
      · cases he
    · simp only [] at he
      split at he
      · rename_i xs hr
        simp only [Option.some.injEq, Prod.mk.injEq] at he
        obtain ⟨rfl, rfl⟩ := he
        obtain ⟨vs, hrel, _, hrun⟩ := run_read (P := P) hH hr hc
        refine ⟨rfl, Yld.of (s := Instr.loadAt t (a.eval x)) (v := .agg vs.toArray) rfl ⟨vs, rfl, hrel⟩ fun w' hw => ?_⟩
        rw [hv]
        simp only [Instr.loadAt, Instr.sureAddr, loadVar, Sem.run_bind, Sem.run_pure, Result.andThen_ok, h1, if_true, h2, hrun w' (hw b c m hblk hc)]
      · cases he
  · cases he

theorem y_pick (hT : RT ρ T a.tmps) {c x y : Operand} {c' x' y' : AOpnd} (hc : cO c = some c') (hx : cO x = some x') (hy : cO y = some y') {r : AT} {H' : AH}
    {callf : Nat → List AV → AH → Option (AT × AH)} (he : evOp callf T (.pick c' x' y') H = some (r, H')) : H' = H ∧ Yld P ρ none a w ⟨dst, .pick c x y, ty, pos, after, guard⟩ r := by
  simp only [evOp] at he
  split at he
  · rename_i hb
    have hbv : a.eval c = .bool true := evC_rel hT hc hb
    cases hr : x'.ev T with
    | none => simp [keepH, hr] at he
    | some q =>
      simp only [keepH, hr, Option.some.injEq, Prod.mk.injEq] at he
      obtain ⟨rfl, rfl⟩ := he
      refine ⟨rfl, a.eval x, ev_rel hT hx hr, fun w' _ => ?_⟩
      simp [execOp, hbv, asBool]
  · rename_i hb
    have hbv : a.eval c = .bool false := evC_rel hT hc hb
    cases hr : y'.ev T with
    | none => simp [keepH, hr] at he
    | some q =>
      simp only [keepH, hr, Option.some.injEq, Prod.mk.injEq] at he
      obtain ⟨rfl, rfl⟩ := he
      refine ⟨rfl, a.eval y, ev_rel hT hy hr, fun w' _ => ?_⟩
      simp [execOp, hbv, asBool]
  · cases he

theorem y_mov (hT : RT ρ T a.tmps) {x : Operand} {x' : AOpnd} (hx : cO x = some x') {r : AT} {H' : AH}
    {callf : Nat → List AV → AH → Option (AT × AH)} (he : evOp callf T (.mov x') H = some (r, H')) : H' = H ∧ R1 ρ r (a.eval x) := by
  simp only [evOp] at he
  cases hr : x'.ev T with
  | none => simp [keepH, hr] at he
  | some q =>
    simp only [keepH, hr, Option.some.injEq, Prod.mk.injEq] at he
    obtain ⟨rfl, rfl⟩ := he
    exact ⟨rfl, ev_rel hT hx hr⟩

/-- Filling an aggregate's cells. -/
theorem fill_rel (hT : RT ρ T a.tmps) {place : Nat → Option (Nat × Nat)} : ∀ {ps : List (Nat × Operand)} {qs : List (Nat × Nat × AOpnd)} {cs cs' : List AC} {vs : List Value}, cPlaces place ps = some qs → RCs ρ cs vs → fillA T cs qs = some cs' →
    ∃ vs' : List Value, RCs ρ cs' vs' ∧ Instr.fill place vs.toArray (ps.map fun (i, x) => (i, a.eval x)) = some vs'.toArray
  | [], qs, cs, cs', vs, hp, hcs, hf => by
    simp [cPlaces] at hp
    subst hp
    simp [fillA] at hf
    subst hf
    exact ⟨vs, hcs, rfl⟩
  | (i, x) :: ps, qs, cs, cs', vs, hp, hcs, hf => by
    simp only [cPlaces] at hp
    split at hp
    · rename_i off z y qs' hpl hy hqs
      simp only [Option.some.injEq] at hp
      subst hp
      simp only [fillA] at hf
      split at hf
      · cases hf
      · rename_i v hv
        cases hz : Nat.beq v.cells.length z
        · rw [hz] at hf; cases hf
        · rw [hz, cond_true] at hf
          split at hf
          · rename_i cs1 hl
            obtain ⟨hle, rfl⟩ := lay_spec _ _ _ _ hl
            have hzz := Nat.eq_of_beq_eq_true hz
            have hrv := evV_rel (a := a) hT hy hv
            have hcells := hrv.cells
            have hlen : (a.eval x).cells.size = z := by
              have := hcells.length
              simp only [Array.length_toList] at this
              omega
            have hvl := hcs.length
            have hnew : RCs ρ (cs.take off ++ v.cells ++ cs.drop (off + v.cells.length)) (vs.take off ++ (a.eval x).cells.toList ++ vs.drop (off + z)) := by
              rw [hzz]
              exact ((hcs.take off).append hcells).append (hcs.drop _)
            obtain ⟨vs', h1, h2⟩ := fill_rel hT hqs hnew hf
            refine ⟨vs', h1, ?_⟩
            simp only [List.map_cons, Instr.fill, hpl]
            have hcond : ¬ ((a.eval x).cells.size ≠ z ∨ off + (a.eval x).cells.size > vs.toArray.size) := by
              simp only [List.size_toArray, hlen]
              omega
            simp only [Bool.or_eq_true, decide_eq_true_eq, hcond, if_false]
            rw [← h2]
            congr 1
            -- the cells laid one by one are the splice
            have key : ∀ (ws : List Value) (j : Nat) (base : List Value), off + j + ws.length ≤ base.length →
                (ws.zipIdx j).foldl (fun (cs : Array Value) (p : Value × Nat) => cs.setIfInBounds (off + p.2) p.1) base.toArray = (base.take (off + j) ++ ws ++ base.drop (off + j + ws.length)).toArray := by
              intro ws
              induction ws with
              | nil => intro j base _; simp
              | cons u ws ih =>
                intro j base hb
                simp only [List.zipIdx_cons, List.foldl_cons, List.setIfInBounds_toArray]
                rw [ih (j + 1) (base.set (off + j) u) (by simp at hb ⊢; omega)]
                congr 1
                have hlt : off + j < base.length := by simp at hb; omega
                rw [List.set_eq_take_append_cons_drop, if_pos hlt]
                simp only [List.length_cons]
                have e1 : (base.take (off + j) ++ u :: base.drop (off + j + 1)).take (off + (j + 1)) = base.take (off + j) ++ [u] := by
                  rw [List.take_append]
                  have : (base.take (off + j)).length = off + j := by simp; omega
                  rw [this, List.take_of_length_le (by omega)]
                  rw [show off + (j + 1) - (off + j) = 1 from by omega]
                  rfl
                have e2 : (base.take (off + j) ++ u :: base.drop (off + j + 1)).drop (off + (j + 1) + ws.length) = base.drop (off + j + (ws.length + 1)) := by
                  rw [List.drop_append]
                  have : (base.take (off + j)).length = off + j := by simp; omega
                  rw [this, List.drop_eq_nil_of_le (by omega)]
                  rw [show off + (j + 1) + ws.length - (off + j) = ws.length + 1 from by omega]
                  simp only [List.drop_succ_cons, List.nil_append, List.drop_drop]
                  congr 1
                  omega
                rw [e1, e2]
                simp
            have hk := key (a.eval x).cells.toList 0 vs (by simp only [Array.length_toList, hlen]; omega)
            simp only [Nat.add_zero, Array.length_toList, hlen] at hk
            rw [← hk, ← Array.foldl_toList]
            simp [Array.toList_zipIdx]
          · cases hf
    · cases hp
end
end Go.Ev
