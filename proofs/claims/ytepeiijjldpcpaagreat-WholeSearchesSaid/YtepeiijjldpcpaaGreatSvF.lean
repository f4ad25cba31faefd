/- Operations that only look. No conditions.
-/
import Derived.Test.YtepeiijjldpcpaaGreatSvC
import Derived.Test.YtepeiijjldpcpaaGreatSvFa
import Derived.Laws.Externs
import Derived.KernelRfl
set_option linter.all false
namespace Go.Sv
variable [gi : GoodC]

section
variable {P : Program} {ρ : Rho} {T : Tr AT} {a : Act}

theorem cCell_rel {v : Value} {x : AC} (h : cCell v = some x) : RC ρ x v := by
  unfold cCell at h
  split at h <;> first | (cases h; done) | skip
  all_goals simp only [Option.some.injEq] at h; subst h
  all_goals simp only [RC, RF]
  · exact ⟨_, rfl, rfl⟩
  · exact ⟨_, _, rfl, rfl, rfl⟩

theorem cCells_rel : ∀ {vs : List Value} {xs : List AC}, cCells vs = some xs → RCs ρ xs vs
  | [], xs, h => by simp [cCells] at h; subst h; exact .nil
  | v :: r, xs, h => by
    simp only [cCells] at h
    split at h
    · cases h
    · rename_i x hx
      split at h
      · cases h
      · rename_i xs' hxs
        simp only [Option.some.injEq] at h
        subst h
        exact .cons (cCell_rel hx) (cCells_rel hxs)

theorem cVal_rel {v : Value} {x : AV} (h : cVal v = some x) : RV ρ x v := by
  unfold cVal at h
  split at h
  · split at h
    · rename_i cs _ xs hxs
      simp only [Option.some.injEq] at h
      subst h
      exact ⟨cs.toList, by simp, cCells_rel hxs⟩
    · cases h
  · split at h
    · rename_i x hx
      simp only [Option.some.injEq] at h
      subst h
      exact cCell_rel hx
    · cases h

theorem ev_rel (hT : RT ρ T a.tmps) {o : Operand} {x : AOpnd} (hx : cO o = some x) {r : AT} (he : x.ev T = some r) : R1 ρ r (a.eval o) := by
  unfold cO at hx
  split at hx
  · simp only [Option.some.injEq] at hx
    subst hx
    obtain ⟨v, hv, hr⟩ := hT _ _ he
    simp only [Act.eval, Array.getD_eq_getD_getElem?, hv, Option.getD_some]
    exact hr
  · split at hx
    · rename_i x hx'
      simp only [Option.some.injEq] at hx
      subst hx
      simp only [AOpnd.ev, Option.some.injEq] at he
      subst he
      exact cVal_rel hx'
    · cases hx
  · cases hx
  · simp only [Option.some.injEq] at hx
    subst hx
    simp only [AOpnd.ev, Option.some.injEq] at he
    subst he
    exact ⟨[], rfl, .nil⟩

theorem evV_ev {x : AOpnd} {r : AV} (h : x.evV T = some r) : x.ev T = some (.v r) := by
  unfold AOpnd.evV at h
  split at h
  · rename_i x hx; simp only [Option.some.injEq] at h; subst h; exact hx
  · cases h

theorem evC_ev {x : AOpnd} {r : AC} (h : x.evC T = some r) : x.ev T = some (.v (.c r)) := by
  unfold AOpnd.evC at h
  split at h
  · rename_i x hx; simp only [Option.some.injEq] at h; subst h; exact hx
  · cases h

theorem evV_rel (hT : RT ρ T a.tmps) {o : Operand} {x : AOpnd} (hx : cO o = some x) {r : AV} (he : x.evV T = some r) : RV ρ r (a.eval o) := ev_rel hT hx (evV_ev he)
theorem evC_rel (hT : RT ρ T a.tmps) {o : Operand} {x : AOpnd} (hx : cO o = some x) {r : AC} (he : x.evC T = some r) : RC ρ r (a.eval o) := ev_rel hT hx (evC_ev he)

theorem evVs_rel (hT : RT ρ T a.tmps) : ∀ {os : List Operand} {xs : List AOpnd}, cOs os = some xs → ∀ {rs : List AV}, evVs T xs = some rs → All2 (RV ρ) rs (os.map a.eval)
  | [], xs, h, rs, he => by simp [cOs] at h; subst h; simp [evVs] at he; subst he; exact .nil
  | o :: os, xs, h, rs, he => by
    simp only [cOs] at h
    split at h
    · cases h
    · rename_i x hx
      split at h
      · cases h
      · rename_i xs' hxs
        simp only [Option.some.injEq] at h
        subst h
        simp only [evVs] at he
        split at he
        · cases he
        · rename_i v hv
          split at he
          · cases he
          · rename_i vs hvs
            simp only [Option.some.injEq] at he
            subst he
            exact .cons (evV_rel hT hx hv) (evVs_rel hT hxs hvs)

theorem evCs_rel (hT : RT ρ T a.tmps) : ∀ {os : List Operand} {xs : List AOpnd}, cOs os = some xs → ∀ {rs : List (Nat × Nat)}, evCs T xs = some rs → All2 (RPtr ρ) rs (os.map a.eval)
  | [], xs, h, rs, he => by simp [cOs] at h; subst h; simp [evCs] at he; subst he; exact .nil
  | o :: os, xs, h, rs, he => by
    simp only [cOs] at h
    split at h
    · cases h
    · rename_i x hx
      split at h
      · cases h
      · rename_i xs' hxs
        simp only [Option.some.injEq] at h
        subst h
        simp only [evCs] at he
        split at he
        · rename_i b o' hv
          split at he
          · rename_i ps hps
            simp only [Option.some.injEq] at he
            subst he
            exact .cons (evC_rel hT hx hv) (evCs_rel hT hxs hps)
          · cases he
        · cases he

/- ### Types -/

theorem cSize_spec {t : TypeId} {z : Nat} (h : cSize P t = some z) : ∃ i, P.info? t = some i ∧ i.size = z := by
  unfold cSize at h
  split at h
  · rename_i i hi; simp only [Option.some.injEq] at h; exact ⟨i, hi, h⟩
  · cases h

theorem run_size {t : TypeId} {z : Nat} (h : cSize P t = some z) (w : World) : (sizeOf t).run P w = .ok z w := by
  obtain ⟨i, hi, rfl⟩ := cSize_spec h
  simp [sizeOf, typeInfo, hi]

theorem cZero_spec {t : TypeId} {z : Nat} {xs : List AC} (h : cZero P t = some (z, xs)) :
    ∃ i zv, P.info? t = some i ∧ i.size = z ∧ i.zero = some zv ∧ xs.length = z ∧ ∀ ρ, RCs ρ xs zv.cells.toList := by
  unfold cZero at h
  split at h
  · rename_i i hi
    split at h
    · rename_i zv hz
      split at h
      · rename_i xs' hxs
        split at h
        · rename_i hl
          simp only [Option.some.injEq, Prod.mk.injEq] at h
          obtain ⟨rfl, rfl⟩ := h
          exact ⟨i, zv, hi, rfl, hz, hl, fun ρ => cCells_rel hxs⟩
        · cases h
      · cases h
    · cases h
  · cases h

theorem run_zero {t : TypeId} {i : TypeInfo} {zv : Value} (hi : P.info? t = some i) (hz : i.zero = some zv) (w : World) : (zeroValue t).run P w = .ok zv w := by
  simp [zeroValue, typeInfo, hi, hz]

theorem cZeroV_spec {t : TypeId} {x : AV} (h : cZeroV P t = some x) : ∃ zv, (∀ w, (zeroValue t).run P w = .ok zv w) ∧ ∀ ρ, RV ρ x zv := by
  unfold cZeroV at h
  split at h
  · rename_i i hi
    split at h
    · rename_i zv hz
      exact ⟨zv, fun w => run_zero hi hz w, fun ρ => cVal_rel h⟩
    · cases h
  · cases h

theorem isAggT_spec {t : TypeId} {b : Bool} (h : isAggT P t = some b) (w : World) : (isAgg t).run P w = .ok b w := by
  unfold isAggT at h
  split at h
  · rename_i fs hu; simp only [Option.some.injEq] at h; subst h; simp [isAgg, run_underlying hu]
  · rename_i n e hu; simp only [Option.some.injEq] at h; subst h; simp [isAgg, run_underlying hu]
  · rename_i d _ _ hu
    simp only [Option.some.injEq] at h
    subst h
    simp only [isAgg, Sem.run_bind, run_underlying hu, Result.andThen_ok]
    rfl
  · cases h

theorem cShape_spec {t : TypeId} {z : Option Nat} (h : cShape P t = some z) : (z = none ∧ ∀ w, (isAgg t).run P w = .ok false w) ∨ ∃ n, z = some n ∧ (∀ w, (isAgg t).run P w = .ok true w) ∧ ∀ w, (sizeOf t).run P w = .ok n w := by
  unfold cShape at h
  split at h
  · cases h
  · rename_i hb; simp only [Option.some.injEq] at h; exact .inl ⟨h.symm, isAggT_spec hb⟩
  · rename_i hb
    split at h
    · rename_i n hn
      simp only [Option.some.injEq] at h
      exact .inr ⟨n, h.symm, isAggT_spec hb, run_size hn⟩
    · cases h

/-- A part of an aggregate. -/
theorem run_partA {t : TypeId} {z : Option Nat} (h : cShape P t = some z) {cs : List AC} {vs : List Value} (hcs : RCs ρ cs vs) {off : Nat} {x : AV} (hp : partA z cs off = some x) :
    ∃ v, RV ρ x v ∧ ∀ w, (part t vs.toArray off).run P w = .ok v w := by
  rcases cShape_spec h with ⟨rfl, hb⟩ | ⟨n, rfl, hb, hs⟩
  · simp only [partA] at hp
    split at hp
    · rename_i x' hx
      simp only [Option.some.injEq] at hp
      subst hp
      rw [at?_eq] at hx
      obtain ⟨v, hv, hr⟩ := All2.get hcs hx
      refine ⟨v, hr, fun w => ?_⟩
      simp [part, hb, hv]
    · cases hp
  · simp only [partA] at hp
    split at hp
    · rename_i xs hx
      simp only [Option.some.injEq] at hp
      subst hp
      obtain ⟨hl, rfl⟩ := cut_spec _ _ _ _ hx
      refine ⟨.agg ((vs.drop off).take n).toArray, ⟨_, rfl, (hcs.drop off).take n⟩, fun w => ?_⟩
      simp only [part, Sem.run_bind, hb, Result.andThen_ok, hs, if_true, Sem.run_pure]
      congr 2
      apply Array.ext'
      simp
    · cases hp

/- ### Whole numbers held against each other -/

def getI : List AC → Nat → Int
  | .int _ n :: _, 0 => n
  | _ :: r, i + 1 => getI r i
  | _, _ => 0

theorem sameInts_spec : ∀ {l m : List AC} {t : Bool}, sameInts l m = some t → l.length = m.length ∧
    (∀ i, i < l.length → ∃ k, l[i]? = some (.int k (getI l i)) ∧ m[i]? = some (.int k (getI m i))) ∧ t = (List.range l.length).all fun i => getI l i == getI m i
  | [], [], t, h => by simp [sameInts] at h; subst h; exact ⟨rfl, fun i hi => by simp at hi, rfl⟩
  | [], _ :: _, t, h => by simp [sameInts] at h
  | x :: r, y :: s, t, h => by
    cases x <;> cases y <;> simp only [sameInts] at h <;> first | (cases h; done) | skip
    rename_i k a k' b
    split at h
    · rename_i hk
      subst hk
      split at h
      · rename_i t' ht
        simp only [Option.some.injEq] at h
        subst h
        obtain ⟨h1, h2, h3⟩ := sameInts_spec ht
        refine ⟨by simp [h1], fun i hi => ?_, ?_⟩
        · cases i with
          | zero => exact ⟨k, rfl, rfl⟩
          | succ i =>
            obtain ⟨q, q1, q2⟩ := h2 i (by simpa using hi)
            exact ⟨q, by simpa [getI] using q1, by simpa [getI] using q2⟩
        · rw [h3, List.length_cons, List.range_succ_eq_map, List.all_cons, List.all_map]
          rfl
      · cases h
    · cases h
  | _ :: _, [], t, h => by rename_i x r; cases x <;> simp [sameInts] at h

theorem run_eqItems_ints {e : TypeId} {k' : IntKind} (hu : P.underlying e = some (.int k')) (d : Nat) {xs ys : List Value} {A B : Nat → Int} (w : World) :
    ∀ (is : List Nat), (∀ i ∈ is, ∃ k, xs[i]? = some (.int k (A i)) ∧ ys[i]? = some (.int k (B i))) →
      (Op.eqItems (d + 1) e 1 xs.toArray ys.toArray is).run P w = .ok (is.all fun i => A i == B i) w
  | [], _ => by simp [Op.eqItems]
  | i :: is, h => by
    obtain ⟨k, h1, h2⟩ := h i (by simp)
    have ih := run_eqItems_ints hu d (xs := xs) (ys := ys) w is (fun j hj => h j (by simp [hj]))
    have p1 : (part e xs.toArray i).run P w = .ok (.int k (A i)) w := by simp [part, isAgg, run_underlying hu, h1]
    have p2 : (part e ys.toArray i).run P w = .ok (.int k (B i)) w := by simp [part, isAgg, run_underlying hu, h2]
    simp only [Op.eqItems, Sem.run_bind, Nat.mul_one, p1, p2, Result.andThen_ok, run_equalIn_int w d e k k' _ _ hu, List.all_cons]
    cases hb : (A i == B i)
    · simp
    · simp [ih]

theorem cInts_spec {t : TypeId} {n : Nat} (h : cInts P t = some n) : ∃ e k i, P.underlying t = some (.array n e) ∧ P.underlying e = some (.int k) ∧ P.info? e = some i ∧ P.cellsOf e = 1 := by
  unfold cInts at h
  split at h
  · rename_i m e hu
    split at h
    · rename_i k hk
      split at h
      · rename_i hs
        simp only [Option.some.injEq] at h
        subst h
        obtain ⟨i, hi, hz⟩ := cSize_spec hs
        exact ⟨e, k, i, hu, hk, hi, by simp [Program.cellsOf, hi, hz]⟩
      · cases h
    · cases h
  · cases h

theorem run_equal_arr {t : TypeId} {n : Nat} (h : cInts P t = some n) (d : Nat) {xs ys : List AC} {vx vy : List Value} (hx : RCs ρ xs vx) (hy : RCs ρ ys vy) (hn : xs.length = n) {r : Bool} (hs : sameInts xs ys = some r) (w : World) :
    (Op.equalIn (d + 2) t (.agg vx.toArray) (.agg vy.toArray)).run P w = .ok r w := by
  obtain ⟨e, k, i, h1, h2, h3, h4⟩ := cInts_spec h
  obtain ⟨hl, hall, rfl⟩ := sameInts_spec hs
  rw [run_equalIn_array w (d + 1) vx.toArray vy.toArray h1 h3, h4, run_eqItems_ints h2 d (A := getI xs) (B := getI ys) w (List.range n) (fun j hj => ?_), hn]
  simp only [List.mem_range] at hj
  obtain ⟨q, q1, q2⟩ := hall j (by omega)
  obtain ⟨v1, e1, e2⟩ := All2.get hx q1
  obtain ⟨v2, e3, e4⟩ := All2.get hy q2
  simp only [RC] at e2 e4
  subst e2; subst e4
  exact ⟨q, e1, e3⟩

/- ### Operations that only look -/

/-- The block that a read looks at. -/
def rblk (T : Tr AT) (op : AOp) : Option Nat :=
  match op with
  | .load _ x =>
    match x.evC T with
    | some (.ptr b _) => some b
    | some (.fp b _ _ _) => some b
    | _ => none
  | .lookup _ _ m _ _ =>
    match m.evC T with
    | some (.map b) => some b
    | _ => none
  | _ => none

/-- The one block that is looked at is as it was. -/
def Looks (ρ : Rho) (blk : Option Nat) (w w' : World) : Prop := ∀ b c m, blk = some b → ρ b = some (c, m) → w'.heap[c]? = w.heap[c]?

theorem Looks.refl (ρ : Rho) (blk : Option Nat) (w : World) : Looks ρ blk w w := fun _ _ _ _ _ => rfl

/-- In each world where the one block is as it is here the operation yields something that stands to r. -/
def Yld (P : Program) (ρ : Rho) (blk : Option Nat) (a : Act) (w : World) (o : Oper) (r : AT) : Prop :=
  ∃ v, R1 ρ r v ∧ ∀ w', Looks ρ blk w w' → (execOp a.eval o).run P w' = .ok (.value v) w'

theorem Yld.of {blk : Option Nat} {w : World} {o : Oper} {r : AT} {s : Sem Value} {v : Value} (he : execOp a.eval o = (do pure (.value (← s)))) (hr : R1 ρ r v) (hs : ∀ w', Looks ρ blk w w' → s.run P w' = .ok v w') : Yld P ρ blk a w o r :=
  ⟨v, hr, fun w' hw => by rw [he]; simp [hs w' hw]⟩

variable {w : World} {H : AH} {dst : Option Tmp} {ty : TypeId} {pos : String} {after : Array Edge} {guard : Option (Nat × Bool)}

theorem y_load (hT : RT ρ T a.tmps) (hH : RH ρ H w) {t : TypeId} {x : Operand} {z : Option Nat} {y : AOpnd} (hz : cShape P t = some z) (hx : cO x = some y) {r : AT} {H' : AH}
    {callf : Nat → List AV → AH → Option (AT × AH)} (he : evOp callf T (.load z y) H = some (r, H')) :
    H' = H ∧ Yld P ρ (rblk T (.load z y)) a w ⟨dst, .load t x, ty, pos, after, guard⟩ r := by
  simp only [evOp] at he
  split at he
  · rename_i b o hb
    obtain ⟨c, m, hc, hv⟩ := evC_rel hT hx hb
    have hblk : rblk T (.load z y) = some b := by simp [rblk, hb]
    rcases cShape_spec hz with ⟨rfl, h1⟩ | ⟨n, rfl, h1, h2⟩
    · simp only [some1] at he
      split at he
      · rename_i x' hr
        simp only [Option.some.injEq, Prod.mk.injEq] at he
        obtain ⟨rfl, rfl⟩ := he
        obtain ⟨v, hrel, hrun⟩ := run_read1 (P := P) hH hr hc
        refine ⟨rfl, Yld.of (s := Instr.loadAt t (a.eval x)) (v := v) rfl hrel fun w' hw => ?_⟩
        rw [hv]
        simp only [Instr.loadAt, Instr.sureAddr, loadVar, Sem.run_bind, Sem.run_pure, Result.andThen_ok, h1, Bool.false_eq_true, if_false]
        exact hrun w' (hw b c m hblk hc)
      · cases he
    · simp only [] at he
      split at he
      · rename_i xs hr
        simp only [Option.some.injEq, Prod.mk.injEq] at he
        obtain ⟨rfl, rfl⟩ := he
        obtain ⟨vs, hrel, _, hrun⟩ := run_read (P := P) hH hr hc
        refine ⟨rfl, Yld.of (s := Instr.loadAt t (a.eval x)) (v := .agg vs.toArray) rfl ⟨vs, rfl, hrel⟩ fun w' hw => ?_⟩
        rw [hv]
        simp only [Instr.loadAt, Instr.sureAddr, loadVar, Sem.run_bind, Sem.run_pure, Result.andThen_ok, h1, if_true, h2, hrun w' (hw b c m hblk hc)]
      · cases he
  · rename_i b j i x' hb
    obtain ⟨c, m, hc, hv, hlen, hxe⟩ := evC_rel (a := a) hT hx hb
    have hblk : rblk T (.load z y) = some b := by simp [rblk, hb]
    split at he
    · rename_i j' hraw
      cases hj : Nat.beq j j' && Nat.ble i 47
      · rw [hj] at he; cases he
      · rw [hj, cond_true] at he
        simp only [Bool.and_eq_true] at hj
        have hjj := Nat.eq_of_beq_eq_true hj.1
        have hi48 : i < 48 := Nat.lt_succ_of_le (Nat.le_of_ble_eq_true hj.2)
        subst hjj
        simp only [Option.some.injEq, Prod.mk.injEq] at he
        obtain ⟨rfl, rfl⟩ := he
        obtain ⟨c', m', obj, g1, g2, g3⟩ := hH.blk b _ hraw
        rw [hc] at g1
        obtain ⟨rfl, rfl⟩ : c = c' ∧ m = m' := by simpa using g1
        have g3' : obj = ρ.X.fo j := g3
        obtain ⟨arr, ty0, fz, k1, k2⟩ := ρ.X.fok j hlen
        obtain ⟨k3, k4, k5⟩ := k2 i hi48
        rw [g3', k1] at g2
        have htag : TgOK ρ.X x' (bif Nat.ble (Nat.add i 3) j then .el0 else .el) := by
          rw [hxe]
          cases hb2 : Nat.ble (Nat.add i 3) j
          · exact k4
          · exact ⟨k4, k5 (Nat.le_of_ble_eq_true hb2)⟩
        rcases cShape_spec hz with ⟨_, h1⟩ | ⟨n, hn, _⟩
        · refine ⟨rfl, Yld.of (s := Instr.loadAt t (a.eval x)) (v := .int .i16 (ρ.X.fe j i)) rfl ⟨by rw [hxe], htag⟩ fun w' hw => ?_⟩
          rw [hv]
          simp only [Instr.loadAt, Instr.sureAddr, loadVar, Sem.run_bind, Sem.run_pure, Result.andThen_ok, h1, Bool.false_eq_true, if_false]
          have hcell : w'.cell? ⟨c, (ρ.X.fs j).1 + i % (ρ.X.fs j).2.1, none⟩ = some (.int .i16 (ρ.X.fe j i)) := by
            simp only [World.cell?, hw b c m hblk hc, g2, Option.isSome_none, Bool.false_eq_true, if_false]
            exact k3
          simp [hcell]
        · cases hn
    · cases he
  · cases he

/-- The one or the other. -/
theorem joinT_rel {q : Bool} {x y : Option AT} {z : AT} (h : joinT q x y = some z) : ∃ x' y', x = some x' ∧ y = some y' ∧ ∀ {u v : Value}, R1 ρ x' u → R1 ρ y' v → R1 ρ z (if q then u else v) := by
  unfold joinT at h
  split at h
  · rename_i a b
    split at h
    · rename_i w hw
      simp only [Option.some.injEq] at h
      subst h
      refine ⟨_, _, rfl, rfl, fun {u v} hu hv => ?_⟩
      obtain ⟨n, h1, rfl⟩ := hu
      obtain ⟨m, h2, rfl⟩ := hv
      exact ⟨if q then n else m, joinF_ok h1 h2 hw, by cases q <;> rfl⟩
    · cases h
  · rename_i a b c d
    split at h
    · rename_i w1 w2 hw1 hw2
      simp only [Option.some.injEq] at h
      subst h
      refine ⟨_, _, rfl, rfl, fun {u v} hu hv => ?_⟩
      obtain ⟨n, n', h1, h1', rfl⟩ := hu
      obtain ⟨m, m', h2, h2', rfl⟩ := hv
      exact ⟨if q then n else m, if q then n' else m', joinF_ok h1 h2 hw1, joinF_ok h1' h2' hw2, by cases q <;> rfl⟩
    · cases h
  · cases h

theorem y_pick (hT : RT ρ T a.tmps) {c x y : Operand} {c' x' y' : AOpnd} (hc : cO c = some c') (hx : cO x = some x') (hy : cO y = some y') {r : AT} {H' : AH}
    {callf : Nat → List AV → AH → Option (AT × AH)} (he : evOp callf T (.pick c' x' y') H = some (r, H')) : H' = H ∧ Yld P ρ none a w ⟨dst, .pick c x y, ty, pos, after, guard⟩ r := by
  simp only [evOp] at he
  split at he
  · rename_i hb
    have hbv : a.eval c = .bool true := evC_rel hT hc hb
    cases hr : x'.ev T with
    | none => simp [keepH, hr] at he
    | some q =>
      simp only [keepH, hr, Option.some.injEq, Prod.mk.injEq] at he
      obtain ⟨rfl, rfl⟩ := he
      refine ⟨rfl, a.eval x, ev_rel hT hx hr, fun w' _ => ?_⟩
      simp [execOp, hbv, asBool]
  · rename_i hb
    have hbv : a.eval c = .bool false := evC_rel hT hc hb
    cases hr : y'.ev T with
    | none => simp [keepH, hr] at he
    | some q =>
      simp only [keepH, hr, Option.some.injEq, Prod.mk.injEq] at he
      obtain ⟨rfl, rfl⟩ := he
      refine ⟨rfl, a.eval y, ev_rel hT hy hr, fun w' _ => ?_⟩
      simp [execOp, hbv, asBool]
  · rename_i q hb
    have hbv : a.eval c = .bool q := evC_rel hT hc hb
    cases hj : joinT q (x'.ev T) (y'.ev T) with
    | none => simp [keepH, hj] at he
    | some z =>
      simp only [keepH, hj, Option.some.injEq, Prod.mk.injEq] at he
      obtain ⟨rfl, rfl⟩ := he
      obtain ⟨u, v, h1, h2, h3⟩ := joinT_rel (ρ := ρ) hj
      refine ⟨rfl, _, h3 (ev_rel hT hx h1) (ev_rel hT hy h2), fun w' _ => ?_⟩
      cases q <;> simp [execOp, hbv, asBool]
  · cases he

theorem y_mov (hT : RT ρ T a.tmps) {x : Operand} {x' : AOpnd} (hx : cO x = some x') {r : AT} {H' : AH}
    {callf : Nat → List AV → AH → Option (AT × AH)} (he : evOp callf T (.mov x') H = some (r, H')) : H' = H ∧ R1 ρ r (a.eval x) := by
  simp only [evOp] at he
  cases hr : x'.ev T with
  | none => simp [keepH, hr] at he
  | some q =>
    simp only [keepH, hr, Option.some.injEq, Prod.mk.injEq] at he
    obtain ⟨rfl, rfl⟩ := he
    exact ⟨rfl, ev_rel hT hx hr⟩

/-- Filling an aggregate's cells. -/
theorem fill_rel (hT : RT ρ T a.tmps) {place : Nat → Option (Nat × Nat)} : ∀ {ps : List (Nat × Operand)} {qs : List (Nat × Nat × AOpnd)} {cs cs' : List AC} {vs : List Value}, cPlaces place ps = some qs → RCs ρ cs vs → fillA T cs qs = some cs' →
    ∃ vs' : List Value, RCs ρ cs' vs' ∧ Instr.fill place vs.toArray (ps.map fun (i, x) => (i, a.eval x)) = some vs'.toArray
  | [], qs, cs, cs', vs, hp, hcs, hf => by
    simp [cPlaces] at hp
    subst hp
    simp [fillA] at hf
    subst hf
    exact ⟨vs, hcs, rfl⟩
  | (i, x) :: ps, qs, cs, cs', vs, hp, hcs, hf => by
    simp only [cPlaces] at hp
    split at hp
    · rename_i off z y qs' hpl hy hqs
      simp only [Option.some.injEq] at hp
      subst hp
      simp only [fillA] at hf
      split at hf
      · cases hf
      · rename_i v hv
        cases hz : Nat.beq v.cells.length z
        · rw [hz] at hf; cases hf
        · rw [hz, cond_true] at hf
          split at hf
          · rename_i cs1 hl
            obtain ⟨hle, rfl⟩ := lay_spec _ _ _ _ hl
            have hzz := Nat.eq_of_beq_eq_true hz
            have hrv := evV_rel (a := a) hT hy hv
            have hcells := hrv.cells
            have hlen : (a.eval x).cells.size = z := by
              have := hcells.length
              simp only [Array.length_toList] at this
              omega
            have hvl := hcs.length
            have hnew : RCs ρ (cs.take off ++ v.cells ++ cs.drop (off + v.cells.length)) (vs.take off ++ (a.eval x).cells.toList ++ vs.drop (off + z)) := by
              rw [hzz]
              exact ((hcs.take off).append hcells).append (hcs.drop _)
            obtain ⟨vs', h1, h2⟩ := fill_rel hT hqs hnew hf
            refine ⟨vs', h1, ?_⟩
            simp only [List.map_cons, Instr.fill, hpl]
            have hcond : ¬ ((a.eval x).cells.size ≠ z ∨ off + (a.eval x).cells.size > vs.toArray.size) := by
              simp only [List.size_toArray, hlen]
              omega
            simp only [Bool.or_eq_true, decide_eq_true_eq, hcond, if_false]
            rw [← h2]
            congr 1
            -- the cells laid one by one are the splice
            have key : ∀ (ws : List Value) (j : Nat) (base : List Value), off + j + ws.length ≤ base.length →
                (ws.zipIdx j).foldl (fun (cs : Array Value) (p : Value × Nat) => cs.setIfInBounds (off + p.2) p.1) base.toArray = (base.take (off + j) ++ ws ++ base.drop (off + j + ws.length)).toArray := by
              intro ws
              induction ws with
              | nil => intro j base _; simp
              | cons u ws ih =>
                intro j base hb
                simp only [List.zipIdx_cons, List.foldl_cons, List.setIfInBounds_toArray]
                rw [ih (j + 1) (base.set (off + j) u) (by simp at hb ⊢; omega)]
                congr 1
                have hlt : off + j < base.length := by simp at hb; omega
                rw [List.set_eq_take_append_cons_drop, if_pos hlt]
                simp only [List.length_cons]
                have e1 : (base.take (off + j) ++ u :: base.drop (off + j + 1)).take (off + (j + 1)) = base.take (off + j) ++ [u] := by
                  rw [List.take_append]
                  have : (base.take (off + j)).length = off + j := by simp; omega
                  rw [this, List.take_of_length_le (by omega)]
                  rw [show off + (j + 1) - (off + j) = 1 from by omega]
                  rfl
                have e2 : (base.take (off + j) ++ u :: base.drop (off + j + 1)).drop (off + (j + 1) + ws.length) = base.drop (off + j + (ws.length + 1)) := by
                  rw [List.drop_append]
                  have : (base.take (off + j)).length = off + j := by simp; omega
                  rw [this, List.drop_eq_nil_of_le (by omega)]
                  rw [show off + (j + 1) + ws.length - (off + j) = ws.length + 1 from by omega]
                  simp only [List.drop_succ_cons, List.nil_append, List.drop_drop]
                  congr 1
                  omega
                rw [e1, e2]
                simp
            have hk := key (a.eval x).cells.toList 0 vs (by simp only [Array.length_toList, hlen]; omega)
            simp only [Nat.add_zero, Array.length_toList, hlen] at hk
            rw [← hk, ← Array.foldl_toList]
            simp [Array.toList_zipIdx]
          · cases hf
    · cases hp
end
end Go.Sv

namespace Go.Sv
variable [gi : GoodC]

section
variable {P : Program} {ρ : Rho}

theorem nan_read {n : Nat} (h : (FloatKind.f64.decode n).isNaN = true) : ∃ s f, FloatKind.f64.format.read n = .nan s f := by
  have h' : (FloatKind.f64.format.read n).isNaN = true := h
  cases hr : FloatKind.f64.format.read n <;> rw [hr] at h' <;> simp [Ieee.Datum.isNaN] at h'
  exact ⟨_, _, rfl⟩

theorem add_nan {n m : Nat} (h : (FloatKind.f64.decode n).isNaN = true ∨ (FloatKind.f64.decode m).isNaN = true) : FloatKind.f64.format.add n m = none ∧ FloatKind.f64.format.sub n m = none ∧ FloatKind.f64.format.mul n m = none ∧ FloatKind.f64.format.div n m = none ∧ FloatKind.f64.format.order n m = none := by
  unfold Ieee.Format.add Ieee.Format.sub Ieee.Format.mul Ieee.Format.div Ieee.Format.order
  rcases h with h | h
  · obtain ⟨s, f, hr⟩ := nan_read h
    rw [hr]
    refine ⟨?_, ?_, ?_, ?_, ?_⟩ <;> simp [Ieee.Datum.sum, Ieee.Datum.product, Ieee.Datum.quotient, Ieee.Datum.order]
  · obtain ⟨s, f, hr⟩ := nan_read h
    rw [hr]
    generalize FloatKind.f64.format.read n = d
    refine ⟨?_, ?_, ?_, ?_, ?_⟩ <;> cases d <;> simp [Ieee.Datum.sum, Ieee.Datum.product, Ieee.Datum.quotient, Ieee.Datum.order, Ieee.Datum.opposite]

theorem nan_bits (t : Nat) : (FloatKind.f64.decode ((t % 2) * 2 ^ 63 + 0x7ff0000000000000 + 1 + (t / 2) % (2 ^ 52 - 1))).isNaN = true := by
  have hs : FloatKind.f64.format.signWeight = 2 ^ 63 := rfl
  have hb : FloatKind.f64.format.binade = 2 ^ 52 := rfl
  have hi : FloatKind.f64.format.infRung = 0x7ff0000000000000 := rfl
  have hm : (t / 2) % (2 ^ 52 - 1) < 2 ^ 52 - 1 := Nat.mod_lt _ (by decide)
  generalize (t / 2) % (2 ^ 52 - 1) = q at *
  have hr : ((t % 2) * 2 ^ 63 + 0x7ff0000000000000 + 1 + q) % 2 ^ 63 = 0x7ff0000000000000 + 1 + q := by omega
  unfold FloatKind.decode Ieee.Format.read
  simp only [hs, hb, hi, hr]
  rw [if_neg (by omega), if_neg (by omega), if_neg (by omega)]
  rfl

/-- The world behind some draws. -/
def Drawn (w w' : World) : Prop := ∃ n, w' = { w with drawn := n }

theorem Drawn.refl (w : World) : Drawn w w := ⟨w.drawn, rfl⟩
theorem Drawn.drew (w : World) : Drawn w w.drew := ⟨w.drawn + 1, rfl⟩
theorem Drawn.trans {a b c : World} (h : Drawn a b) (h' : Drawn b c) : Drawn a c := by
  obtain ⟨n, rfl⟩ := h
  obtain ⟨m, rfl⟩ := h'
  exact ⟨m, rfl⟩

theorem St.drawn {ρ ρ' : Rho} {H H' : AH} {w w' w'' : World} (h : St ρ H w ρ' H' w') (hd : Drawn w' w'') : St ρ H w ρ' H' w'' := by
  obtain ⟨n, rfl⟩ := hd
  exact ⟨h.ext, ⟨h.rh.blk, h.rh.inj, h.rh.fresh, h.rh.lo, h.rh.lim, h.rh.old⟩, h.p, h.frame, h.own, h.live, h.os, h.tape, h.output, h.size⟩

/-- One float's sum, product and so on. -/
theorem run_farith {X : Ctx} {op : BinOp} {x y z : AF} (h : farith op x y = some z) {n m : Nat} (hx : RF X x n) (hy : RF X y m) :
    (∃ r, RF X z r ∧ ∀ w, (Op.floatArith op .f64 n m).run P w = .ok (.float .f64 r) w) ∨
    (z = .nan ∧ ∀ w, ∃ r, RF X .nan r ∧ (Op.floatArith op .f64 n m).run P w = .ok (.float .f64 r) w.drew) := by
  cases hS : isS x || isS y
  case true =>
    unfold farith at h
    rw [hS, cond_true] at h
    obtain ⟨r, h1, h2, h3⟩ := farithS_ok hx hy h
    refine .inl ⟨r, h1, fun w => ?_⟩
    have e : FloatKind.f64.format = Ieee.double := rfl
    rcases h3 with rfl | rfl | rfl | rfl <;> simp only [] at h2 <;> simp [Op.floatArith, e, h2]
  have hnan : ∀ w : World, RF X .nan (Question.cut (.nanBits .f64 n m) (w.tape w.drawn (.nanBits .f64 n m))) := fun w => nan_bits _
  have none_case : (match op with | .add | .sub | .mul | .quo => True | _ => False) → (∀ w : World, (Op.floatArith op .f64 n m).run P w = ((choose (.nanBits .f64 n m)).run P w).andThen fun r w' => .ok (.float .f64 r) w') →
      ∀ w : World, ∃ r, RF X .nan r ∧ (Op.floatArith op .f64 n m).run P w = .ok (.float .f64 r) w.drew := fun _ hr w => ⟨_, hnan w, by rw [hr w]; simp [Question.forced]⟩
  have both : ∀ (q : Option Nat), (∀ w : World, (Op.floatArith op .f64 n m).run P w = (match q with | some r => .ok (.float .f64 r) w | none => ((choose (.nanBits .f64 n m)).run P w).andThen fun r w' => .ok (.float .f64 r) w')) →
      z = (match q with | some r => .f r | none => .nan) →
      (∃ r, RF X z r ∧ ∀ w, (Op.floatArith op .f64 n m).run P w = .ok (.float .f64 r) w) ∨
      (z = .nan ∧ ∀ w, ∃ r, RF X .nan r ∧ (Op.floatArith op .f64 n m).run P w = .ok (.float .f64 r) w.drew) := fun q hr hz => by
    cases q with
    | some r => exact .inl ⟨r, by subst hz; exact rfl, hr⟩
    | none => exact .inr ⟨hz, fun w => ⟨_, hnan w, by rw [hr w]; simp [Question.forced]⟩⟩
  cases x with
  | s k F => cases hS
  | f b =>
    cases y with
    | s k F => cases hS
    | f c =>
      simp only [RF] at hx hy
      subst hx; subst hy
      cases op <;> simp only [farith, isS, Bool.or_self, cond_false] at h <;> first | (cases h; done) | skip
      all_goals simp only [Option.some.injEq] at h
      · exact both (FloatKind.f64.format.add n m) (fun w => by simp only [Op.floatArith]; cases FloatKind.f64.format.add n m <;> simp) h.symm
      · exact both (FloatKind.f64.format.sub n m) (fun w => by simp only [Op.floatArith]; cases FloatKind.f64.format.sub n m <;> simp) h.symm
      · exact both (FloatKind.f64.format.mul n m) (fun w => by simp only [Op.floatArith]; cases FloatKind.f64.format.mul n m <;> simp) h.symm
      · exact both (FloatKind.f64.format.div n m) (fun w => by simp only [Op.floatArith]; cases FloatKind.f64.format.div n m <;> simp) h.symm
    | nan =>
      obtain ⟨e1, e2, e3, e4, _⟩ := add_nan (n := n) (.inr hy)
      cases op <;> simp only [farith, isS, Bool.or_self, cond_false] at h <;> first | (cases h; done) | skip
      all_goals simp only [Option.some.injEq] at h
      all_goals exact both none (fun w => by simp [Op.floatArith, e1, e2, e3, e4]) h.symm
  | nan =>
    obtain ⟨e1, e2, e3, e4, _⟩ := add_nan (m := m) (.inl hx)
    cases y <;> first | (cases hS; done) | skip
    all_goals cases op <;> simp only [farith, isS, Bool.or_self, cond_false] at h <;> first | (cases h; done) | skip
    all_goals simp only [Option.some.injEq] at h
    all_goals exact both none (fun w => by simp [Op.floatArith, e1, e2, e3, e4]) h.symm

theorem ford_eq {X : Ctx} {x y : AF} {n m : Nat} (hS : (isS x || isS y) = false) (hx : RF X x n) (hy : RF X y m) : FloatKind.f64.format.order n m = ford x y := by
  cases x with
  | s k F => cases hS
  | f b =>
    cases y with
    | s k F => cases hS
    | f c => simp only [RF] at hx hy; subst hx; subst hy; rfl
    | nan => exact (add_nan (.inr hy)).2.2.2.2
  | nan =>
    cases y with
    | s k F => cases hS
    | f c => exact (add_nan (.inl hx)).2.2.2.2
    | nan => exact (add_nan (.inl hx)).2.2.2.2

theorem ordIs_eq (c : Option Ordering) (o : Ordering) : (c == some o) = ordIs c o := by
  cases c with
  | none => cases o <;> rfl
  | some d => cases d <;> cases o <;> rfl

theorem run_fcmp' {op : BinOp} {b : Bool} {n m : Nat} (h : fcmp op (FloatKind.f64.format.order n m) = some b) (w : World) : (Op.floatCmp op .f64 n m).run P w = .ok (.bool b) w := by
  unfold Op.floatCmp
  generalize FloatKind.f64.format.order n m = o at *
  cases op <;> simp only [fcmp] at h <;> first | (cases h; done) | skip
  all_goals simp only [Option.some.injEq] at h; subst h
  all_goals simp only [Sem.run_pure, ordIs_eq, bne]

theorem run_fcmp {X : Ctx} {op : BinOp} {x y : AF} {b : Bool} {n m : Nat} (hS : (isS x || isS y) = false) (hx : RF X x n) (hy : RF X y m) (h : fcmp op (ford x y) = some b) (w : World) : (Op.floatCmp op .f64 n m).run P w = .ok (.bool b) w :=
  run_fcmp' (by rw [ford_eq hS hx hy]; exact h) w

theorem run_icmp {op : BinOp} {x y : Int} {b : Bool} (h : icmp op x y = some b) (w : World) : (Op.intCmp op x y).run P w = .ok (.bool b) w := by
  unfold Op.intCmp
  cases op <;> simp only [icmp] at h <;> first | (cases h; done) | skip
  all_goals simp only [Option.some.injEq] at h; subst h
  all_goals simp

theorem eqGuard_plain {op : BinOp} {t : TypeId} {x y : Operand} {u v : Value} (hu : u ≠ .nilIface) (hu' : ∀ cs, u ≠ .agg cs) (w : World) : (eqGuard op t x y u v).run P w = .ok () w := by
  unfold eqGuard
  cases op <;> simp <;> cases u <;> simp_all

/-- A sum, a comparison and so on, of plain values. -/
theorem run_binC {op : BinOp} {x y z : AC} (h : binC op x y = some z) {u v : Value} (hu : RC ρ x u) (hv : RC ρ y v) (t : TypeId) :
    (∃ q, RC ρ z q ∧ ∀ w, (binOp op t u v).run P w = .ok q w) ∨ (nanC z = true ∧ ∀ w, ∃ q w', RC ρ z q ∧ Drawn w w' ∧ (binOp op t u v).run P w = .ok q w') := by
  cases x <;> cases y <;> simp only [binC, intS] at h <;> first | (cases h; done) | skip
  case si.int k m tg k' n =>
    obtain ⟨rfl, htg⟩ := hu
    simp only [RC] at hv
    subst hv
    left
    split at h
    · rename_i hk
      subst hk
      split at h
      · simp only [Option.some.injEq] at h
        subst h
        have := fun w => run_icmp (P := P) (op := .eql) (x := m) (y := n) rfl w
        exact ⟨.bool (m == n), rfl, fun w => by simp [binOp, this]⟩
      · simp only [Option.some.injEq] at h
        subst h
        have := fun w => run_icmp (P := P) (op := .neq) (x := m) (y := n) rfl w
        exact ⟨.bool (m != n), rfl, fun w => by simp [binOp, this]⟩
      · rename_i m' r
        split at h
        · rename_i hh
          obtain ⟨rfl, rfl, hm⟩ := hh
          simp only [Option.some.injEq] at h
          subst h
          obtain ⟨t0, t1, t2⟩ := htg
          have e : m.tmod (m' : Int) = (r : Int) := by rw [Int.tmod_eq_emod_of_nonneg t0, t2]
          have hne : ¬ m' = 0 := by omega
          exact ⟨.int .i64 (r : Int), rfl, fun w => by simp [binOp, Op.intDiv, hne, e]⟩
        · cases h
      · split at h
        · rename_i hh
          obtain ⟨rfl, rfl⟩ := hh
          simp only [Option.some.injEq] at h
          subst h
          obtain ⟨t0, t1⟩ := htg
          refine ⟨.int .i64 (m.tmod 6), ⟨rfl, ?_⟩, fun w => by simp [binOp, Op.intDiv]⟩
          have h1 := Int.tmod_lt_of_pos m (show (0 : Int) < 6 by decide)
          have h2 := Int.tmod_nonneg 6 t0
          exact ⟨by omega, by omega⟩
        · cases h
      · split at h
        · rename_i hh
          obtain ⟨rfl, rfl⟩ := hh
          simp only [Option.some.injEq] at h
          subst h
          refine ⟨.int .i64 (m.tmod 50), ⟨rfl, ?_⟩, fun w => by simp [binOp, Op.intDiv]⟩
          have h1 := Int.tmod_lt_of_pos m (show (0 : Int) < 50 by decide)
          have h2 : -50 < m.tmod 50 := by
            have h3 := Int.tmod_lt_of_pos (-m) (show (0 : Int) < 50 by decide)
            rw [Int.neg_tmod] at h3
            omega
          exact ⟨by omega, by omega⟩
        · cases h
      · split at h
        · rename_i hh
          obtain ⟨rfl, rfl⟩ := hh
          simp only [Option.some.injEq] at h
          subst h
          obtain ⟨_, t1⟩ := htg
          exact ⟨.int .i64 0, rfl, fun w => by simp [binOp, Op.intDiv, t1]⟩
        · cases h
      · split at h
        · rename_i hc0
          subst hc0
          simp only [Option.some.injEq] at h
          subst h
          obtain ⟨t0, t1⟩ := htg
          have hgt : decide (m > 0) = true := by rw [t0]; simp; omega
          have := fun w => run_icmp (P := P) (op := .gtr) (x := m) (y := 0) (b := true) (by simp only [icmp]; rw [hgt]) w
          exact ⟨.bool true, rfl, fun w => by simp [binOp, this]⟩
        · cases h
      · split at h
        · rename_i hc0
          subst hc0
          simp only [Option.some.injEq] at h
          subst h
          obtain ⟨t0, t1⟩ := htg
          have hgt : decide (m > 64) = false := by simp; omega
          have := fun w => run_icmp (P := P) (op := .gtr) (x := m) (y := 64) (b := false) (by simp only [icmp]; rw [hgt]) w
          exact ⟨.bool false, rfl, fun w => by simp [binOp, this]⟩
        · cases h
      · split at h
        · rename_i hc0
          subst hc0
          simp only [Option.some.injEq] at h
          subst h
          obtain ⟨t0, t1⟩ := htg
          have hgt : decide (m < 0) = false := by simp; omega
          have := fun w => run_icmp (P := P) (op := .lss) (x := m) (y := 0) (b := false) (by simp only [icmp]; rw [hgt]) w
          exact ⟨.bool false, rfl, fun w => by simp [binOp, this]⟩
        · cases h
      · cases h
    · cases h
  case int.si k m k' n tg =>
    obtain ⟨rfl, htg⟩ := hv
    simp only [RC] at hu
    subst hu
    left
    split at h
    · rename_i j
      split at h
      · rename_i hh
        obtain ⟨rfl, rfl, h0⟩ := hh
        simp only [Option.some.injEq] at h
        subst h
        obtain ⟨t0, t1⟩ := htg
        have hne : ¬ n = 0 := by omega
        refine ⟨.int .i64 (m.tmod n), ⟨rfl, ?_, t1⟩, fun w => by simp [binOp, Op.intDiv, hne]⟩
        rw [Int.tmod_eq_emod_of_nonneg h0, t0, Int.natCast_emod, Int.toNat_of_nonneg h0]
      · cases h
    · cases h
  case fb.fb m F n G =>
    obtain ⟨rfl, hF⟩ := hu
    obtain ⟨rfl, hG⟩ := hv
    left
    split at h
    · cases hs : sameId F G
      · rw [hs] at h; cases h
      · rw [hs, cond_true] at h
        simp only [Option.some.injEq] at h
        subst h
        have e : m = n := sameId_ok hF hG hs
        subst e
        have := fun w => run_icmp (P := P) (op := .eql) (x := (m : Int)) (y := (m : Int)) (b := true) (by simp [icmp]) w
        exact ⟨.bool true, rfl, fun w => by simp [binOp, this]⟩
    · cases h
  case fb.int m F k n =>
    obtain ⟨rfl, hF⟩ := hu
    simp only [RC] at hv
    subst hv
    left
    split at h
    · split at h
      · rename_i hh
        obtain ⟨rfl, rfl⟩ := hh
        split at h
        · rename_i b hb
          have h1 := fabs_eq m
          have h2 : (fabs m).toNat = m % 2 ^ 63 := by rw [h1]; rfl
          have key : ∀ (x y : Int) (w : World), (binOp .andNot t (.int .u64 x) (.int .u64 y)).run P w = .ok (.int .u64 (IntKind.u64.wrap (BitVec.ofInt 64 x &&& ~~~BitVec.ofInt 64 y).toNat)) w := fun x y w => rfl
          cases hm5 : Nat.beq F.mm 5
          · rw [hm5, cond_false] at h
            simp only [Option.some.injEq] at h
            subst h
            refine ⟨.int .u64 (fabs m), ⟨?_, ?_⟩, fun w => key _ _ w⟩
            · rw [h2, h1]
            · rw [h2]; exact absF_ok hF hb
          · rw [hm5, cond_true] at h
            simp only [Option.some.injEq] at h
            subst h
            have h5 := Nat.eq_of_beq_eq_true hm5
            obtain ⟨q, hq, _, _, _, _, hq5, _⟩ := hF.mm (by rw [h5]; decide)
            have hz := abs_zero (hq5 h5 ▸ hq)
            refine ⟨.int .u64 (fabs m), ?_, fun w => key _ _ w⟩
            show Value.int .u64 (fabs m) = .int .u64 0
            rw [h1, hz]
            rfl
        · cases h
      · cases h
    · cases h
  case int.int k m k' n =>
    simp only [RC] at hu hv
    subst hu; subst hv
    left
    have other : (match op with | .shl | .shr => False | _ => True) → (if k = k' then
        match icmp op m n with
        | some r => some (AC.bool r)
        | none =>
          match iarith op k m n with
          | some r => some (.int k r)
          | none => none
      else none) = some z → ∃ q, RC ρ z q ∧ ∀ w, (binOp op t (.int k m) (.int k' n)).run P w = .ok q w := fun _ g => by
      split at g
      · rename_i hk
        subst hk
        split at g
        · rename_i r hr
          simp only [Option.some.injEq] at g
          subst g
          refine ⟨.bool r, rfl, fun w => ?_⟩
          have := run_icmp (P := P) hr w
          cases op <;> simp only [icmp] at hr <;> first | (cases hr; done) | (simp [binOp, this])
        · split at g
          · rename_i r hr
            simp only [Option.some.injEq] at g
            subst g
            refine ⟨.int k r, rfl, fun w => ?_⟩
            cases op <;> simp only [iarith] at hr <;> first | (cases hr; done) | skip
            all_goals first
              | (simp only [Option.some.injEq] at hr; subst hr; simp [binOp, Op.intArith]; done)
              | (simp only [Option.some.injEq] at hr; subst hr; simp [binOp, Op.intBits]; done)
              | (split at hr
                 · cases hr
                 · rename_i hne
                   simp only [Option.some.injEq] at hr
                   subst hr
                   simp [binOp, Op.intDiv, hne])
          · cases g
      · cases g
    cases op <;> first | exact other trivial h | skip
    · simp only [] at h
      split at h
      · cases h
      · rename_i hn
        simp only [Option.some.injEq] at h
        subst h
        exact ⟨_, rfl, fun w => by simp [binOp, Op.shift, hn]⟩
    · simp only [] at h
      split at h
      · cases h
      · rename_i hn
        simp only [Option.some.injEq] at h
        subst h
        exact ⟨_, rfl, fun w => by simp [binOp, Op.shift, hn]⟩
  case flt.flt p q =>
    obtain ⟨n, hn, rfl⟩ := hu
    obtain ⟨m, hm, rfl⟩ := hv
    cases hS : isS p || isS q
    case true =>
      rw [hS, cond_true] at h
      left
      unfold fltS at h
      cases hc : isCmp op
      · rw [hc, cond_false] at h
        split at h
        · rename_i r hr
          simp only [Option.some.injEq] at h
          subst h
          obtain ⟨r', h1, h2, h3⟩ := farithS_ok hn hm hr
          refine ⟨.float .f64 r', ⟨r', h1, rfl⟩, fun w => ?_⟩
          have e : FloatKind.f64.format = Ieee.double := rfl
          rcases h3 with rfl | rfl | rfl | rfl <;> simp only [] at h2 <;> simp [binOp, Op.floatArith, e, h2]
        · cases h
      · rw [hc, cond_true] at h
        split at h
        · rename_i b hb
          simp only [Option.some.injEq] at h
          subst h
          have := run_fcmp' (P := P) (fcmpS_ok hn hm hb)
          exact ⟨.bool b, rfl, fun w => by cases op <;> simp only [isCmp] at hc <;> first | (cases hc; done) | (simp [binOp, this])⟩
        · split at h
          · rename_i n' F m' G h1 h2
            obtain ⟨rfl, _⟩ := toS_ok hn h1
            obtain ⟨rfl, _⟩ := toS_ok hm h2
            simp only [Option.some.injEq] at h
            subst h
            have hb : fcmp op (FloatKind.f64.format.order n' m') = some (cmpB op n' m') := by
              cases op <;> simp only [isCmp] at hc <;> first | (cases hc; done) | rfl
            have := run_fcmp' (P := P) hb
            exact ⟨.bool (cmpB op n' m'), rfl, fun w => by cases op <;> simp only [isCmp] at hc <;> first | (cases hc; done) | (simp [binOp, this])⟩
          · cases h
    rw [hS, cond_false] at h
    split at h
    · rename_i r hr
      simp only [Option.some.injEq] at h
      subst h
      refine .inl ⟨.bool r, rfl, fun w => ?_⟩
      have := run_fcmp (P := P) hS hn hm hr w
      cases op <;> simp only [fcmp] at hr <;> first | (cases hr; done) | (simp [binOp, this])
    · split at h
      · rename_i r hr
        simp only [Option.some.injEq] at h
        subst h
        have hop : ∀ w, (binOp op t (.float .f64 n) (.float .f64 m)).run P w = (Op.floatArith op .f64 n m).run P w := fun w => by
          cases op <;> simp only [farith] at hr <;> first | (simp [binOp]; done) | (cases p <;> cases q <;> first | (cases hS; done) | (simp [isS] at hr; done))
        rcases run_farith (P := P) hr hn hm with ⟨r', hr', hrun⟩ | ⟨rfl, hrun⟩
        · exact .inl ⟨_, ⟨r', hr', rfl⟩, fun w => (hop w).trans (hrun w)⟩
        · refine .inr ⟨rfl, fun w => ?_⟩
          obtain ⟨r', h1, h2⟩ := hrun w
          exact ⟨_, _, ⟨r', h1, rfl⟩, Drawn.drew w, (hop w).trans h2⟩
      · cases h
  case cpx.cpx p q r s =>
    obtain ⟨n1, n2, e1, e2, rfl⟩ := hu
    obtain ⟨m1, m2, e3, e4, rfl⟩ := hv
    have arith : ∀ (o : BinOp), (o = .add ∨ o = .sub) → op = o → (match farith o p r, farith o q s with
        | some x, some y => some (AC.cpx x y)
        | _, _ => none) = some z → (∃ q, RC ρ z q ∧ ∀ w, (binOp op t (.complex .f64 n1 n2) (.complex .f64 m1 m2)).run P w = .ok q w) ∨ (nanC z = true ∧ ∀ w, ∃ q w', RC ρ z q ∧ Drawn w w' ∧ (binOp op t (.complex .f64 n1 n2) (.complex .f64 m1 m2)).run P w = .ok q w') := by
      intro o ho hop h
      subst hop
      have hrun : ∀ w, (binOp op t (.complex .f64 n1 n2) (.complex .f64 m1 m2)).run P w = ((Op.Complex.arith op .f64 n1 m1).run P w).andThen fun a w => ((Op.Complex.arith op .f64 n2 m2).run P w).andThen fun b w => .ok (.complex .f64 a b) w := fun w => by
        rcases ho with rfl | rfl <;> simp [binOp, Op.complexOp]
      split at h
      · rename_i x y hx hy
        simp only [Option.some.injEq] at h
        subst h
        have one : ∀ {x : AF} {u v : AF} {a b : Nat}, farith op u v = some x → RF ρ.X u a → RF ρ.X v b → (∃ k, RF ρ.X x k ∧ ∀ w, (Op.Complex.arith op .f64 a b).run P w = .ok k w) ∨ (x = .nan ∧ ∀ w, ∃ k, RF ρ.X .nan k ∧ (Op.Complex.arith op .f64 a b).run P w = .ok k w.drew) := fun hx ha hb => by
          rcases run_farith (P := P) hx ha hb with ⟨r', hr', hr⟩ | ⟨rfl, hr⟩
          · exact .inl ⟨r', hr', fun w => by simp [Op.Complex.arith, hr w]⟩
          · refine .inr ⟨rfl, fun w => ?_⟩
            obtain ⟨k, h1, h2⟩ := hr w
            exact ⟨k, h1, by simp [Op.Complex.arith, h2]⟩
        rcases one hx e1 e3 with ⟨k1, hk1, g1⟩ | ⟨rfl, g1⟩
        · rcases one hy e2 e4 with ⟨k2, hk2, g2⟩ | ⟨rfl, g2⟩
          · exact .inl ⟨_, ⟨k1, k2, hk1, hk2, rfl⟩, fun w => by rw [hrun, g1, Result.andThen_ok, g2, Result.andThen_ok]⟩
          · refine .inr ⟨by cases x <;> rfl, fun w => ?_⟩
            obtain ⟨k2, h1, h2⟩ := g2 w
            exact ⟨_, _, ⟨k1, k2, hk1, h1, rfl⟩, Drawn.drew w, by rw [hrun, g1, Result.andThen_ok, h2, Result.andThen_ok]⟩
        · refine .inr ⟨rfl, fun w => ?_⟩
          obtain ⟨k1, h1, h2⟩ := g1 w
          rcases one hy e2 e4 with ⟨k2, hk2, g2⟩ | ⟨rfl, g2⟩
          · exact ⟨_, _, ⟨k1, k2, h1, hk2, rfl⟩, Drawn.drew w, by rw [hrun, h2, Result.andThen_ok, g2, Result.andThen_ok]⟩
          · obtain ⟨k2, h3, h4⟩ := g2 w.drew
            exact ⟨_, _, ⟨k1, k2, h1, h3, rfl⟩, (Drawn.drew w).trans (Drawn.drew _), by rw [hrun, h2, Result.andThen_ok, h4, Result.andThen_ok]⟩
      · cases h
    cases op <;> simp only [] at h <;> first | (cases h; done) | skip
    · exact arith .add (.inl rfl) rfl h
    · exact arith .sub (.inr rfl) rfl h
    · cases hS : isS p || isS q || isS r || isS s
      case true =>
        rw [hS, cond_true] at h
        have e : FloatKind.f64.format = Ieee.double := rfl
        cases hz : notZ p r || notZ q s
        · rw [hz, cond_false] at h
          cases hi : isZ p r && isZ q s
          · rw [hi] at h; cases h
          · rw [hi, cond_true] at h
            simp only [Option.some.injEq] at h
            subst h
            refine .inl ⟨_, rfl, fun w => ?_⟩
            simp only [Bool.and_eq_true] at hi
            have o1 := isZ_ok e1 e3 hi.1
            have o2 := isZ_ok e2 e4 hi.2
            have k1 : fcmp .eql (FloatKind.f64.format.order n1 m1) = some true ∧ fcmp .neq (FloatKind.f64.format.order n1 m1) = some false := by rw [e, o1]; exact ⟨rfl, rfl⟩
            have k2 : fcmp .eql (FloatKind.f64.format.order n2 m2) = some true ∧ fcmp .neq (FloatKind.f64.format.order n2 m2) = some false := by rw [e, o2]; exact ⟨rfl, rfl⟩
            have c1 := run_fcmp' (P := P) k1.1
            have c2 := run_fcmp' (P := P) k1.2
            have c3 := run_fcmp' (P := P) k2.1
            have c4 := run_fcmp' (P := P) k2.2
            simp [binOp, Op.complexOp, Op.Complex.cmp, c1, c2, c3, c4, asBool]
        · rw [hz, cond_true] at h
          simp only [Option.some.injEq] at h
          subst h
          refine .inl ⟨_, rfl, fun w => ?_⟩
          have ne : ∀ {x y : AF} {n m : Nat}, RF ρ.X x n → RF ρ.X y m → notZ x y = true → fcmp .eql (FloatKind.f64.format.order n m) = some false ∧ fcmp .neq (FloatKind.f64.format.order n m) = some true := fun hx hy hn => by
            rw [e]
            rcases notZ_ok hx hy hn with g | g <;> rw [g] <;> exact ⟨rfl, rfl⟩
          have other : ∀ (n m : Nat), ∃ b, fcmp .eql (FloatKind.f64.format.order n m) = some b ∧ fcmp .neq (FloatKind.f64.format.order n m) = some !b := fun n m => ⟨_, rfl, rfl⟩
          simp only [Bool.or_eq_true] at hz
          rcases hz with hz | hz
          · obtain ⟨k1, k2⟩ := ne e1 e3 hz
            obtain ⟨b, k3, k4⟩ := other n2 m2
            have c1 := run_fcmp' (P := P) k1
            have c2 := run_fcmp' (P := P) k2
            have c3 := run_fcmp' (P := P) k3
            have c4 := run_fcmp' (P := P) k4
            simp [binOp, Op.complexOp, Op.Complex.cmp, c1, c2, c3, c4, asBool]
          · obtain ⟨k1, k2⟩ := ne e2 e4 hz
            obtain ⟨b, k3, k4⟩ := other n1 m1
            have c1 := run_fcmp' (P := P) k1
            have c2 := run_fcmp' (P := P) k2
            have c3 := run_fcmp' (P := P) k3
            have c4 := run_fcmp' (P := P) k4
            simp [binOp, Op.complexOp, Op.Complex.cmp, c1, c2, c3, c4, asBool]
      rw [hS, cond_false] at h
      have hS1 : (isS p || isS r) = false := by cases hp : isS p <;> cases hr : isS r <;> simp [hp, hr] at hS ⊢
      have hS2 : (isS q || isS s) = false := by cases hp : isS q <;> cases hr : isS s <;> simp [hp, hr] at hS ⊢
      simp only [Option.some.injEq] at h
      subst h
      refine .inl ⟨_, rfl, fun w => ?_⟩
      have c1 : ∀ w, (Op.floatCmp .eql .f64 n1 m1).run P w = .ok (.bool (ordIs (ford p r) .eq)) w := run_fcmp (P := P) (op := .eql) hS1 e1 e3 rfl
      have c2 : ∀ w, (Op.floatCmp .eql .f64 n2 m2).run P w = .ok (.bool (ordIs (ford q s) .eq)) w := run_fcmp (P := P) (op := .eql) hS2 e2 e4 rfl
      have d1 : ∀ w, (Op.Complex.cmp .eql .f64 n1 m1).run P w = .ok (ordIs (ford p r) .eq) w := fun w => by simp [Op.Complex.cmp, c1, asBool]
      have d2 : ∀ w, (Op.Complex.cmp .eql .f64 n2 m2).run P w = .ok (ordIs (ford q s) .eq) w := fun w => by simp [Op.Complex.cmp, c2, asBool]
      simp [binOp, Op.complexOp, d1, d2]
    · cases hS : isS p || isS q || isS r || isS s
      case true =>
        rw [hS, cond_true] at h
        have e : FloatKind.f64.format = Ieee.double := rfl
        cases hz : notZ p r || notZ q s
        · rw [hz, cond_false] at h
          cases hi : isZ p r && isZ q s
          · rw [hi] at h; cases h
          · rw [hi, cond_true] at h
            simp only [Option.some.injEq] at h
            subst h
            refine .inl ⟨_, rfl, fun w => ?_⟩
            simp only [Bool.and_eq_true] at hi
            have o1 := isZ_ok e1 e3 hi.1
            have o2 := isZ_ok e2 e4 hi.2
            have k1 : fcmp .eql (FloatKind.f64.format.order n1 m1) = some true ∧ fcmp .neq (FloatKind.f64.format.order n1 m1) = some false := by rw [e, o1]; exact ⟨rfl, rfl⟩
            have k2 : fcmp .eql (FloatKind.f64.format.order n2 m2) = some true ∧ fcmp .neq (FloatKind.f64.format.order n2 m2) = some false := by rw [e, o2]; exact ⟨rfl, rfl⟩
            have c1 := run_fcmp' (P := P) k1.1
            have c2 := run_fcmp' (P := P) k1.2
            have c3 := run_fcmp' (P := P) k2.1
            have c4 := run_fcmp' (P := P) k2.2
            simp [binOp, Op.complexOp, Op.Complex.cmp, c1, c2, c3, c4, asBool]
        · rw [hz, cond_true] at h
          simp only [Option.some.injEq] at h
          subst h
          refine .inl ⟨_, rfl, fun w => ?_⟩
          have ne : ∀ {x y : AF} {n m : Nat}, RF ρ.X x n → RF ρ.X y m → notZ x y = true → fcmp .eql (FloatKind.f64.format.order n m) = some false ∧ fcmp .neq (FloatKind.f64.format.order n m) = some true := fun hx hy hn => by
            rw [e]
            rcases notZ_ok hx hy hn with g | g <;> rw [g] <;> exact ⟨rfl, rfl⟩
          have other : ∀ (n m : Nat), ∃ b, fcmp .eql (FloatKind.f64.format.order n m) = some b ∧ fcmp .neq (FloatKind.f64.format.order n m) = some !b := fun n m => ⟨_, rfl, rfl⟩
          simp only [Bool.or_eq_true] at hz
          rcases hz with hz | hz
          · obtain ⟨k1, k2⟩ := ne e1 e3 hz
            obtain ⟨b, k3, k4⟩ := other n2 m2
            have c1 := run_fcmp' (P := P) k1
            have c2 := run_fcmp' (P := P) k2
            have c3 := run_fcmp' (P := P) k3
            have c4 := run_fcmp' (P := P) k4
            simp [binOp, Op.complexOp, Op.Complex.cmp, c1, c2, c3, c4, asBool]
          · obtain ⟨k1, k2⟩ := ne e2 e4 hz
            obtain ⟨b, k3, k4⟩ := other n1 m1
            have c1 := run_fcmp' (P := P) k1
            have c2 := run_fcmp' (P := P) k2
            have c3 := run_fcmp' (P := P) k3
            have c4 := run_fcmp' (P := P) k4
            simp [binOp, Op.complexOp, Op.Complex.cmp, c1, c2, c3, c4, asBool]
      rw [hS, cond_false] at h
      have hS1 : (isS p || isS r) = false := by cases hp : isS p <;> cases hr : isS r <;> simp [hp, hr] at hS ⊢
      have hS2 : (isS q || isS s) = false := by cases hp : isS q <;> cases hr : isS s <;> simp [hp, hr] at hS ⊢
      simp only [Option.some.injEq] at h
      subst h
      refine .inl ⟨_, rfl, fun w => ?_⟩
      have c1 : ∀ w, (Op.floatCmp .eql .f64 n1 m1).run P w = .ok (.bool (ordIs (ford p r) .eq)) w := run_fcmp (P := P) (op := .eql) hS1 e1 e3 rfl
      have c2 : ∀ w, (Op.floatCmp .eql .f64 n2 m2).run P w = .ok (.bool (ordIs (ford q s) .eq)) w := run_fcmp (P := P) (op := .eql) hS2 e2 e4 rfl
      have d1 : ∀ w, (Op.Complex.cmp .eql .f64 n1 m1).run P w = .ok (ordIs (ford p r) .eq) w := fun w => by simp [Op.Complex.cmp, c1, asBool]
      have d2 : ∀ w, (Op.Complex.cmp .eql .f64 n2 m2).run P w = .ok (ordIs (ford q s) .eq) w := fun w => by simp [Op.Complex.cmp, c2, asBool]
      simp [binOp, Op.complexOp, d1, d2]

theorem run_unC {op : UnOp} {x z : AC} (h : unC op x = some z) {u : Value} (hu : RC ρ x u) : ∃ q, RC ρ z q ∧ ∀ w, (Op.unary op u).run P w = .ok q w := by
  unfold unC at h
  split at h
  · simp only [RC] at hu; subst hu
    simp only [Option.some.injEq] at h; subst h
    exact ⟨_, rfl, fun w => by simp [Op.unary, Op.intArith]⟩
  · obtain ⟨n, hn, rfl⟩ := hu
    simp only [RF] at hn; subst hn
    simp only [Option.some.injEq] at h; subst h
    exact ⟨_, ⟨_, rfl, rfl⟩, fun w => by simp [Op.unary]⟩
  · rename_i k F
    obtain ⟨n, hn, rfl⟩ := hu
    obtain ⟨rfl, hF⟩ := hn
    split at h
    · rename_i b hb
      rw [fzM_eq] at h
      simp only [Option.some.injEq] at h; subst h
      exact ⟨.float .f64 (fneg n), ⟨_, ⟨rfl, negF_ok hF hb⟩, rfl⟩, fun w => by simp [Op.unary, fneg]⟩
    · cases h
  · simp only [RC] at hu; subst hu
    simp only [Option.some.injEq] at h; subst h
    exact ⟨_, rfl, fun w => by simp [Op.unary]⟩
  · rename_i b
    have hu' : u = .bool b := hu
    subst hu'
    simp only [Option.some.injEq] at h; subst h
    exact ⟨.bool !b, rfl, fun w => by simp [Op.unary]⟩
  · cases h
end
end Go.Sv

namespace Go.Sv
variable [gi : GoodC]

section
variable {P : Program} {ρ : Rho} {T : Tr AT} {a : Act} {w : World} {H : AH} {dst : Option Tmp} {ty : TypeId} {pos : String} {after : Array Edge} {guard : Option (Nat × Bool)}
variable {callf : Nat → List AV → AH → Option (AT × AH)} {r : AT} {H' : AH}

theorem some1_spec {x : Option AC} (h : some1 H x = some (r, H')) : ∃ y, x = some y ∧ r = mk1 y ∧ H' = H := by
  cases x with
  | none => simp [some1] at h
  | some y => simp only [some1, Option.some.injEq, Prod.mk.injEq] at h; exact ⟨y, rfl, h.1.symm, h.2.symm⟩

theorem keepH_spec {x : Option AT} (h : keepH H x = some (r, H')) : x = some r ∧ H' = H := by
  cases x with
  | none => simp [keepH] at h
  | some y => simp only [keepH, Option.some.injEq, Prod.mk.injEq] at h; exact ⟨by rw [h.1], h.2.symm⟩

/-- A value that does not hang on the world. -/
theorem Yld.plain {o : Oper} {s : Sem Value} {v : Value} (he : execOp a.eval o = (do pure (.value (← s)))) (hr : R1 ρ r v) (hs : ∀ w', s.run P w' = .ok v w') : Yld P ρ none a w o r :=
  Yld.of he hr fun w' _ => hs w'

theorem y_build (hT : RT ρ T a.tmps) {t : TypeId} {ps : Array (Nat × Operand)} {place : Nat → Option (Nat × Nat)} {qs : List (Nat × Nat × AOpnd)} {zero : List AC} {z : Nat} (hz : cZero P t = some (z, zero)) (hp : cPlaces place ps.toList = some qs)
    (hrun : ∀ (zv : Value) (cs : Array Value), (∀ w', (zeroValue t).run P w' = .ok zv w') → Instr.fill place zv.cells (ps.toList.map fun (i, x) => (i, a.eval x)) = some cs → ∀ w', (Instr.build t (ps.map fun (i, x) => (i, a.eval x))).run P w' = .ok (.agg cs) w')
    (he : evOp callf T (.build zero qs) H = some (r, H')) : H' = H ∧ Yld P ρ none a w ⟨dst, .build t ps, ty, pos, after, guard⟩ r := by
  simp only [evOp] at he
  split at he
  · rename_i cs hf
    simp only [Option.some.injEq, Prod.mk.injEq] at he
    obtain ⟨rfl, rfl⟩ := he
    obtain ⟨i, zv, h1, h2, h3, h4, h5⟩ := cZero_spec hz
    obtain ⟨vs, hvs, hfill⟩ := fill_rel (a := a) hT hp (h5 ρ) hf
    refine ⟨rfl, Yld.plain (s := Instr.build t (ps.map fun (i, x) => (i, a.eval x))) (v := .agg vs.toArray) rfl ⟨vs, rfl, hvs⟩ fun w' => ?_⟩
    exact hrun zv vs.toArray (fun w => run_zero h1 h3 w) (by simpa using hfill) w'
  · cases he

theorem run_fieldPlaces (fs : Array Field) (h : sizesOk P fs = true) (w : World) : (fs.mapM fun f => do pure (f.offset, ← sizeOf f.type) : Sem (Array (Nat × Nat))).run P w = .ok (fs.map fun f => (f.offset, P.cellsOf f.type)) w := by
  rw [Array.mapM_eq_mapM_toList]
  have key : ∀ l : List Field, (∀ f ∈ l, (cSize P f.type).isSome = true) → (l.mapM fun f => do pure (f.offset, ← sizeOf f.type) : Sem (List (Nat × Nat))).run P w = .ok (l.map fun f => (f.offset, P.cellsOf f.type)) w := by
    intro l
    induction l with
    | nil => intro _; rfl
    | cons f l ih =>
      intro hl
      obtain ⟨z, hz⟩ := Option.isSome_iff_exists.1 (hl f (by simp))
      obtain ⟨i, hi, rfl⟩ := cSize_spec hz
      have ih' := ih (fun g hg => hl g (by simp [hg]))
      simp only [List.mapM_cons, Sem.run_bind, run_size hz, Result.andThen_ok, Sem.run_pure, ih', List.map_cons, Program.cellsOf, hi, Option.map_some, Option.getD_some]
  have hall : ∀ f ∈ fs.toList, (cSize P f.type).isSome = true := fun f hf => Array.all_eq_true_iff_forall_mem.1 h f (Array.mem_toList_iff.1 hf)
  simp only [Sem.run_map, key _ hall, Result.andThen_ok]
  congr 1
  apply Array.ext'
  simp

theorem fieldAtA_eq (fs : Array Field) (h : sizesOk P fs = true) (i : Nat) : (fs.map fun f => (f.offset, P.cellsOf f.type))[i]? = fieldAtA P fs i := by
  unfold fieldAtA
  rw [Array.getElem?_map]
  cases hf : fs[i]? with
  | none => rfl
  | some f =>
    obtain ⟨z, hz⟩ := Option.isSome_iff_exists.1 (Array.all_eq_true_iff_forall_mem.1 h f (Array.mem_of_getElem? hf))
    obtain ⟨j, hj, rfl⟩ := cSize_spec hz
    simp [hz, Program.cellsOf, hj]

theorem y_build_struct (hT : RT ρ T a.tmps) {t : TypeId} {ps : Array (Nat × Operand)} {fs : Array Field} {qs : List (Nat × Nat × AOpnd)} {zero : List AC} {z : Nat} (hz : cZero P t = some (z, zero)) (hu : P.underlying t = some (.struct fs)) (hs : sizesOk P fs = true)
    (hp : cPlaces (fieldAtA P fs) ps.toList = some qs) (he : evOp callf T (.build zero qs) H = some (r, H')) : H' = H ∧ Yld P ρ none a w ⟨dst, .build t ps, ty, pos, after, guard⟩ r := by
  refine y_build hT hz hp (fun zv cs hzv hfill w' => ?_) he
  have hfun : ((fs.map fun f => (f.offset, P.cellsOf f.type))[·]?) = fieldAtA P fs := funext fun i => fieldAtA_eq fs hs i
  simp only [Instr.build, Sem.run_bind, hzv, Result.andThen_ok, run_underlying hu, run_fieldPlaces fs hs]
  rw [hfun]
  simp [hfill]

theorem y_build_array (hT : RT ρ T a.tmps) {t e : TypeId} {n sz : Nat} {ps : Array (Nat × Operand)} {qs : List (Nat × Nat × AOpnd)} {zero : List AC} {z : Nat} (hz : cZero P t = some (z, zero)) (hu : P.underlying t = some (.array n e)) (hs : cSize P e = some sz)
    (hp : cPlaces (fun i => some (i * sz, sz)) ps.toList = some qs) (he : evOp callf T (.build zero qs) H = some (r, H')) : H' = H ∧ Yld P ρ none a w ⟨dst, .build t ps, ty, pos, after, guard⟩ r := by
  refine y_build hT hz hp (fun zv cs hzv hfill w' => ?_) he
  simp only [Instr.build, Sem.run_bind, hzv, Result.andThen_ok, run_underlying hu, run_size hs]
  simp [hfill]

theorem y_nilCheck (hT : RT ρ T a.tmps) {x : Operand} {y : AOpnd} (hx : cO x = some y) (he : evOp callf T (.nilCheck y) H = some (r, H')) : H' = H ∧ Yld P ρ none a w ⟨dst, .nilCheck x, ty, pos, after, guard⟩ r := by
  simp only [evOp] at he
  split at he
  · rename_i b o hb
    simp only [Option.some.injEq, Prod.mk.injEq] at he
    obtain ⟨rfl, rfl⟩ := he
    have hr := evC_rel hT hx hb
    obtain ⟨c, m, hc, hv⟩ := id hr
    exact ⟨rfl, _, hr, fun w' _ => by simp [execOp, hv]⟩
  · rename_i f caps hb
    simp only [Option.some.injEq, Prod.mk.injEq] at he
    obtain ⟨rfl, rfl⟩ := he
    have hr := evC_rel hT hx hb
    obtain ⟨vs, hv, _⟩ := id hr
    exact ⟨rfl, _, hr, fun w' _ => by simp [execOp, hv]⟩
  · cases he

def known (x : AC) : Bool :=
  match x with
  | .any => false
  | .arg _ => false
  | _ => true

theorem binC_known {op : BinOp} {x y z : AC} (h : binC op x y = some z) : known x = true := by
  cases x <;> cases y <;> first | rfl | (simp [binC, intS] at h; done)

theorem RC.notIface {x : AC} {v : Value} (hk : known x = true) (h : RC ρ x v) : v ≠ .nilIface ∧ ∀ cs, v ≠ .agg cs := by
  have h1 := h.one
  cases x <;> simp only [RC, RPtr] at h
  case flt => obtain ⟨n, _, rfl⟩ := h; simp
  case cpx => obtain ⟨n, m, _, _, rfl⟩ := h; simp
  case ptr => obtain ⟨c, m, _, rfl⟩ := h; simp
  case sl => obtain ⟨c, m, k, _, rfl, _⟩ := h; simp
  case osl => obtain ⟨c, m, k, _, rfl, _⟩ := h; simp
  case map => obtain ⟨c, m, _, rfl⟩ := h; simp
  case fn => obtain ⟨vs, rfl, _⟩ := h; simp
  case si => obtain ⟨rfl, _⟩ := h; simp
  case fb => obtain ⟨rfl, _⟩ := h; simp
  case xs => obtain ⟨c, m, _, rfl, _⟩ := h; simp
  case fp => obtain ⟨c, m, _, rfl, _⟩ := h; simp
  case arg => cases hk
  case any => cases hk
  all_goals (subst h; simp)

theorem exec_bin (op : BinOp) (t yt : TypeId) (x y : Operand) : execOp a.eval ⟨dst, .binOp op t x y yt, ty, pos, after, guard⟩ = (do pure (.value (← (do eqGuard op t x y (a.eval x) (a.eval y); binOp op t (a.eval x) (a.eval y))))) := rfl

theorem y_bin (hT : RT ρ T a.tmps) {op : BinOp} {t yt : TypeId} {x y : Operand} {x' y' : AOpnd} (hx : cO x = some x') (hy : cO y = some y') (he : evOp callf T (.bin op x' y') H = some (r, H')) :
    H' = H ∧ (Yld P ρ none a w ⟨dst, .binOp op t x y yt, ty, pos, after, guard⟩ r ∨
      (drewNan (.bin op x' y') r = true ∧ ∀ w, ∃ q w', R1 ρ r q ∧ Drawn w w' ∧ (execOp a.eval ⟨dst, .binOp op t x y yt, ty, pos, after, guard⟩).run P w = .ok (.value q) w')) := by
  simp only [evOp] at he
  split at he
  · rename_i p q hp hq
    obtain ⟨z, hz, rfl, rfl⟩ := some1_spec he
    have hu := evC_rel hT hx hp
    have hv := evC_rel hT hy hq
    have hg := fun w => eqGuard_plain (P := P) (op := op) (t := t) (x := x) (y := y) (v := a.eval y) (hu.notIface (binC_known hz)).1 (hu.notIface (binC_known hz)).2 w
    refine ⟨rfl, ?_⟩
    rcases run_binC (P := P) hz hu hv t with ⟨v, h1, h2⟩ | ⟨hn, h2⟩
    · exact .inl (Yld.plain (exec_bin op t yt x y) h1 fun w' => by simp [hg, h2])
    · refine .inr ⟨hn, fun w => ?_⟩
      obtain ⟨v, w', h3, h4, h5⟩ := h2 w
      exact ⟨v, w', h3, h4, by rw [exec_bin]; simp [hg, h5]⟩
  · cases he

theorem y_eqB (hT : RT ρ T a.tmps) {neg : Bool} {op : BinOp} (hop : op = if neg then .neq else .eql) {t yt : TypeId} {x y : Operand} {x' y' : AOpnd} (hu : P.underlying t = some .bool) (hx : cO x = some x') (hy : cO y = some y') (he : evOp callf T (.eqB neg x' y') H = some (r, H')) :
    H' = H ∧ Yld P ρ none a w ⟨dst, .binOp op t x y yt, ty, pos, after, guard⟩ r := by
  simp only [evOp] at he
  split at he
  · rename_i p q hp hq
    simp only [Option.some.injEq, Prod.mk.injEq] at he
    obtain ⟨rfl, rfl⟩ := he
    have hp' := evC_rel hT hx hp
    have hq' := evC_rel hT hy hq
    simp only [RC] at hp' hq'
    have hg := fun w => eqGuard_plain (P := P) (op := op) (t := t) (x := x) (y := y) (u := .bool p) (v := .bool q) (by simp) (by simp) w
    have he : ∀ w, (Op.equal t (.bool p) (.bool q)).run P w = .ok (p == q) w := fun w => run_equalIn_bool w 9999 t p q hu
    refine ⟨rfl, Yld.plain (v := .bool (xor neg (p == q))) (exec_bin op t yt x y) rfl fun w' => ?_⟩
    rw [hp', hq']
    simp only [Sem.run_bind, hg, Result.andThen_ok]
    subst hop
    cases neg <;> simp [binOp, he]
  · cases he

theorem y_eqA (hT : RT ρ T a.tmps) {neg : Bool} {op : BinOp} (hop : op = if neg then .neq else .eql) {t yt : TypeId} {n : Nat} {x y : Operand} {x' y' : AOpnd} (hi : cInts P t = some n) (hgd : P.eqGuardType P.depth t = false) (hx : cO x = some x') (hy : cO y = some y') (he : evOp callf T (.eqA neg n x' y') H = some (r, H')) :
    H' = H ∧ Yld P ρ none a w ⟨dst, .binOp op t x y yt, ty, pos, after, guard⟩ r := by
  simp only [evOp] at he
  split at he
  · rename_i p q hp hq
    cases hb : Nat.beq p.length n
    · rw [hb] at he; cases he
    · rw [hb, cond_true] at he
      split at he
      · rename_i b hs
        simp only [Option.some.injEq, Prod.mk.injEq] at he
        obtain ⟨rfl, rfl⟩ := he
        obtain ⟨vx, ex, hvx⟩ := evV_rel hT hx hp
        obtain ⟨vy, ey, hvy⟩ := evV_rel hT hy hq
        have hg := fun w => run_eqGuard_agg (P := P) w op t x y vx.toArray vy.toArray hgd
        have he : ∀ w, (Op.equalIn 10000 t (.agg vx.toArray) (.agg vy.toArray)).run P w = .ok b w := fun w => run_equal_arr hi 9998 hvx hvy (Nat.eq_of_beq_eq_true hb) hs w
        refine ⟨rfl, Yld.plain (v := .bool (xor neg b)) (exec_bin op t yt x y) rfl fun w' => ?_⟩
        rw [ex, ey]
        simp only [Sem.run_bind, hg, Result.andThen_ok]
        subst hop
        cases neg
        · simp only [Bool.false_eq_true, if_false, run_eql_struct, he, Result.andThen_ok, Bool.false_xor]
        · simp only [if_true, run_neq_struct, he, Result.andThen_ok, Bool.true_xor]
      · cases he
  · cases he

theorem run_equalIn_sliceNil (d : Nat) {t e : TypeId} (hu : P.underlying t = some (.slice e)) (base : Option Addr) (l k : Nat) (w : World) : (Op.equalIn (d + 1) t (.slice base l k) (.slice none 0 0)).run P w = .ok base.isNone w := by
  cases base <;> simp [Op.equalIn, run_underlying hu]

theorem y_isNil (hT : RT ρ T a.tmps) {neg : Bool} {op : BinOp} (hop : op = if neg then .neq else .eql) {t yt e : TypeId} {x y : Operand} {x' : AOpnd} (hu : P.underlying t = some (.slice e)) (hx : cO x = some x') (hy : a.eval y = .slice none 0 0) (he : evOp callf T (.isNil neg x') H = some (r, H')) :
    H' = H ∧ Yld P ρ none a w ⟨dst, .binOp op t x y yt, ty, pos, after, guard⟩ r := by
  have go : ∀ (base : Option Addr) (l k : Nat) (b : Bool), a.eval x = .slice base l k → base.isNone = b → Yld P ρ none a w ⟨dst, .binOp op t x y yt, ty, pos, after, guard⟩ (mk1 (.bool (xor neg b))) := fun base l k b hv hb => by
    have hg := fun w => eqGuard_plain (P := P) (op := op) (t := t) (x := x) (y := y) (u := .slice base l k) (v := .slice none 0 0) (by simp) (by simp) w
    have hq : ∀ w, (Op.equal t (.slice base l k) (.slice none 0 0)).run P w = .ok b w := fun w => by
      rw [← hb]
      exact run_equalIn_sliceNil 9999 hu base l k w
    refine Yld.plain (v := .bool (xor neg b)) (exec_bin op t yt x y) rfl fun w' => ?_
    rw [hv, hy]
    simp only [Sem.run_bind, hg, Result.andThen_ok]
    subst hop
    cases neg <;> simp [binOp, hq]
  simp only [evOp] at he
  split at he
  · rename_i hp
    simp only [Option.some.injEq, Prod.mk.injEq] at he
    obtain ⟨rfl, rfl⟩ := he
    exact ⟨rfl, go none 0 0 true (evC_rel hT hx hp) rfl⟩
  · rename_i b o l cap hp
    simp only [Option.some.injEq, Prod.mk.injEq] at he
    obtain ⟨rfl, rfl⟩ := he
    obtain ⟨c, m, k, _, hv, _⟩ := evC_rel hT hx hp
    exact ⟨rfl, go _ _ _ false hv rfl⟩
  · rename_i b l z hp
    simp only [Option.some.injEq, Prod.mk.injEq] at he
    obtain ⟨rfl, rfl⟩ := he
    obtain ⟨c, m, k, _, hv, _⟩ := evC_rel hT hx hp
    exact ⟨rfl, go _ _ _ false hv rfl⟩
  · cases he

theorem y_strAt (hT : RT ρ T a.tmps) {t : TypeId} {s : ByteArray} {i : Operand} {i' : AOpnd} (hu : P.underlying t = some .string) (hi : cO i = some i') (he : evOp callf T (.strAt (s.data.toList.map UInt8.toNat) i') H = some (r, H')) :
    H' = H ∧ Yld P ρ none a w ⟨dst, .index t (.const (.string s)) i, ty, pos, after, guard⟩ r := by
  simp only [evOp] at he
  split at he
  · rename_i k n hn
    split at he
    · rename_i h0
      split at he
      · rename_i b hb
        simp only [Option.some.injEq, Prod.mk.injEq] at he
        obtain ⟨rfl, rfl⟩ := he
        have hv : a.eval i = .int k n := evC_rel hT hi hn
        rw [List.getElem?_map, Option.map_eq_some_iff] at hb
        obtain ⟨u, hu', rfl⟩ := hb
        have hs : s[n.toNat]? = some u := by
          rw [Array.getElem?_toList] at hu'
          obtain ⟨hlt, e⟩ := Array.getElem?_eq_some_iff.1 hu'
          have hlt' : n.toNat < s.size := hlt
          rw [getElem?_pos s n.toNat hlt']
          exact congrArg some e
        refine ⟨rfl, Yld.plain (s := Instr.index t (.string s) (a.eval i)) (v := .int .u8 u.toNat) rfl rfl fun w' => ?_⟩
        rw [hv]
        simp [Instr.index, asIntOf, run_underlying hu, h0, hs]
      · cases he
    · cases he
  · cases he

theorem y_un (hT : RT ρ T a.tmps) {op : UnOp} {t : TypeId} {x : Operand} {x' : AOpnd} (hx : cO x = some x') (he : evOp callf T (.un op x') H = some (r, H')) : H' = H ∧ Yld P ρ none a w ⟨dst, .unOp op t x, ty, pos, after, guard⟩ r := by
  simp only [evOp] at he
  split at he
  · rename_i p hp
    obtain ⟨z, hz, rfl, rfl⟩ := some1_spec he
    obtain ⟨v, h1, h2⟩ := run_unC (P := P) hz (evC_rel hT hx hp)
    exact ⟨rfl, Yld.plain (s := Op.unary op (a.eval x)) rfl h1 h2⟩
  · cases he

theorem y_toInt (hT : RT ρ T a.tmps) {s d : TypeId} {k : IntKind} {ds : TypeDesc} {x : Operand} {x' : AOpnd} (hs : P.underlying s = some ds) (hd : P.underlying d = some (.int k)) (hx : cO x = some x') (he : evOp callf T (.toInt k x') H = some (r, H')) :
    H' = H ∧ Yld P ρ none a w ⟨dst, .convert s d x, ty, pos, after, guard⟩ r := by
  simp only [evOp] at he
  split at he
  · rename_i k' n hn
    simp only [Option.some.injEq, Prod.mk.injEq] at he
    obtain ⟨rfl, rfl⟩ := he
    have hv : a.eval x = .int k' n := evC_rel hT hx hn
    refine ⟨rfl, Yld.plain (s := convert s d (a.eval x)) (v := .int k (k.wrap n)) rfl rfl fun w' => ?_⟩
    rw [hv]
    simp [convert, run_underlying hs, run_underlying hd, Conv.intToInt]
  · rename_i k' n m r' hn
    split at he
    · rename_i hk
      subst hk
      simp only [Option.some.injEq, Prod.mk.injEq] at he
      obtain ⟨rfl, rfl⟩ := he
      obtain ⟨hv, htg⟩ := evC_rel (a := a) hT hx hn
      obtain ⟨t0, t1, _⟩ := id htg
      refine ⟨rfl, Yld.plain (s := convert s d (a.eval x)) (v := .int .i64 n) rfl ⟨rfl, htg⟩ fun w' => ?_⟩
      rw [hv]
      have hw : IntKind.i64.wrap n = n := by
        simp only [IntKind.wrap, IntKind.signed, IntKind.bits]
        have h1 : n % (2 ^ 64 : Int) = n := Int.emod_eq_of_lt t0 (by omega)
        have h2 : ¬ n ≥ (2 ^ (64 - 1) : Int) := by omega
        simp only [h1, h2, decide_false, Bool.and_false]
        rfl
      simp [convert, run_underlying hs, run_underlying hd, Conv.intToInt, hw]
    · cases he
  · rename_i k' n hn
    split at he
    · rename_i hk
      subst hk
      simp only [Option.some.injEq, Prod.mk.injEq] at he
      obtain ⟨rfl, rfl⟩ := he
      obtain ⟨hv, htg⟩ := evC_rel (a := a) hT hx hn
      obtain ⟨t0, t1⟩ := id htg
      refine ⟨rfl, Yld.plain (s := convert s d (a.eval x)) (v := .int .i64 n) rfl ⟨rfl, htg⟩ fun w' => ?_⟩
      rw [hv]
      have hw : IntKind.i64.wrap n = n := by
        simp only [IntKind.wrap, IntKind.signed, IntKind.bits]
        have h1 : n % (2 ^ 64 : Int) = n := Int.emod_eq_of_lt t0 (by omega)
        have h2 : ¬ n ≥ (2 ^ (64 - 1) : Int) := by omega
        simp only [h1, h2, decide_false, Bool.and_false]
        rfl
      simp [convert, run_underlying hs, run_underlying hd, Conv.intToInt, hw]
    · cases he
  · rename_i k' n hn
    split at he
    · rename_i hk
      subst hk
      simp only [Option.some.injEq, Prod.mk.injEq] at he
      obtain ⟨rfl, rfl⟩ := he
      obtain ⟨hv, htg⟩ := evC_rel (a := a) hT hx hn
      obtain ⟨t0, t1⟩ := id htg
      refine ⟨rfl, Yld.plain (s := convert s d (a.eval x)) (v := .int .i64 n) rfl ⟨rfl, htg⟩ fun w' => ?_⟩
      rw [hv]
      have hw : IntKind.i64.wrap n = n := by
        simp only [IntKind.wrap, IntKind.signed, IntKind.bits]
        by_cases h0 : 0 ≤ n
        · have h1 : n % (2 ^ 64 : Int) = n := Int.emod_eq_of_lt h0 (by omega)
          have h2 : ¬ n ≥ (2 ^ (64 - 1) : Int) := by omega
          simp only [h1, h2, decide_false, Bool.and_false]
          rfl
        · have h1 : n % (2 ^ 64 : Int) = n + 2 ^ 64 := by
            have h3 := Int.add_mul_emod_self_left n (2 ^ 64 : Int) 1
            have h4 : (n + 2 ^ 64 * 1) % (2 ^ 64 : Int) = n + 2 ^ 64 * 1 := Int.emod_eq_of_lt (by omega) (by omega)
            rw [h4] at h3
            omega
          have h2 : n + 2 ^ 64 ≥ (2 ^ (64 - 1) : Int) := by omega
          simp only [h1, h2, decide_true, Bool.and_self, if_true]
          omega
      simp [convert, run_underlying hs, run_underlying hd, Conv.intToInt, hw]
    · cases he
  · rename_i k' n hn
    split at he
    · rename_i hk
      subst hk
      simp only [Option.some.injEq, Prod.mk.injEq] at he
      obtain ⟨rfl, rfl⟩ := he
      obtain ⟨hv, htg⟩ := evC_rel (a := a) hT hx hn
      obtain ⟨⟨t0, t1⟩, _⟩ := id htg
      refine ⟨rfl, Yld.plain (s := convert s d (a.eval x)) (v := .int .i64 n) rfl ⟨rfl, htg⟩ fun w' => ?_⟩
      rw [hv]
      have hw : IntKind.i64.wrap n = n := by
        simp only [IntKind.wrap, IntKind.signed, IntKind.bits]
        by_cases h0 : 0 ≤ n
        · have h1 : n % (2 ^ 64 : Int) = n := Int.emod_eq_of_lt h0 (by omega)
          have h2 : ¬ n ≥ (2 ^ (64 - 1) : Int) := by omega
          simp only [h1, h2, decide_false, Bool.and_false]
          rfl
        · have h1 : n % (2 ^ 64 : Int) = n + 2 ^ 64 := by
            have h3 := Int.add_mul_emod_self_left n (2 ^ 64 : Int) 1
            have h4 : (n + 2 ^ 64 * 1) % (2 ^ 64 : Int) = n + 2 ^ 64 * 1 := Int.emod_eq_of_lt (by omega) (by omega)
            rw [h4] at h3
            omega
          have h2 : n + 2 ^ 64 ≥ (2 ^ (64 - 1) : Int) := by omega
          simp only [h1, h2, decide_true, Bool.and_self, if_true]
          omega
      simp [convert, run_underlying hs, run_underlying hd, Conv.intToInt, hw]
    · cases he
  · cases he

theorem y_toFlt (hT : RT ρ T a.tmps) {s d : TypeId} {ds : TypeDesc} {x : Operand} {x' : AOpnd} (hs : P.underlying s = some ds) (hd : P.underlying d = some (.float .f64)) (hx : cO x = some x') (he : evOp callf T (.toFlt x') H = some (r, H')) :
    H' = H ∧ Yld P ρ none a w ⟨dst, .convert s d x, ty, pos, after, guard⟩ r := by
  simp only [evOp] at he
  split at he
  · rename_i k' n hn
    simp only [Option.some.injEq, Prod.mk.injEq] at he
    obtain ⟨rfl, rfl⟩ := he
    have hv : a.eval x = .int k' n := evC_rel hT hx hn
    refine ⟨rfl, Yld.plain (s := convert s d (a.eval x)) (v := .float .f64 (FloatKind.f64.nearest n)) rfl ⟨_, rfl, rfl⟩ fun w' => ?_⟩
    rw [hv]
    simp [convert, run_underlying hs, run_underlying hd, Conv.intToFloat]
  · rename_i q hq
    simp only [Option.some.injEq, Prod.mk.injEq] at he
    obtain ⟨rfl, rfl⟩ := he
    obtain ⟨n, hn, hv⟩ := evC_rel hT hx hq
    refine ⟨rfl, Yld.plain (s := convert s d (a.eval x)) (v := .float .f64 n) rfl ⟨n, hn, rfl⟩ fun w' => ?_⟩
    rw [hv]
    simp [convert, run_underlying hs, run_underlying hd, Conv.floatToFloat]
  · rename_i k' n j hn
    simp only [Option.some.injEq, Prod.mk.injEq] at he
    obtain ⟨rfl, rfl⟩ := he
    obtain ⟨hv, htg⟩ := evC_rel (a := a) hT hx hn
    obtain ⟨t0, q, t1, t2⟩ := htg
    have hF : Fact ρ.X { id := j, np := 0, pos := false, bd := some (2 ^ 110), fm := none } (FloatKind.f64.nearest n) := by
      refine ⟨fun _ => t0.symm, fun h => absurd rfl h, Sv.nn_of (t0 ▸ t1), fun h => (by cases h), fun b hb => ?_, fun cs e h => (by cases h), fun h => absurd rfl h, fun h => absurd rfl h⟩
      simp only [Option.some.injEq] at hb
      subst hb
      refine ⟨q, t0 ▸ t1, ?_⟩
      have e : ((2 ^ 110 : Nat) : Rat) = Fl.p2 110 := (Fl.p2_nat 110).symm
      have e2 : Fl.p2 110 = Fl.p2 10 * U := Fl.p2_add 10 100
      have h1 := Rat.mul_le_mul_of_nonneg_right t2 (Rat.le_of_lt U_pos)
      have h2 := Rat.mul_le_mul_of_nonneg_left ρ.X.M1 (Rat.le_of_lt (Fl.p2_pos 110))
      rw [e, e2] at *
      grind
    refine ⟨rfl, Yld.plain (s := convert s d (a.eval x)) (v := .float .f64 (FloatKind.f64.nearest n)) rfl ⟨_, ⟨rfl, hF⟩, rfl⟩ fun w' => ?_⟩
    rw [hv]
    simp [convert, run_underlying hs, run_underlying hd, Conv.intToFloat]
  · rename_i k' n hn
    simp only [Option.some.injEq, Prod.mk.injEq] at he
    obtain ⟨rfl, rfl⟩ := he
    obtain ⟨hv, htg⟩ := evC_rel (a := a) hT hx hn
    obtain ⟨q, t1, t2⟩ := small_val n htg.1 htg.2
    have hF : Fact ρ.X { id := 0, np := 0, pos := false, bd := some (2 ^ 106), fm := none } (FloatKind.f64.nearest n) := by
      refine ⟨fun h => absurd rfl h, fun h => absurd rfl h, Sv.nn_of t1, fun h => (by cases h), fun b hb => ?_, fun cs e h => (by cases h), fun h => absurd rfl h, fun h => absurd rfl h⟩
      simp only [Option.some.injEq] at hb
      subst hb
      refine ⟨q, t1, ?_⟩
      have e : ((2 ^ 106 : Nat) : Rat) = Fl.p2 106 := (Fl.p2_nat 106).symm
      have e2 : Fl.p2 106 = Fl.p2 6 * U := Fl.p2_add 6 100
      have h1 := Rat.mul_le_mul_of_nonneg_right t2 (Rat.le_of_lt U_pos)
      have h2 := Rat.mul_le_mul_of_nonneg_left ρ.X.M1 (Rat.le_of_lt (Fl.p2_pos 106))
      rw [e, e2] at *
      grind
    refine ⟨rfl, Yld.plain (s := convert s d (a.eval x)) (v := .float .f64 (FloatKind.f64.nearest n)) rfl ⟨_, ⟨rfl, hF⟩, rfl⟩ fun w' => ?_⟩
    rw [hv]
    simp [convert, run_underlying hs, run_underlying hd, Conv.intToFloat]
  · cases he

theorem y_mkFn (hT : RT ρ T a.tmps) {f : Nat} {first caps : Array Operand} {xs : List AOpnd} (hf : first.toList = []) (hx : cOs caps.toList = some xs) (he : evOp callf T (.mkFn f xs) H = some (r, H')) :
    H' = H ∧ Yld P ρ none a w ⟨dst, .makeFunc (.func f) first caps, ty, pos, after, guard⟩ r := by
  simp only [evOp] at he
  split at he
  · rename_i ps hp
    simp only [Option.some.injEq, Prod.mk.injEq] at he
    obtain ⟨rfl, rfl⟩ := he
    have hrel := evCs_rel (a := a) hT hx hp
    have hfe : first = #[] := Array.ext' hf
    subst hfe
    refine ⟨rfl, Yld.plain (s := Instr.makeFunc (.func f) (Array.map a.eval #[]) (caps.map a.eval)) (v := .func (.func f) #[] (caps.map a.eval)) rfl ⟨(caps.map a.eval).toList, by rw [Array.toArray_toList], by simpa using hrel⟩ fun w' => ?_⟩
    simp [Instr.makeFunc]
  · cases he

theorem y_addr (hT : RT ρ T a.tmps) {t : TypeId} {fs : Array Field} {x : Operand} {x' : AOpnd} {i z : Nat} {f : Field} (hu : P.underlying t = some (.struct fs)) (hf : fs[i]? = some f) (hz : cSize P f.type = some (z + 1)) (hx : cO x = some x') (he : evOp callf T (.addr f.offset x') H = some (r, H')) :
    H' = H ∧ Yld P ρ none a w ⟨dst, .fieldAddr t x i, ty, pos, after, guard⟩ r := by
  simp only [evOp] at he
  split at he
  · rename_i b o hb
    simp only [Option.some.injEq, Prod.mk.injEq] at he
    obtain ⟨rfl, rfl⟩ := he
    obtain ⟨c, m, hc, hv⟩ := evC_rel hT hx hb
    refine ⟨rfl, Yld.plain (s := Instr.fieldAt t (a.eval x) i) (v := .pointer (some ⟨c, o + f.offset, none⟩)) rfl ⟨c, m, hc, rfl⟩ fun w' => ?_⟩
    rw [hv]
    simp [Instr.fieldAt, run_underlying hu, hf, Instr.sureAddr, fieldPlace, run_size hz, Addr.add_mk]
  · cases he

theorem y_field (hT : RT ρ T a.tmps) {t : TypeId} {fs : Array Field} {x : Operand} {x' : AOpnd} {i : Nat} {f : Field} {z : Option Nat} (hu : P.underlying t = some (.struct fs)) (hf : fs[i]? = some f) (hz : cShape P f.type = some z) (hx : cO x = some x') (he : evOp callf T (.field z f.offset x') H = some (r, H')) :
    H' = H ∧ Yld P ρ none a w ⟨dst, .field t x i, ty, pos, after, guard⟩ r := by
  simp only [evOp] at he
  split at he
  · rename_i xs hxs
    split at he
    · rename_i v hp
      simp only [Option.some.injEq, Prod.mk.injEq] at he
      obtain ⟨rfl, rfl⟩ := he
      obtain ⟨vs, hv, hvs⟩ := evV_rel hT hx hxs
      obtain ⟨q, h1, h2⟩ := run_partA (P := P) hz hvs hp
      refine ⟨rfl, Yld.plain (s := Instr.field t (a.eval x) i) (v := q) rfl h1 fun w' => ?_⟩
      rw [hv]
      simp [Instr.field, run_underlying hu, hf, asAgg, h2]
    · cases he
  · cases he

theorem y_index (hT : RT ρ T a.tmps) {t e : TypeId} {n sz : Nat} {x i : Operand} {x' i' : AOpnd} {z : Option Nat} (hu : P.underlying t = some (.array n e)) (hz : cShape P e = some z) (hs : cSize P e = some sz) (hx : cO x = some x') (hi : cO i = some i') (he : evOp callf T (.index z sz n x' i') H = some (r, H')) :
    H' = H ∧ Yld P ρ none a w ⟨dst, .index t x i, ty, pos, after, guard⟩ r := by
  simp only [evOp] at he
  split at he
  · rename_i xs k m hxs hm
    split at he
    · rename_i hb
      split at he
      · rename_i v hp
        simp only [Option.some.injEq, Prod.mk.injEq] at he
        obtain ⟨rfl, rfl⟩ := he
        obtain ⟨vs, hv, hvs⟩ := evV_rel hT hx hxs
        have hiv : a.eval i = .int k m := evC_rel hT hi hm
        obtain ⟨q, h1, h2⟩ := run_partA (P := P) hz hvs hp
        refine ⟨rfl, Yld.plain (s := Instr.index t (a.eval x) (a.eval i)) (v := q) rfl h1 fun w' => ?_⟩
        rw [hv, hiv]
        have h2' : ∀ w, (part e vs.toArray (m.toNat * sz)).run P w = .ok q w := h2
        simp [Instr.index, asIntOf, run_underlying hu, hb, run_size hs, h2']
      · cases he
    · cases he
  · cases he

theorem y_indexAddr_arr (hT : RT ρ T a.tmps) {t e : TypeId} {n z : Nat} {x i : Operand} {x' i' : AOpnd} (hu : P.underlying t = some (.array n e)) (hs : cSize P e = some z) (hx : cO x = some x') (hi : cO i = some i') (he : evOp callf T (.indexAddr z (some n) x' i') H = some (r, H')) :
    H' = H ∧ Yld P ρ none a w ⟨dst, .indexAddr t x i, ty, pos, after, guard⟩ r := by
  simp only [evOp] at he
  split at he
  · rename_i q k m hq hm
    cases q <;> simp only [] at he <;> first | (cases he; done) | skip
    rename_i b o
    split at he
    · rename_i hb
      simp only [Option.some.injEq, Prod.mk.injEq] at he
      obtain ⟨rfl, rfl⟩ := he
      obtain ⟨c, l, hc, hv⟩ := evC_rel hT hx hq
      have hiv : a.eval i = .int k m := evC_rel hT hi hm
      refine ⟨rfl, Yld.plain (s := Instr.indexAt t (a.eval x) (a.eval i)) (v := .pointer (some ⟨c, o + m.toNat * z, none⟩)) rfl ⟨c, l, hc, rfl⟩ fun w' => ?_⟩
      rw [hv, hiv]
      simp [Instr.indexAt, asIntOf, run_underlying hu, Instr.sureAddr, hb, run_size hs, Addr.add_mk]
    · cases he
  · cases he
  · cases he

theorem y_indexAddr_slice (hT : RT ρ T a.tmps) {t e : TypeId} {z : Nat} {x i : Operand} {x' i' : AOpnd} (hu : P.underlying t = some (.slice e)) (hs : cSize P e = some z) (hx : cO x = some x') (hi : cO i = some i') (he : evOp callf T (.indexAddr z none x' i') H = some (r, H')) :
    H' = H ∧ Yld P ρ none a w ⟨dst, .indexAddr t x i, ty, pos, after, guard⟩ r := by
  simp only [evOp] at he
  split at he
  · rename_i q k m hq hm
    have hiv : a.eval i = .int k m := evC_rel hT hi hm
    have run : ∀ (c o l cap : Nat) (w' : World), 0 ≤ m ∧ m < l → (Instr.indexAt t (.slice (some ⟨c, o, none⟩) l cap) (.int k m)).run P w' = .ok (.pointer (some ⟨c, o + m.toNat * z, none⟩)) w' := fun c o l cap w' hb => by
      simp [Instr.indexAt, asIntOf, run_underlying hu, hb, run_size hs, Addr.add_mk]
    cases q <;> simp only [] at he <;> first | (cases he; done) | skip
    · split at he
      · rename_i hb
        simp only [Option.some.injEq, Prod.mk.injEq] at he
        obtain ⟨rfl, rfl⟩ := he
        obtain ⟨c, l', k', hc, hv, _⟩ := evC_rel hT hx hq
        refine ⟨rfl, Yld.plain (s := Instr.indexAt t (a.eval x) (a.eval i)) (v := .pointer (some ⟨c, _, none⟩)) rfl ⟨c, l', hc, rfl⟩ fun w' => ?_⟩
        rw [hv, hiv]
        exact run _ _ _ _ _ hb
      · cases he
    · split at he
      · rename_i hb
        simp only [Option.some.injEq, Prod.mk.injEq] at he
        obtain ⟨rfl, rfl⟩ := he
        obtain ⟨c, l', k', hc, hv, _⟩ := evC_rel hT hx hq
        refine ⟨rfl, Yld.plain (s := Instr.indexAt t (a.eval x) (a.eval i)) (v := .pointer (some ⟨c, _, none⟩)) rfl ⟨c, l', hc, rfl⟩ fun w' => ?_⟩
        rw [hv, hiv]
        have := run c 0 _ k' w' hb
        simpa using this
      · cases he
  · rename_i b j n e0 k m j' i0 hq hm
    cases hb : Nat.beq j j' && Nat.beq z 1
    · rw [hb] at he; cases he
    · rw [hb, cond_true] at he
      simp only [Option.some.injEq, Prod.mk.injEq] at he
      obtain ⟨rfl, rfl⟩ := he
      simp only [Bool.and_eq_true] at hb
      have hj := Nat.eq_of_beq_eq_true hb.1
      have hz := Nat.eq_of_beq_eq_true hb.2
      subst hj; subst hz
      obtain ⟨c, l, hc, hv, _, hlen, he0⟩ := evC_rel (a := a) hT hx hq
      obtain ⟨hiv, ht, _⟩ := evC_rel (a := a) hT hi hm
      refine ⟨rfl, Yld.plain (s := Instr.indexAt t (a.eval x) (a.eval i)) (v := .pointer (some ⟨c, (ρ.X.fs j).1 + i0 % (ρ.X.fs j).2.1, none⟩)) rfl ⟨c, l, hc, rfl, hlen, by rw [he0]⟩ fun w' => ?_⟩
      rw [hv, hiv]
      have hlt := Nat.mod_lt i0 hlen
      have hbnd : 0 ≤ m ∧ m < ((ρ.X.fs j).2.1 : Int) := by rw [ht]; omega
      have hmn : m.toNat = i0 % (ρ.X.fs j).2.1 := by rw [ht]; rfl
      simp [Instr.indexAt, asIntOf, run_underlying hu, hbnd, run_size hs, Addr.add_mk, hmn]
  · cases he

theorem y_extract (hT : RT ρ T a.tmps) {x : Operand} {x' : AOpnd} {i : Nat} (hx : cO x = some x') (he : evOp callf T (.extract i x') H = some (r, H')) : H' = H ∧ Yld P ρ none a w ⟨dst, .extract x i, ty, pos, after, guard⟩ r := by
  simp only [evOp] at he
  split at he
  · rename_i xs hxs
    split at he
    · rename_i v hv
      simp only [Option.some.injEq, Prod.mk.injEq] at he
      obtain ⟨rfl, rfl⟩ := he
      obtain ⟨vs, e, hvs⟩ := ev_rel (a := a) hT hx hxs
      obtain ⟨q, h1, h2⟩ := All2.get hvs hv
      refine ⟨rfl, Yld.plain (s := Instr.extract (a.eval x) i) (v := q) rfl h2 fun w' => ?_⟩
      rw [e]
      simp [Instr.extract, h1]
    · cases he
  · cases he
end
end Go.Sv
