/-
  append and copy: what the model's own words do where the evaluator's memory stands to the model's. No conditions.
-/
import Derived.Test.YtfgkhpoibfbnkaaGreatEvD
namespace Go.Ev

section
variable {P : Program} {ρ : Rho} {H : AH} {w : World}

theorem RH.congr {H' : AH} (h : RH ρ H w) (hg : ∀ i, H'.t.get i = H.t.get i) (hn : H'.n = H.n) : RH ρ H' w :=
  ⟨fun i o hi => h.blk i o (hg i ▸ hi), fun i j o o' c m m' hi hj => h.inj i j o o' c m m' (hg i ▸ hi) (hg j ▸ hj), fun i hi => h.fresh i (hn ▸ hi)⟩

theorem Wr.congr {H' : AH} {c : Nat} (hg : ∀ i, H'.t.get i = H.t.get i) (hp : H'.p = H.p) (h : Wr ρ H' c) : Wr ρ H c := by
  obtain ⟨i, o, m, h1, h2, h3⟩ := h
  exact ⟨i, o, m, hg i ▸ h1, hp ▸ h2, h3⟩

theorem Lv.congr {H' : AH} {c : Nat} (hg : ∀ i, H'.t.get i = H.t.get i) (h : Lv ρ H' c) : Lv ρ H c := by
  obtain ⟨i, o, m, h1, h3⟩ := h
  exact ⟨i, o, m, hg i ▸ h1, h3⟩

theorem St.congr {ρ' : Rho} {H₁ H₂ : AH} {w' : World} (h : St ρ H w ρ' H₁ w') (hg : ∀ i, H₂.t.get i = H₁.t.get i) (hn : H₂.n = H₁.n) (hp : H₂.p = H₁.p) : St ρ H w ρ' H₂ w' :=
  ⟨h.ext, h.rh.congr hg hn, hp.trans h.p, h.frame, fun c hc => h.own c (hc.congr hg hp), fun c hc => h.live c (hc.congr hg), h.os, h.tape, h.output, h.size⟩

/-- A block is given up. -/
def drop (H : AH) (b : Nat) : AH := { t := H.t.put b none, n := H.n, p := H.p }

theorem drop_get (b i : Nat) : (drop H b).t.get i = if b = i then none else H.t.get i := Tr.get_put _ _ _ _

theorem drop_some {b i : Nat} {o : AO} (h : (drop H b).t.get i = some o) : b ≠ i ∧ H.t.get i = some o := by
  rw [drop_get] at h
  split at h
  · cases h
  · exact ⟨‹_›, h⟩

theorem RH.drop (h : RH ρ H w) (b : Nat) : RH ρ (drop H b) w :=
  ⟨fun i o hi => h.blk i o (drop_some hi).2, fun i j o o' c m m' hi hj => h.inj i j o o' c m m' (drop_some hi).2 (drop_some hj).2, h.fresh⟩

theorem St.drop (h : RH ρ H w) (b : Nat) : St ρ H w ρ (Ev.drop H b) w :=
  ⟨Ext.refl ρ, h.drop b, rfl, fun _ _ _ => rfl, fun _ ⟨i, o, m, h1, h2, h3⟩ => .inr ⟨i, o, m, (drop_some h1).2, h2, h3⟩, fun _ ⟨i, o, m, h1, h3⟩ => .inr ⟨i, o, m, (drop_some h1).2, h3⟩, rfl, rfl, rfl, Nat.le_refl _⟩

/-- A block gets another number. -/
theorem St.rename (h : RH ρ H w) {b c m : Nat} {o : AO} (hb : H.t.get b = some o) (hp : memN H.p b = false) (hc : ρ b = some (c, m)) :
    St ρ H w (up ρ H.n (c, m)) ((Ev.drop H b).new o) w := by
  have hn : ρ H.n = none := h.fresh _ (Nat.le_refl _)
  obtain ⟨c', m', obj, h1, h2, h3⟩ := h.blk b o hb
  rw [hc] at h1
  obtain ⟨rfl, rfl⟩ : c = c' ∧ m = m' := by simpa using h1
  refine ⟨up_ext hn, (h.drop b).bind h2 h3 (fun i o' m' hi e => ?_), by rw [AH.new_eq]; rfl, fun _ _ _ => rfl, fun k hk => .inr ?_, fun k hk => .inr ?_, rfl, rfl, rfl, Nat.le_refl _⟩
  · obtain ⟨hne, hi'⟩ := drop_some hi
    exact hne (h.inj b i _ _ _ _ _ hb hi' hc e)
  · obtain ⟨i, o', m', hi, hip, hci⟩ := hk
    rw [AH.new_eq] at hi hip
    simp only [Tr.get_put] at hi
    unfold up at hci
    by_cases e : i = H.n
    · rw [if_pos e] at hci
      obtain ⟨rfl, rfl⟩ : c = k ∧ m = m' := by simpa using hci
      exact ⟨b, o, m, hb, memN_false.1 hp, hc⟩
    · rw [if_neg e] at hci
      rw [if_neg (fun e' => e e'.symm)] at hi
      exact ⟨i, o', m', (drop_some hi).2, hip, hci⟩
  · obtain ⟨i, o', m', hi, hci⟩ := hk
    rw [AH.new_eq] at hi
    simp only [Tr.get_put] at hi
    unfold up at hci
    by_cases e : i = H.n
    · rw [if_pos e] at hci
      obtain ⟨rfl, rfl⟩ : c = k ∧ m = m' := by simpa using hci
      exact ⟨b, o, m, hb, hc⟩
    · rw [if_neg e] at hci
      rw [if_neg (fun e' => e e'.symm)] at hi
      exact ⟨i, o', m', (drop_some hi).2, hci⟩

theorem run_lenOf {x : AC} {v : Value} {n : Nat} (hn : lenOf x = some n) (hv : RC ρ x v) (w : World) : (Builtin.lenOf v).run P w = .ok n w := by
  cases x <;> simp [lenOf] at hn <;> simp only [RC] at hv
  · subst hn; subst hv; rfl
  · subst hn; obtain ⟨c, m, k, _, rfl, _⟩ := hv; rfl
  · subst hn; obtain ⟨c, m, k, _, rfl, _⟩ := hv; rfl

/-- The block that a slice stands in. -/
def baseOf : AC → Option Nat
  | .sl b _ _ _ => some b
  | .osl b _ _ => some b
  | _ => none

theorem run_firsts (h : RH ρ H w) {z n : Nat} {x : AC} {v : Value} {xs : List AC} (hf : firsts H z n x = some xs) (hv : RC ρ x v) :
    ∃ vs : List Value, RCs ρ xs vs ∧ vs.length = n * z ∧ ∀ w' : World, (∀ b c m, baseOf x = some b → ρ b = some (c, m) → w'.heap[c]? = w.heap[c]?) → (Builtin.firstCells z n v).run P w' = .ok vs.toArray w' := by
  cases x <;> simp only [firsts] at hf <;> simp only [RC] at hv
  case nils =>
    subst hv
    cases hb : Nat.beq n 0
    · rw [hb] at hf; cases hf
    · rw [hb] at hf
      simp at hf
      subst hf
      have := Nat.eq_of_beq_eq_true hb
      subst this
      exact ⟨[], .nil, by simp, fun w' _ => rfl⟩
  case sl b o l cap =>
    obtain ⟨c, m, k, hc, rfl, _⟩ := hv
    cases hb : Nat.ble n l
    · rw [hb] at hf; cases hf
    · rw [hb, cond_true] at hf
      obtain ⟨vs, h1, h2, h3⟩ := run_read (P := P) h hf hc
      exact ⟨vs, h1, h2, fun w' hw => h3 w' (hw b c m rfl hc)⟩
  case osl b l z' =>
    obtain ⟨c, m, k, hc, rfl, _⟩ := hv
    cases hb : Nat.ble n l && Nat.beq z z'
    · rw [hb] at hf; cases hf
    · rw [hb, cond_true] at hf
      obtain ⟨vs, h1, h2, h3⟩ := run_read (P := P) h hf hc
      exact ⟨vs, h1, h2, fun w' hw => h3 w' (hw b c m rfl hc)⟩
  all_goals cases hf

theorem growBy_le (n : Nat) : ∀ (r c : Nat), Builtin.growBy n r c ≤ max c (n + (n + 768) / 4)
  | 0, c => Nat.le_max_left _ _
  | r + 1, c => by
    simp only [Builtin.growBy]
    split
    · exact Nat.le_max_left _ _
    · refine Nat.le_trans (growBy_le n r _) ?_
      have : c + (c + 768) / 4 ≤ n + (n + 768) / 4 := by omega
      omega

theorem nextslicecap_le {n c : Nat} (h : c < n) : Builtin.nextslicecap n c ≤ 2 * n + 1000 := by
  unfold Builtin.nextslicecap
  split
  · omega
  · split
    · omega
    · have := growBy_le n 4 c
      omega

theorem room_spec {bytes n : Nat} (h : room bytes n = true) : n ≤ 2 ^ 40 ∧ (2 * n + 1000) * bytes ≤ 2 ^ 48 := by
  unfold room at h
  rw [Bool.and_eq_true] at h
  exact ⟨Nat.le_of_ble_eq_true h.1, Nat.le_of_ble_eq_true h.2⟩

theorem zeroCells_length (zero : Array Value) (n : Nat) : (Builtin.zeroCells zero n).toList.length = n * zero.size := by
  simp [Builtin.zeroCells]

section
variable {t u e ty : TypeId} {i : TypeInfo} {zv : Value} {z : Nat}

/-- The append that makes a new array. -/
theorem run_grow (ht : P.underlying t = some (.slice e)) {e' : TypeId} (hu : P.underlying u = some (.slice e')) (hi : P.info? e = some i) (hz : i.size = z) (hzero : i.zero = some zv) (hzs : zv.cells.size = z)
    {base : Option Addr} {l k n : Nat} {vx : Value} {old new : List Value} (hk : k < l + n) (hroom : room i.bytes (l + n) = true) (hlen : ∀ w', (Builtin.lenOf vx).run P w' = .ok n w')
    (hold : (Builtin.firstCells z l (.slice base l k)).run P w.drew = .ok old.toArray w.drew) (hnew : (Builtin.firstCells z n vx).run P w.drew = .ok new.toArray w.drew)
    (hol : old.length = l * z) (hnl : new.length = n * z) :
    ∃ (cap : Nat) (arr : Array Value) (rest : List Value), (Builtin.append_ #[t, u] ty #[.slice base l k, vx]).run P w = .ok (.slice (some ⟨w.heap.size, 0, none⟩) (l + n) cap) (w.drew.alloc (.cells arr e)) ∧
      l + n ≤ cap ∧ arr.size = cap * z ∧ arr.toList = (old ++ new) ++ rest := by
  obtain ⟨h1, h2⟩ := room_spec hroom
  have hcap := nextslicecap_le hk
  have hbig : ¬ Builtin.nextslicecap (l + n) k * i.bytes > 2 ^ 48 := by
    have := Nat.mul_le_mul_right i.bytes hcap
    omega
  have hmax : ¬ ((l + n : Nat) : Int) > IntKind.i64.max := by
    simp only [IntKind.max, IntKind.signed, IntKind.bits]
    omega
  generalize hq : Question.cut (.appendCap (l + n) k e) (w.tape w.drawn (.appendCap (l + n) k e)) = cap
  have hc : l + n ≤ cap := by rw [← hq]; simp [Question.cut]
  refine ⟨cap, old.toArray ++ new.toArray ++ Builtin.zeroCells zv.cells (cap - (l + n)), (Builtin.zeroCells zv.cells (cap - (l + n))).toList, ?_, hc, ?_, by simp⟩
  · have hne : ¬ l + n ≤ k := by omega
    simp only [Builtin.append_, List.getElem?_toArray, List.getElem?_cons_zero, List.getElem?_cons_succ, Sem.run_bind, run_underlying ht, run_underlying hu, Result.andThen_ok, sizeOf, typeInfo, run_program, hi, Sem.run_pure, hz, Bool.false_eq_true,
      if_false, hlen, hne, Bool.not_false, if_true, hbig, run_choose, Question.forced, hq, run_askRoom, zeroValue, hzero, newRow, run_newObj, gt_iff_lt, World.drew_eq, hold, hnew, Sem.run_ite]
    rw [if_neg (fun h => hmax h.1)]
    rfl
  · simp [Builtin.zeroCells, hol, hnl, hzs, ← Nat.add_mul]
    congr 1
    omega

/-- append(s, x...). -/
theorem run_append (ht : P.underlying t = some (.slice e)) {e' : TypeId} (hu : P.underlying u = some (.slice e')) (hi : P.info? e = some i) (hz : i.size = z) (hzero : i.zero = some zv) {zero : List AC} (hzs : zv.cells.size = zero.length)
    (h : RH ρ H w) {s x : AC} {vs vx : Value} (hs : RC ρ s vs) (hx : RC ρ x vx) {r : AT} {H' : AH} (ha : appendA H z zero i.bytes s x = some (r, H')) :
    ∃ v w' ρ', (Builtin.append_ #[t, u] ty #[vs, vx]).run P w = .ok v w' ∧ St ρ H w ρ' H' w' ∧ R1 ρ' r v := by
  unfold appendA at ha
  split at ha
  · cases ha
  rename_i n hn
  split at ha
  · cases ha
  rename_i new hnew
  cases hzz : Nat.beq zero.length z && Nat.ble 1 z
  · rw [hzz] at ha; cases ha
  rw [hzz, cond_true] at ha
  rw [Bool.and_eq_true] at hzz
  have hzl : zero.length = z := Nat.eq_of_beq_eq_true hzz.1
  have hz1 : 1 ≤ z := Nat.le_of_ble_eq_true hzz.2
  rw [hzl] at hzs
  obtain ⟨vals, hvals, hvlen, hrunx⟩ := run_firsts (P := P) h hnew hx
  have hlen := run_lenOf (P := P) hn hx
  have hnl : new.length = n * z := by rw [hvals.length, hvlen]
  have fit : ∀ (base : Option Addr) (l k : Nat), l + n ≤ k → (Builtin.append_ #[t, u] ty #[.slice base l k, vx]).run P w =
      (match base with | some a => (storeCells (a.add (l * z)) vals).run P w | none => .ok () w).andThen fun _ w' => .ok (.slice base (l + n) k) w' := fun base l k hk => by
    simp only [Builtin.append_, List.getElem?_toArray, List.getElem?_cons_zero, List.getElem?_cons_succ, Sem.run_bind, run_underlying ht, run_underlying hu, Result.andThen_ok, sizeOf, typeInfo, run_program, hi, Sem.run_pure, hz, Bool.false_eq_true,
      if_false, hlen, hk, Bool.not_false, if_true, hrunx w (fun _ _ _ _ _ => rfl)]
    cases base <;> simp
  have grow : ∀ (base : Option Addr) (l k : Nat) (old : List AC) (ov : List Value) (H₁ : AH) (hH₁ : RH ρ H₁ w), k < l + n → room i.bytes (l + n) = true → RCs ρ old ov → old.length = l * z →
      (Builtin.firstCells z l (.slice base l k)).run P w.drew = .ok ov.toArray w.drew →
      ∃ v w' ρ', (Builtin.append_ #[t, u] ty #[.slice base l k, vx]).run P w = .ok v w' ∧ St ρ H₁ w ρ' (H₁.new (.cells (old ++ new) false)) w' ∧ R1 ρ' (mk1 (.osl H₁.n (l + n) z)) v := by
    intro base l k old ov H₁ hH₁ hk hroom hold hol hrun
    obtain ⟨cap, arr, rest, hr, hc, hsz, hls⟩ := run_grow (ty := ty) (vx := vx) ht hu hi hz hzero hzs hk hroom hlen hrun (hrunx _ (fun _ _ _ _ _ => rfl)) (by rw [← hold.length, hol]) hvlen
    have hst := St.new (o := .cells (old ++ new) false) (m := cap * z) (obj := .cells arr e) hH₁.drew ⟨arr, e, ov ++ vals, rest, rfl, hsz, hls, hold.append hvals, by simp⟩
    refine ⟨_, _, _, hr, ⟨hst.ext, hst.rh, hst.p, hst.frame, hst.own, hst.live, hst.os, hst.tape, hst.output, hst.size⟩, ?_⟩
    exact ⟨w.heap.size, cap * z, cap, by simp [up], rfl, hc, Nat.le_refl _⟩
  cases s <;> (try dsimp only at ha) <;> simp only [RC] at hs
  case nils =>
    subst hs
    cases hb : Nat.beq n 0
    · rw [hb, cond_false] at ha
      cases hroom : room i.bytes n
      · rw [hroom] at ha; cases ha
      · rw [hroom, cond_true] at ha
        simp at ha
        obtain ⟨rfl, rfl⟩ := ha
        have hne : n ≠ 0 := fun e0 => by subst e0; simp at hb
        obtain ⟨v, w', ρ', h1, h2, h3⟩ := grow none 0 0 [] [] H h (by omega) (by simpa using hroom) .nil (by simp) (by rfl)
        simp only [Nat.zero_add, List.nil_append] at h1 h2 h3
        exact ⟨v, w', ρ', h1, h2, h3⟩
    · rw [hb, cond_true] at ha
      simp at ha
      obtain ⟨rfl, rfl⟩ := ha
      have := Nat.eq_of_beq_eq_true hb
      subst this
      exact ⟨_, _, ρ, fit none 0 0 (by omega), St.refl h, rfl⟩
  case sl b o l cap =>
    obtain ⟨c, m, k, hc, rfl, hlk, hcap⟩ := hs
    cases cap with
    | none => cases ha
    | some cap =>
      have := hcap cap rfl
      subst this
      simp only [] at ha
      cases hb : Nat.ble (Nat.add l n) k
      · rw [hb, cond_false] at ha
        cases hroom : room i.bytes (Nat.add l n) && Nat.ble l k
        · rw [hroom] at ha; cases ha
        · rw [hroom, cond_true] at ha
          rw [Bool.and_eq_true] at hroom
          split at ha
          · rename_i old hold
            simp at ha
            obtain ⟨rfl, rfl⟩ := ha
            have hlt : k < l + n := by
              rcases Nat.lt_or_ge k (l + n) with h' | h'
              · exact h'
              · have hb' : Nat.ble (l + n) k = true := Nat.ble_eq ▸ h'
                exact absurd (hb.symm.trans hb') (by simp)
            obtain ⟨ov, h1, h2, h3⟩ := run_read (P := P) h hold hc
            exact grow (some ⟨c, o, none⟩) l k old ov H h hlt hroom.1 h1 (by rw [h1.length, h2]; rfl) (h3 w.drew rfl)
          · cases ha
      · rw [hb, cond_true] at ha
        have hle := Nat.le_of_ble_eq_true hb
        split at ha
        · rename_i H₁ hw
          simp at ha
          obtain ⟨rfl, rfl⟩ := ha
          obtain ⟨w', hr, hst⟩ := run_write (P := P) h hw hc hvals
          refine ⟨.slice (some ⟨c, o, none⟩) (l + n) k, w', ρ, (fit (some ⟨c, o, none⟩) l k hle).trans ?_, hst, ?_⟩
          · simp only [Addr.add_mk]
            rw [show (Nat.add o (Nat.mul l z)) = o + l * z from rfl] at hr
            rw [hr]
            rfl
          · exact ⟨c, m, k, hc, rfl, hle, fun k' hk' => by simpa using hk'⟩
        · cases ha
  case osl b l z' =>
    obtain ⟨c, m, k, hc, rfl, hlk, hkm⟩ := hs
    cases hroom : Nat.beq z z' && room i.bytes (Nat.add l n)
    · rw [hroom] at ha; cases ha
    rw [hroom, cond_true] at ha
    rw [Bool.and_eq_true] at hroom
    have hzz' := Nat.eq_of_beq_eq_true hroom.1
    subst hzz'
    cases hp : memN H.p b
    · rw [hp, cond_false] at ha
      split at ha
      · rename_i old hb
        cases hol : Nat.beq old.length (Nat.mul l z)
        · rw [hol] at ha; cases ha
        rw [hol, cond_true] at ha
        simp at ha
        obtain ⟨rfl, rfl⟩ := ha
        have holl : old.length = l * z := Nat.eq_of_beq_eq_true hol
        by_cases hle : l + n ≤ k
        · -- in place
          have hroomy : old.length + new.length ≤ m := by
            rw [holl, hnl, ← Nat.add_mul]
            exact Nat.le_trans (Nat.mul_le_mul_right z hle) hkm
          obtain ⟨w', hr, hst⟩ := run_write_at (P := P) (off := old.length) (cs' := old ++ new) h hb hp hc hvals hroomy (Nat.le_refl _) (by simp)
          have hst2 := St.rename (b := b) (o := .cells (old ++ new) false) hst.rh (by rw [Tr.get_put, if_pos rfl]) hp hc
          have hst3 := hst.trans hst2
          refine ⟨.slice (some ⟨c, 0, none⟩) (l + n) k, w', _, (fit (some ⟨c, 0, none⟩) l k hle).trans ?_, hst3.congr (fun i => ?_) ?_ ?_, ?_⟩
          · simp only [Addr.add_mk, Nat.zero_add]
            rw [← holl, hr]
            rfl
          · simp only [AH.new_eq, Ev.drop, Tr.get_put]
            split
            · rfl
            · split <;> rfl
          · simp [AH.new_eq, Ev.drop]
          · simp [AH.new_eq, Ev.drop]
          · refine ⟨c, m, k, by simp [up], rfl, hle, hkm⟩
        · obtain ⟨arr, e1, pre, rest, g1, g2, g3, g4, g5⟩ := h.cells hb hc
          have hcut : H.read b 0 (l * z) = some old := by
            unfold AH.read
            rw [hb]
            have hh : ∀ cs : List AC, cut cs 0 cs.length = some cs := fun cs => by
              induction cs with
              | nil => rfl
              | cons a cs ih => simp [cut, ih]
            simp only []
            rw [← holl, hh]
          obtain ⟨ov, h1, h2, h3⟩ := run_read (P := P) h hcut hc
          obtain ⟨v, w', ρ', q1, q2, q3⟩ := grow (some ⟨c, 0, none⟩) l k old ov (Ev.drop H b) (h.drop b) (by omega) hroom.2 h1 holl (h3 w.drew rfl)
          refine ⟨v, w', ρ', q1, (St.drop h b).trans q2, q3⟩
      · cases ha
    · rw [hp] at ha; cases ha
  all_goals cases ha

/-- copy(d, x). -/
theorem run_copy (ht : P.underlying t = some (.slice e)) (hi : P.info? e = some i) (hz : i.size = z) (h : RH ρ H w) {d x : AC} {vd vx : Value} (hd : RC ρ d vd) (hx : RC ρ x vx) {r : AT} {H' : AH}
    (ha : copyA H z d x = some (r, H')) :
    ∃ v w', (Builtin.copy_ #[t, u] ty #[vd, vx]).run P w = .ok v w' ∧ St ρ H w ρ H' w' ∧ R1 ρ r v := by
  unfold copyA at ha
  split at ha
  · rename_i l m hl hm
    simp only [] at ha
    split at ha
    · cases ha
    rename_i new hnew
    obtain ⟨vals, hvals, hvlen, hrunx⟩ := run_firsts (P := P) h hnew hx
    have hlen := run_lenOf (P := P) hm hx
    have go : ∀ (base : Option Addr) (k : Nat), (Builtin.copy_ #[t, u] ty #[.slice base l k, vx]).run P w =
        (match base with | some a => (storeCells a vals).run P w | none => .ok () w).andThen fun _ w' => .ok (goInt (Nat.min m l)) w' := fun base k => by
      simp only [Builtin.copy_, List.getElem?_toArray, List.getElem?_cons_zero, List.getElem?_cons_succ, Sem.run_bind, run_underlying ht, Result.andThen_ok, sizeOf, typeInfo, run_program, hi, Sem.run_pure, hz, hlen, hrunx w (fun _ _ _ _ _ => rfl)]
      cases base <;> simp
    cases d <;> (try dsimp only at ha) <;> simp only [RC] at hd
    case nils =>
      subst hd
      simp at ha
      obtain ⟨rfl, rfl⟩ := ha
      simp [lenOf] at hl
      subst hl
      exact ⟨_, _, go none 0, St.refl h, rfl⟩
    case sl b o l' cap =>
      obtain ⟨c, m', k, hc, rfl, _⟩ := hd
      simp [lenOf] at hl
      subst hl
      split at ha
      · rename_i H₁ hw
        simp at ha
        obtain ⟨rfl, rfl⟩ := ha
        obtain ⟨w', hr, hst⟩ := run_write (P := P) h hw hc hvals
        exact ⟨_, w', (go (some ⟨c, o, none⟩) k).trans (by simp only [hr]; rfl), hst, rfl⟩
      · cases ha
    case osl b l' z' =>
      obtain ⟨c, m', k, hc, rfl, _⟩ := hd
      simp [lenOf] at hl
      subst hl
      split at ha
      · rename_i H₁ hw
        simp at ha
        obtain ⟨rfl, rfl⟩ := ha
        obtain ⟨w', hr, hst⟩ := run_write (P := P) h hw hc hvals
        exact ⟨_, w', (go (some ⟨c, 0, none⟩) k).trans (by simp only [hr]; rfl), hst, rfl⟩
      · cases ha
    all_goals cases ha
  · cases ha
end
end
end Go.Ev
