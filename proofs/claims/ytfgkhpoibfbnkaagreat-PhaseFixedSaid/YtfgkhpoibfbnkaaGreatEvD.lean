/-
  Reading, writing and appending: what the model's own words do where the evaluator's memory stands to the model's. No conditions.
-/
import Derived.Test.YtfgkhpoibfbnkaaGreatEvC
namespace Go.Ev

theorem Addr.add_mk (c o n : Nat) : (⟨c, o, none⟩ : Addr).add n = ⟨c, o + n, none⟩ := by unfold Addr.add; split <;> simp_all

section
variable {P : Program} {ρ : Rho} {H : AH} {w : World}

theorem RH.cells (h : RH ρ H w) {b c m : Nat} {cs : List AC} {full : Bool} (hb : H.t.get b = some (.cells cs full)) (hc : ρ b = some (c, m)) :
    ∃ (arr : Array Value) (e : TypeId) (pre rest : List Value), w.heap[c]? = some (.cells arr e (0, 0)) ∧ arr.size = m ∧ arr.toList = pre ++ rest ∧ RCs ρ cs pre ∧ (full = true → rest = []) := by
  obtain ⟨c', m', obj, h1, h2, arr, e, pre, rest, rfl, h3, h4, h5, h6⟩ := h.blk b _ hb
  rw [hc] at h1
  obtain ⟨rfl, rfl⟩ : c = c' ∧ m = m' := by simpa using h1
  exact ⟨arr, e, pre, rest, h2, h3, h4, h5, h6⟩

/-- n cells from a place on are read. -/
theorem run_read (h : RH ρ H w) {b c m off n : Nat} {xs : List AC} (hr : H.read b off n = some xs) (hc : ρ b = some (c, m)) :
    ∃ vs : List Value, RCs ρ xs vs ∧ vs.length = n ∧ ∀ w' : World, w'.heap[c]? = w.heap[c]? → (loadCells ⟨c, off, none⟩ n).run P w' = .ok vs.toArray w' := by
  unfold AH.read at hr
  split at hr
  · rename_i cs full hb
    obtain ⟨arr, e, pre, rest, h1, h2, h3, h4, _⟩ := h.cells hb hc
    obtain ⟨hl, rfl⟩ := cut_spec _ _ _ _ hr
    have hlen : ((pre.drop off).take n).length = n := by
      have := h4.length
      simp
      omega
    refine ⟨(pre.drop off).take n, (h4.drop off).take n, hlen, fun w' hw' => ?_⟩
    have key := run_loadCells_list (P := P) w' ⟨c, off, none⟩ ((pre.drop off).take n) (fun j v hj => by
      rw [Addr.add_mk]
      simp only [World.cell?, hw', h1, Option.isSome_none, Bool.false_eq_true, if_false]
      rw [List.getElem?_take] at hj
      split at hj
      · rw [List.getElem?_drop] at hj
        rw [← Array.getElem?_toList, h3, List.getElem?_append_left (by have := (List.getElem?_eq_some_iff.1 hj).1; omega)]
        exact hj
      · cases hj)
    rwa [hlen] at key
  · cases hr

theorem run_read1 (h : RH ρ H w) {b c m off : Nat} {x : AC} (hr : H.read1 b off = some x) (hc : ρ b = some (c, m)) :
    ∃ v : Value, RC ρ x v ∧ ∀ w' : World, w'.heap[c]? = w.heap[c]? → (load ⟨c, off, none⟩).run P w' = .ok v w' := by
  unfold AH.read1 at hr
  split at hr
  · rename_i cs full hb
    obtain ⟨arr, e, pre, rest, h1, h2, h3, h4, _⟩ := h.cells hb hc
    rw [at?_eq] at hr
    obtain ⟨v, hv, hx⟩ := All2.get h4 hr
    refine ⟨v, hx, fun w' hw' => ?_⟩
    have hcell : w'.cell? ⟨c, off, none⟩ = some v := by
      simp only [World.cell?, hw', h1, Option.isSome_none, Bool.false_eq_true, if_false]
      rw [← Array.getElem?_toList, h3, List.getElem?_append_left (by have := (List.getElem?_eq_some_iff.1 hv).1; omega)]
      exact hv
    simp [hcell]
  · cases hr

/-- One living block gets other contents. -/
theorem St.set (h : RH ρ H w) {b c m : Nat} {o o' : AO} {obj : Obj} (hb : H.t.get b = some o) (hp : memN H.p b = false) (hc : ρ b = some (c, m)) (w' : World)
    (hw : w'.heap[c]? = some obj) (ho : RO ρ m o' obj) (hot : ∀ k, k ≠ c → w'.heap[k]? = w.heap[k]?) (hsz : w'.heap.size = w.heap.size)
    (h1 : w'.os = w.os) (h2 : w'.tape = w.tape) (h3 : w'.output = w.output) :
    St ρ H w ρ { t := H.t.put b (some o'), n := H.n, p := H.p } w' := by
  refine ⟨Ext.refl ρ, ⟨fun i x hi => ?_, fun i j x y c' m1 m2 hi hj hci hcj => ?_, h.fresh⟩, rfl, fun k hk hn => ?_, fun k hk => ?_, fun k hk => ?_, h1, h2, h3, Nat.le_of_eq hsz.symm⟩
  · simp only [Tr.get_put] at hi
    split at hi
    · rename_i e
      subst e
      simp at hi
      subst hi
      exact ⟨c, m, obj, hc, hw, ho⟩
    · rename_i e
      obtain ⟨c', m', obj', e1, e2, e3⟩ := h.blk i x hi
      refine ⟨c', m', obj', e1, ?_, e3⟩
      rw [hot c' (fun e' => ?_)]
      · exact e2
      · subst e'
        exact e (h.inj b i _ _ _ _ _ hb hi hc e1)
  · have key : ∀ i x, (H.t.put b (some o')).get i = some x → ∃ y, H.t.get i = some y := fun i x hi => by
      simp only [Tr.get_put] at hi
      split at hi
      · rename_i e; subst e; exact ⟨_, hb⟩
      · exact ⟨_, hi⟩
    obtain ⟨x', hx'⟩ := key i x hi
    obtain ⟨y', hy'⟩ := key j y hj
    exact h.inj i j _ _ _ _ _ hx' hy' hci hcj
  · refine hot k (fun e => hn ?_)
    subst e
    exact ⟨b, o, m, hb, memN_false.1 hp, hc⟩
  · obtain ⟨i, x, m', hi, hip, hci⟩ := hk
    simp only [Tr.get_put] at hi
    split at hi
    · rename_i e; subst e; exact .inr ⟨b, o, m', hb, hip, hci⟩
    · exact .inr ⟨i, x, m', hi, hip, hci⟩
  · obtain ⟨i, x, m', hi, hci⟩ := hk
    simp only [Tr.get_put] at hi
    split at hi
    · rename_i e; subst e; exact .inr ⟨b, o, m', hb, hci⟩
    · exact .inr ⟨i, x, m', hi, hci⟩

theorem setRow_other' (w : World) (g k : Nat) (cs : Array Value) (h : k ≠ g) : (w.setRow g cs).heap[k]? = w.heap[k]? := setRow_other w g k cs h

/-- Cells are written, from place 'off' of the block on, where the model's array has room. -/
theorem run_write_at (h : RH ρ H w) {b c m off : Nat} {xs cs cs' : List AC} {full : Bool} {vs : List Value} (hb : H.t.get b = some (.cells cs full)) (hp : memN H.p b = false)
    (hc : ρ b = some (c, m)) (hx : RCs ρ xs vs) (hle : off + xs.length ≤ m) (hoff : off ≤ cs.length) (hcs : cs' = cs.take off ++ xs ++ cs.drop (off + xs.length)) :
    ∃ w', (storeCells ⟨c, off, none⟩ vs).run P w = .ok () w' ∧ St ρ H w ρ { t := H.t.put b (some (.cells cs' full)), n := H.n, p := H.p } w' := by
  obtain ⟨arr, e, pre, rest, h1, h2, h3, h4, h5⟩ := h.cells hb hc
  have hvl := hx.length
  have hpl := h4.length
  have harr : arr.size = pre.length + rest.length := by
    have := congrArg List.length h3
    simpa using this
  have hrun := run_storeCells_at P c off e vs 0 arr w h1 (by omega) (fun v hv => RCs.one hx v hv)
  simp only [Nat.add_zero] at hrun
  refine ⟨_, hrun, St.set h hb hp hc _ (setRow_heap w c arr _ e (0, 0) h1) ?_ (fun k hk => setRow_other w c k _ hk) (by simp) rfl rfl rfl⟩
  have hd : arr.toList.take off = pre.take off := by
    rw [h3, List.take_append_of_le_length (by omega)]
  refine ⟨_, e, pre.take off ++ vs ++ pre.drop (off + vs.length), rest.drop (off + vs.length - pre.length), rfl, ?_, ?_, ?_, ?_⟩
  · simp only [List.size_toArray, List.length_append, List.length_take, List.length_drop, Array.length_toList]
    omega
  · rw [hd, h3, List.drop_append]
    simp
  · rw [hcs]
    refine ((h4.take off).append hx).append ?_
    rw [hvl]
    exact h4.drop _
  · intro hfu
    rw [h5 hfu]
    simp

theorem run_write (h : RH ρ H w) {b c m off : Nat} {xs : List AC} {vs : List Value} {H' : AH} (hr : H.write b off xs = some H') (hc : ρ b = some (c, m)) (hx : RCs ρ xs vs) :
    ∃ w', (storeCells ⟨c, off, none⟩ vs).run P w = .ok () w' ∧ St ρ H w ρ H' w' := by
  unfold AH.write at hr
  cases hp : memN H.p b
  · rw [hp, cond_false] at hr
    split at hr
    · rename_i cs full hb
      split at hr
      · rename_i cs' hl
        obtain ⟨hle, hcs⟩ := lay_spec _ _ _ _ hl
        simp at hr
        subst hr
        obtain ⟨arr, e, pre, rest, h1, h2, h3, h4, h5⟩ := h.cells hb hc
        have hpl := h4.length
        have harr : arr.size = pre.length + rest.length := by
          have := congrArg List.length h3
          simpa using this
        exact run_write_at h hb hp hc hx (by omega) (by omega) hcs
      · cases hr
    · cases hr
  · rw [hp, cond_true] at hr
    cases hr

/- ### Maps -/

theorem RH.map (h : RH ρ H w) {b c m : Nat} {es : List (AV × AV)} (hb : H.getMap b = some es) (hc : ρ b = some (c, m)) :
    H.t.get b = some (.map es) ∧ ∃ ens : Array MapEntry, w.heap[c]? = some (.map ens ens.size) ∧ All2 (RE ρ) es ens.toList ∧ ∀ (i : Nat) (e : MapEntry), ens[i]? = some e → e.born = i := by
  unfold AH.getMap at hb
  split at hb
  · rename_i es' hg
    simp at hb
    subst hb
    obtain ⟨c', m', obj, h1, h2, ens, rfl, h3, h4⟩ := h.blk b _ hg
    rw [hc] at h1
    obtain ⟨rfl, rfl⟩ : c = c' ∧ m = m' := by simpa using h1
    exact ⟨hg, ens, h2, h3, h4⟩
  · cases hb

theorem run_setMap (h : RH ρ H w) {b c m : Nat} {es es' : List (AV × AV)} {H' : AH} (hb : H.getMap b = some es) (hs : H.setMap b es' = some H') (hc : ρ b = some (c, m)) {ens : Array MapEntry}
    (he : All2 (RE ρ) es' ens.toList) (hborn : ∀ (i : Nat) (e : MapEntry), ens[i]? = some e → e.born = i) :
    ∃ w', (setObj c (.map ens ens.size)).run P w = .ok () w' ∧ w'.heap[c]? = some (.map ens ens.size) ∧ St ρ H w ρ H' w' := by
  obtain ⟨hg, ens0, h1, _, _⟩ := h.map hb hc
  unfold AH.setMap at hs
  cases hp : memN H.p b
  · rw [hp, cond_false] at hs
    simp at hs
    subst hs
    have hlt := (Array.getElem?_eq_some_iff.1 h1).1
    refine ⟨{ w with heap := w.heap.setIfInBounds c (.map ens ens.size) }, by simp [setObj, Sem.run, h1], by simp [hlt], ?_⟩
    refine St.set h hg hp hc _ (obj := .map ens ens.size) (by simp [hlt]) ⟨ens, rfl, he, hborn⟩ (fun k hk => ?_) (by simp) rfl rfl rfl
    simp [Ne.symm hk]
  · rw [hp, cond_true] at hs
    cases hs
end
end Go.Ev
