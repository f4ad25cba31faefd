/-
  A region whose order is drawn: whatever order comes, it does what the evaluator says. No conditions.
-/
import Derived.Test.YtfgkhpoibfbnkaaGreatEvT
namespace Go.Ev

section
variable {P : Program} {callf : Nat → List AV → AH → Option (AT × AH)} {ops : Array Oper} {ks : List (Option AOp)} {A : List Nat} {Q : Exit → Act → World → Prop}
variable {ρ0 : Rho} {H0 : AH} {w0 : World} {a0 : Act}

theorem wpAnyM_done {inc : Nat → Nat → Bool} {listed : Array Bool} {m : Nat → World → Prop} {a : Act} {w : World} (hr : Region.ready .any ops listed = []) (h : Q .normal a w) : ∀ fuel, wpAnyM P ops Q inc fuel listed m a w
  | 0 => ⟨hr, h⟩
  | _ + 1 => ⟨fun _ => h, by rw [hr]; simp⟩

theorem free_spec {listed : Array Bool} {i : Nat} {oi : Oper} (hi : ops[i]? = some oi) (h : freeA ops A listed i = true) {j : Nat} {oj : Oper} (hj : ops[j]? = some oj) (hne : j ≠ i) (hun : listed.getD j true = false) (ha : isAnc A j i = false) : oi.apart ops oj = true := by
  unfold freeA at h
  rw [hi] at h
  simp only [List.all_eq_true, List.mem_range] at h
  have := h j (Array.getElem?_eq_some_iff.1 hj).1
  simpa [hj, hne, hun, ha] using this

theorem run_alloc {o : Oper} {e : TypeId} {z : Nat} {xs : List AC} (he : o.op = .alloc e) (hz : cZero P e = some (z, xs)) : ∃ vs : List Value, (∀ ρ, RCs ρ xs vs) ∧
    ∀ (a : Act) (w : World), (execOp a.eval o).run P w = .ok (.value (.pointer (some ⟨w.heap.size, 0, none⟩))) (w.alloc (.cells vs.toArray e)) := by
  obtain ⟨i, zv, h1, h2, h3, h4, h5⟩ := cZero_spec hz
  obtain ⟨dst, op, ty, pos, after, guard⟩ := o
  simp only [] at he
  subst he
  refine ⟨zv.cells.toList, h5, fun a w => ?_⟩
  have hr : (Instr.alloc e true (.tuple #[])).run P w = .ok (.pointer (some ⟨w.heap.size, 0, none⟩)) (w.alloc (.cells zv.cells.toList.toArray e)) := by
    simp only [Instr.alloc, Sem.run_bind, run_zero h1 h3, Result.andThen_ok, newVar, run_newRow, Sem.run_pure, Array.toArray_toList]
  have hexec : execOp a.eval ⟨dst, .alloc e, ty, pos, after, guard⟩ = (do pure (.value (← Instr.alloc e true (.tuple #[])))) := rfl
  rw [hexec]
  simp only [Sem.run_bind, hr, Result.andThen_ok, Sem.run_pure]

/-- A late one ahead of its turn. -/
theorem early_wp (R : Reg P ops A ks) {listed listedC : Array Bool} {m : Nat → World → Prop} {a : Act} {w : World} {ρ : Rho} {T : Tr AT} {H : AH} {ls : List LR} {D : Nat → Option Nat} (I : Inv P ops A ks ρ0 H0 w0 a0 listed listedC m a w ρ T H ls D) {k : Nat} (hk : k ∈ Region.ready .any ops listed) (hl : lateAt ops k = true) {fuel : Nat}
    (hnext : ∀ a' w' m' D', Inv P ops A ks ρ0 H0 w0 a0 (listed.setIfInBounds k true) listedC m' a' w' ρ T H ls D' → wpAnyM P ops Q (incN A ks) fuel (listed.setIfInBounds k true) m' a' w') :
    wpOp P ops Q k (fun a' w' => (∀ i, incN A ks k i = true → m i w → m i w') ∧ ∃ S, wpAnyM P ops Q (incN A ks) fuel (listed.setIfInBounds k true) (upm m k S) a' w') a w := by
  obtain ⟨o, e, d, g1, g2, g3, g4, _⟩ := late_spec hl
  have hall := R.all k o g1
  rw [g2] at hall
  simp only [cOp] at hall
  cases hz : cZero P e with
  | none => simp [hz] at hall
  | some p =>
    obtain ⟨z, xs⟩ := p
    obtain ⟨vs, hvs, hrun⟩ := run_alloc g2 hz
    have hw : Region.wanted o (yielded ops a.tmps) = true := by simp [Region.wanted, g3]
    unfold wpOp
    simp only [g1, hw, if_true]
    refine .inl ?_
    unfold Oper.wp
    rw [hrun, Oper.upon_value]
    refine ⟨fun i _ hm => ?_, fun _ => True, hnext _ _ _ _ (I.early R hk g1 hl g2 g3 g4 hz hvs)⟩
    rcases I.km i with h | ⟨_, x, _, _, c, n, _, hlt, hdep, _⟩
    · exact h _
    · refine hdep w _ ?_ hm
      simp only [World.alloc, Array.getElem?_push]
      rw [if_neg (by omega)]

theorem sim (hcall : CallsOK P callf) (R : Reg P ops A ks) {nt : Nat} (hn : nt ≤ a0.tmps.size) (hQ : ∀ c a w, ¬ Q (.panic c) a w) {T' : Tr AT} {H' : AH} (hp : Post Q .normal ρ0 H0 w0 a0 T' H') :
    ∀ (N fuel fuelC : Nat) (listed listedC : Array Bool) (xs : List AI) (m : Nat → World → Prop) (a : Act) (w : World) (ρ : Rho) (T : Tr AT) (H : AH) (ls : List LR) (D : Nat → Option Nat),
      pend listed + pend listedC < N → pend listed ≤ fuel → cDraw P nt ops A ks fuelC listedC = some xs → Inv P ops A ks ρ0 H0 w0 a0 listed listedC m a w ρ T H ls D → evIs callf xs ls T H = some (T', H') →
      wpAnyM P ops Q (incN A ks) fuel listed m a w := by
  intro N
  induction N with
  | zero => intro fuel fuelC listed listedC xs m a w ρ T H ls D h; omega
  | succ N ih =>
    intro fuel fuelC listed listedC xs m a w ρ T H ls D hN hfuel hx I he
    cases hrs : Region.ready .any ops listedC with
    | nil =>
      have hxs : xs = [] := by
        unfold cDraw at hx
        rw [hrs] at hx
        simpa using hx
      subst hxs
      simp only [evIs, Option.some.injEq, Prod.mk.injEq] at he
      obtain ⟨rfl, rfl⟩ := he
      exact wpAnyM_done (I.none_ready hrs) (hp a w ρ I.st I.rt I.tsz I.df) fuel
    | cons r0 rs =>
    cases fuelC with
    | zero =>
      unfold cDraw at hx
      rw [hrs] at hx
      simp at hx
    | succ fuelC =>
    have hfu : ∀ {i : Nat}, i ∈ Region.ready .any ops listed → ∃ f, fuel = f + 1 ∧ pend (listed.setIfInBounds i true) ≤ f ∧ pend (listed.setIfInBounds i true) + 1 = pend listed := fun {i} hi => by
      have := pend_set (mem_ready.1 hi).1
      cases fuel with
      | zero => omega
      | succ f => exact ⟨f, rfl, by omega, this⟩
    have hpC : ∀ {i : Nat}, i ∈ Region.ready .any ops listedC → pend (listedC.setIfInBounds i true) + 1 = pend listedC := fun hi => pend_set (mem_ready.1 hi).1
    have hx0 := hx
    unfold cDraw at hx
    rw [hrs] at hx
    simp only [] at hx
    split at hx
    · -- a quiet one
      rename_i i hfind
      have hiC : i ∈ Region.ready .any ops listedC := by rw [hrs]; exact List.mem_of_find?_eq_some hfind
      have hqi := List.find?_some hfind
      split at hx
      · rename_i hfree
        split at hx
        · rename_i x xs' hxi hxs
          simp only [Option.some.injEq] at hx
          subst hx
          obtain ⟨o, h1, h2, h3, h4, h5, h6, h7, h8⟩ := cI_spec hxi
          have hkind := R.kind h1 h2
          have hq : quiet x.op = true := by
            unfold quietAt at hqi
            rw [hkind] at hqi
            exact hqi
          have hnl : lateAt ops i = false := by
            cases hl : lateAt ops i
            · rfl
            · obtain ⟨o', e, d, g1, g2, _⟩ := late_spec hl
              rw [h1] at g1
              simp only [Option.some.injEq] at g1
              subst g1
              rw [g2] at h2
              simp only [cOp] at h2
              split at h2
              · simp only [Option.some.injEq] at h2
                rw [← h2] at hq
                simp [quiet] at hq
              · cases h2
          have hD : D i = none := by
            cases hd : D i with
            | none => rfl
            | some c => rw [I.late hd] at hnl; cases hnl
          have hi := I.ready hiC hD
          obtain ⟨f, rfl, hf1, hf2⟩ := hfu hi
          have hpc := hpC hiC
          have hfr : ∀ j oj, ops[j]? = some oj → j ≠ i → listed.getD j true = false → isAnc A j i = false → o.apart ops oj = true := fun j oj hj hne hun ha => free_spec h1 hfree hj hne (I.C_of_not hun).1 ha
          simp only [evIs] at he
          split at he
          · cases he
          · rename_i hw
            have hw' := wanted_rel (a := a) I.rt h3 hw
            rw [h6] at he
            refine wpAnyM_first (S := fun _ => True) R.anc R.sel h1 (.inl fun _ => trivial) hQ f listed m a w hfr I.sh hi (I.pm i (mem_ready.1 hi).1) (.inr ⟨hw', rfl⟩) trivial ?_
            exact ih f fuelC _ _ xs' _ _ w ρ _ H ls D (by omega) hf1 hxs (I.both R hi h1 h4 hn (St.refl I.st.rh) (undef_rel ρ) (fun _ h => h) (.inl fun _ => trivial)) he
          · rename_i hw
            have hw' := wanted_rel (a := a) I.rt h3 hw
            split at he
            · cases he
            rename_i v H₁ hi'
            rw [fzT_eq, h7, cond_true, h6] at he
            unfold evI at hi'
            rw [h7, cond_true] at hi'
            split at hi'
            · rename_i v' H₂ hev
              cases hdn : drewNan x.op v'
              · rw [hdn, cond_false] at hi'
                simp only [Option.some.injEq, Prod.mk.injEq] at hi'
                obtain ⟨rfl, rfl⟩ := hi'
                obtain ⟨rfl, hy | ⟨hd, _⟩⟩ := op_quiet (a := a) I.rt I.st.rh h2 hq hev
                · obtain ⟨u, hu, hrun⟩ := hy
                  obtain ⟨S, s1, s2, s3, s4⟩ := read_km (ks := ks) (i := i) I.rt I.st.rh h2 hq hev hu hrun (by unfold readAt; rw [hkind]) ls
                  rw [h5] at he
                  refine wpAnyM_first (S := S) R.anc R.sel h1 s1 hQ f listed m a w hfr I.sh hi (I.pm i (mem_ready.1 hi).1) (.inl ⟨hw', s3⟩) s2 ?_
                  refine ih f fuelC _ _ xs' _ _ w ρ _ H₂ _ D (by omega) hf1 hxs (I.both R hi h1 h4 hn (St.refl I.st.rh) hu (fun y hy => ?_) s4) he
                  unfold addR
                  split
                  · exact List.mem_cons_of_mem _ hy
                  · exact hy
                · rw [hdn] at hd; cases hd
              · rw [hdn] at hi'; cases hi'
            · cases hi'
        · cases hx
      · cases hx
    · rename_i hnq
      split at hx
      · -- one that does something
        rename_i j hfind
        have hjC : j ∈ Region.ready .any ops listedC := by rw [hrs]; exact List.mem_of_find?_eq_some hfind
        have hjl := List.find?_some hfind
        simp only [Bool.not_eq_true'] at hjl
        split at hx
        · rename_i halone
          split at hx
          · rename_i x xs' hxi hxs
            simp only [Option.some.injEq] at hx
            subst hx
            obtain ⟨o, h1, h2, h3, h4, h5, h6, h7, h8⟩ := cI_spec hxi
            have hD : D j = none := by
              cases hd : D j with
              | none => rfl
              | some c => rw [I.late hd] at hjl; cases hjl
            have hj := I.ready hjC hD
            have hDn : D ops.size = none := by
              cases hd : D ops.size with
              | none => rfl
              | some c =>
                obtain ⟨oo, _, _, _, _, g1, _⟩ := I.dd _ c hd
                have := (Array.getElem?_eq_some_iff.1 g1).1
                omega
            obtain ⟨f, rfl, hf1, hf2⟩ := hfu hj
            have hpc := hpC hjC
            refine ⟨fun h => (by rw [h] at hj; cases hj), fun i hi => ?_⟩
            by_cases hij : i = j
            · subst hij
              simp only [evIs] at he
              unfold wpOp
              simp only [h1]
              split at he
              · cases he
              · rename_i hw
                have hw' := wanted_rel (a := a) I.rt h3 hw
                rw [h6] at he
                simp only [hw', Bool.false_eq_true, if_false]
                refine ⟨fun _ _ h => h, fun _ => True, ?_⟩
                exact ih f fuelC _ _ xs' _ _ w ρ _ H ls D (by omega) hf1 hxs (I.both R hj h1 h4 hn (St.refl I.st.rh) (undef_rel ρ) (fun _ h => h) (.inl fun _ => trivial)) he
              · rename_i hw
                have hw' := wanted_rel (a := a) I.rt h3 hw
                simp only [hw', if_true]
                split at he
                · cases he
                rename_i v H₁ hi'
                rw [fzT_eq, h7, cond_false, h6] at he
                refine .inl (eff_wp (ks := ks) hcall I.rt I.st.rh h7 h2 hi' fun u w' ρ' hst hr hkeep => ⟨fun k hk hm => ?_, fun _ => True, ?_⟩)
                · exact hkeep k (m k) (by rw [h8]; exact R.inc hk) (I.km k) hm
                · exact ih f fuelC _ _ xs' _ _ w' ρ' _ H₁ ls D (by omega) hf1 hxs (I.both R hj h1 h4 hn hst hr (fun _ h => h) (.inl fun _ => trivial)) he
            · have hil : lateAt ops i = true := (I.alone halone hDn hi).resolve_left hij
              obtain ⟨f', hff, hg1, hg2⟩ := hfu hi
              have : f' = f := by omega
              subst this
              have hx' : cDraw P nt ops A ks (fuelC + 1) listedC = some (x :: xs') := hx0
              exact early_wp R I hi hil fun a' w' m' D' I' => ih f' (fuelC + 1) _ _ _ _ a' w' ρ T H ls D' (by omega) hg1 hx' I' he
          · cases hx
        · cases hx
      · -- late ones alone
        rename_i hnone
        have hlate : ∀ i ∈ Region.ready .any ops listedC, lateAt ops i = true := fun i hi => by
          rw [hrs] at hi
          have := List.find?_eq_none.1 hnone i hi
          simpa using this
        have hkC : r0 ∈ Region.ready .any ops listedC := by rw [hrs]; exact List.mem_cons_self
        split at hx
        · rename_i halone
          split at hx
          · rename_i x xs' hxi hxs
            simp only [Option.some.injEq] at hx
            subst hx
            have hx' : cDraw P nt ops A ks (fuelC + 1) listedC = some (x :: xs') := hx0
            obtain ⟨o, h1, h2, h3, h4, h5, h6, h7, h8⟩ := cI_spec hxi
            cases hD : D r0 with
            | some c =>
              have hpc := hpC hkC
              obtain ⟨o', e, d, g1, g2, g3, g4, _⟩ := late_spec (hlate r0 hkC)
              rw [h1] at g1
              simp only [Option.some.injEq] at g1
              subst g1
              simp only [g3, cGuard, Option.some.injEq] at h3
              simp only [evIs, ← h3, wantedA] at he
              split at he
              · cases he
              rename_i v H₁ hi'
              rw [fzT_eq, h7, cond_false, h6] at he
              unfold evI at hi'
              rw [h7, h8, cond_false] at hi'
              simp only [isNil, cond_true] at hi'
              obtain ⟨ρ', D', I'⟩ := I.turn R hD h1 h4 hn h2 hi'
              exact ih fuel fuelC _ _ xs' m a w ρ' _ H₁ ls D' (by omega) hfuel hxs I' he
            | none =>
              have hk := I.ready hkC hD
              obtain ⟨f, rfl, hf1, hf2⟩ := hfu hk
              refine ⟨fun h => (by rw [h] at hk; cases hk), fun i hi => ?_⟩
              have hil : lateAt ops i = true := (I.alone halone hD hi).elim (fun h => h ▸ hlate r0 hkC) id
              obtain ⟨f', hff, hg1, hg2⟩ := hfu hi
              have : f' = f := by omega
              subst this
              exact early_wp R I hi hil fun a' w' m' D' I' => ih f' (fuelC + 1) _ _ _ _ a' w' ρ T H ls D' (by omega) hg1 hx' I' he
          · cases hx
        · cases hx
end
end Go.Ev
