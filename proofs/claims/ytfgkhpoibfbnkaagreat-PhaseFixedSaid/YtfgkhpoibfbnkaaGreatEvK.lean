/-
  Storing into maps; the built-in functions; the library's float functions. No conditions.
-/
import Derived.Test.YtfgkhpoibfbnkaaGreatEvJ
namespace Go.Ev

section
variable {P : Program} {ρ : Rho} {T : Tr AT} {a : Act} {w : World} {H : AH} {dst : Option Tmp} {ty : TypeId} {pos : String} {after : Array Edge} {guard : Option (Nat × Bool)}
variable {callf : Nat → List AV → AH → Option (AT × AH)} {r : AT} {H' : AH}

/- ### Maps -/

theorem setAt_all {es : List (AV × AV)} {ens : List MapEntry} (h : All2 (RE ρ) es ens) : ∀ {j : Nat} {x : AV × AV} {f : MapEntry → MapEntry}, (∀ m, ens[j]? = some m → RE ρ x (f m)) → All2 (RE ρ) (setAt es j x) (ens.modify j f) := by
  induction h with
  | nil => intro j x f _; simp [setAt]; exact .nil
  | cons h0 h1 ih =>
    intro j x f hx
    cases j with
    | zero => simp only [setAt, List.modify_zero_cons]; exact .cons (hx _ rfl) h1
    | succ j => simp only [setAt, List.modify_succ_cons]; exact .cons h0 (ih fun m hm => hx m (by simpa using hm))

theorem born_modify {ens : Array MapEntry} (h : ∀ (i : Nat) (e : MapEntry), ens[i]? = some e → e.born = i) {j : Nat} {f : MapEntry → MapEntry} (hf : ∀ e, (f e).born = e.born) : ∀ (i : Nat) (e : MapEntry), (ens.modify j f)[i]? = some e → e.born = i := by
  intro i e he
  rw [Array.getElem?_modify] at he
  split at he
  · rw [Option.map_eq_some_iff] at he
    obtain ⟨e', h1, rfl⟩ := he
    rw [hf]
    exact h i e' h1
  · exact h i e he

theorem born_push {ens : Array MapEntry} (h : ∀ (i : Nat) (e : MapEntry), ens[i]? = some e → e.born = i) {k v : Value} : ∀ (i : Nat) (e : MapEntry), (ens.push { key := k, val := v, born := ens.size })[i]? = some e → e.born = i := by
  intro i e he
  rw [Array.getElem?_push] at he
  split at he
  · rename_i hi
    simp only [Option.some.injEq] at he
    subst he
    exact hi.symm
  · exact h i e he

theorem run_keyThatStays {old new : Value} (h : Instr.sameBits 10000 old new = true) (w : World) : (Instr.keyThatStays old new).run P w = .ok new w := by
  simp [Instr.keyThatStays, h]

theorem getMap_map {b : Nat} {es : List (AV × AV)} (h : H.getMap b = some es) : H.t.get b = some (.map es) := by
  unfold AH.getMap at h
  split at h
  · simp only [Option.some.injEq] at h; subst h; assumption
  · cases h

/-- What is stored where a key was looked up. -/
theorem map_set (hH : RH ρ H w) {b c m : Nat} (hc : ρ b = some (c, m)) {es : List (AV × AV)} (hes : H.getMap b = some es) {ens : Array MapEntry} (h2 : All2 (RE ρ) es ens.toList) (h3 : ∀ (i : Nat) (e : MapEntry), ens[i]? = some e → e.born = i)
    {H₁ : AH} {k x : AV} {vk vx : Value} (hk : RV ρ k vk) (hx : RV ρ x vx) :
    (∀ j, H.setMap b (setAt es j (k, x)) = some H₁ → ∃ w', (setObj c (.map (ens.modify j fun e => { e with key := vk, val := vx }) ens.size)).run P w = .ok () w' ∧ St ρ H w ρ H₁ w') ∧
    (H.setMap b (es ++ [(k, x)]) = some H₁ → ∃ w', (setObj c (.map (ens.push { key := vk, val := vx, born := ens.size }) (ens.size + 1))).run P w = .ok () w' ∧ St ρ H w ρ H₁ w') := by
  refine ⟨fun j hs => ?_, fun hs => ?_⟩
  · obtain ⟨w', g1, _, g2⟩ := run_setMap (P := P) hH hes hs hc (ens := ens.modify j fun e => { e with key := vk, val := vx }) (by rw [Array.toList_modify]; exact setAt_all h2 fun m _ => ⟨hk, hx⟩) (born_modify h3 fun _ => rfl)
    rw [Array.size_modify] at g1
    exact ⟨w', g1, g2⟩
  · obtain ⟨w', g1, _, g2⟩ := run_setMap (P := P) hH hes hs hc (ens := ens.push { key := vk, val := vx, born := ens.size }) (by rw [Array.toList_push]; exact h2.append (.cons ⟨hk, hx⟩ .nil)) (born_push h3)
    rw [Array.size_push] at g1
    exact ⟨w', g1, g2⟩

theorem d_mapUpdate (hT : RT ρ T a.tmps) (hH : RH ρ H w) {t kt e : TypeId} {key : Option Nat} {m k x : Operand} {m' k' x' : AOpnd} (hu : P.underlying t = some (.map kt e)) (hkt : cKey P kt = some key) (hm : cO m = some m') (hk : cO k = some k') (hx : cO x = some x')
    {o : Op} (ho : o = .mapUpdate t m k x) (he : evOp callf T (.mapUpdate key m' k' x') H = some (r, H')) : Does P ρ H a w ⟨dst, o, ty, pos, after, guard⟩ r H' := by
  subst ho
  simp only [evOp] at he
  split at he
  · rename_i b kv xv hb hkv hxv
    cases hok : keyOk key kv
    · rw [hok] at he; cases he
    rw [hok, cond_true] at he
    split at he
    · cases he
    rename_i es hes
    obtain ⟨c, l, hc, hmv⟩ := evC_rel hT hm hb
    have hvk := evV_rel (a := a) hT hk hkv
    have hvx := evV_rel (a := a) hT hx hxv
    obtain ⟨_, ens, h1, h2, h3⟩ := hH.map hes hc
    have hg : (getObj c).run P w = .ok (.map ens ens.size) w := by simp [getObj, Sem.run, h1]
    have hck := run_check (P := P) hkt hok hvk false w
    have hexec : execOp a.eval ⟨dst, .mapUpdate t m k x, ty, pos, after, guard⟩ = (do Instr.mapUpdate t (a.eval m) (a.eval k) (a.eval x); pure .skip) := rfl
    split at he
    · cases he
    · rename_i hf
      split at he
      · rename_i H₁ hs
        simp only [Option.some.injEq, Prod.mk.injEq] at he
        obtain ⟨rfl, rfl⟩ := he
        have hfk : (Instr.findKey kt (a.eval k) ens.toList).run P w = .ok none w := run_find (P := P) hkt hok hvk w h2 hf
        obtain ⟨w', g1, g2⟩ := (map_set (P := P) hH hc hes h2 h3 hvk hvx).2 hs
        refine Does.unit hexec ?_ g2
        rw [hmv]
        simp only [Instr.mapUpdate, Sem.run_bind, run_underlying hu, Result.andThen_ok, hg, hck, hfk, g1]
      · cases he
    · rename_i j v hf
      split at he
      · rename_i H₁ hs
        simp only [Option.some.injEq, Prod.mk.injEq] at he
        obtain ⟨rfl, rfl⟩ := he
        obtain ⟨en, e1, _, _, e4, e5, hfk⟩ := run_find (P := P) hkt hok hvk w h2 hf
        rw [Array.getElem?_toList] at e1
        obtain ⟨w', g1, g2⟩ := (map_set (P := P) hH hc hes h2 h3 hvk hvx).1 j hs
        refine Does.unit hexec ?_ g2
        rw [hmv]
        simp only [Instr.mapUpdate, Sem.run_bind, run_underlying hu, Result.andThen_ok, hg, hck, hfk, e1, Option.map_some, Option.getD_some, run_keyThatStays e5, g1]
      · cases he
  · cases he

theorem d_mapEntry (hT : RT ρ T a.tmps) (hH : RH ρ H w) {t kt e : TypeId} {key : Option Nat} {zero : AV} {m k : Operand} {m' k' : AOpnd} (hu : P.underlying t = some (.map kt e)) (hkt : cKey P kt = some key) (hz : cZeroV P e = some zero) (hm : cO m = some m') (hk : cO k = some k')
    (he : evOp callf T (.mapEntry key zero m' k') H = some (r, H')) : Does P ρ H a w ⟨dst, .mapEntry t m k, ty, pos, after, guard⟩ r H' := by
  simp only [evOp] at he
  split at he
  · rename_i b kv hb hkv
    cases hok : keyOk key kv
    · rw [hok] at he; cases he
    rw [hok, cond_true] at he
    split at he
    · cases he
    rename_i es hes
    obtain ⟨c, l, hc, hmv⟩ := evC_rel hT hm hb
    have hvk := evV_rel (a := a) hT hk hkv
    obtain ⟨zv, hzv, hzr⟩ := cZeroV_spec hz
    obtain ⟨_, ens, h1, h2, h3⟩ := hH.map hes hc
    have hg : (getObj c).run P w = .ok (.map ens ens.size) w := by simp [getObj, Sem.run, h1]
    have hck := run_check (P := P) hkt hok hvk false w
    have hexec : execOp a.eval ⟨dst, .mapEntry t m k, ty, pos, after, guard⟩ = (do pure (.value (← Instr.mapEntry t (a.eval m) (a.eval k)))) := rfl
    have hlen : es.length = ens.size := by have := h2.length; simpa using this
    split at he
    · cases he
    · rename_i hf
      split at he
      · rename_i H₁ hs
        simp only [Option.some.injEq, Prod.mk.injEq] at he
        obtain ⟨rfl, rfl⟩ := he
        have hfk : (Instr.findKey kt (a.eval k) ens.toList).run P w = .ok none w := run_find (P := P) hkt hok hvk w h2 hf
        obtain ⟨w', g1, g2⟩ := (map_set (P := P) hH hc hes h2 h3 hvk (hzr ρ)).2 hs
        refine Does.value (v := .tuple #[zv, goInt ens.size]) hexec ?_ g2 ⟨[zv, goInt ens.size], rfl, .cons (hzr ρ) (.cons (by rw [hlen]; rfl) .nil)⟩
        rw [hmv]
        simp only [Instr.mapEntry, Sem.run_bind, run_underlying hu, Result.andThen_ok, hg, hck, hfk, hzv, g1, Sem.run_pure]
      · cases he
    · rename_i j v hf
      split at he
      · rename_i H₁ hs
        simp only [Option.some.injEq, Prod.mk.injEq] at he
        obtain ⟨rfl, rfl⟩ := he
        obtain ⟨en, e1, _, e3, e4, e5, hfk⟩ := run_find (P := P) hkt hok hvk w h2 hf
        rw [Array.getElem?_toList] at e1
        obtain ⟨w', g1, g2⟩ := (map_set (P := P) hH hc hes h2 h3 hvk e3).1 j hs
        have hmod : (ens.modify j fun e => { e with key := a.eval k, val := en.val }) = ens.modify j fun e => { e with key := a.eval k } := by
          apply Array.ext_getElem?
          intro i
          simp only [Array.getElem?_modify]
          split
          · rename_i hij
            subst hij
            rw [e1]
            rfl
          · rfl
        rw [hmod] at g1
        have hborn : en.born = j := h3 j en e1
        refine Does.value (v := .tuple #[en.val, goInt j]) hexec ?_ g2 ⟨[en.val, goInt j], rfl, .cons e3 (.cons rfl .nil)⟩
        rw [hmv]
        simp only [Instr.mapEntry, Sem.run_bind, run_underlying hu, Result.andThen_ok, hg, hck, hfk, e1, Option.map_some, Option.getD_some, run_keyThatStays e5, g1, Sem.run_pure, hborn]
      · cases he
  · cases he

theorem atE_eq : ∀ (es : List (AV × AV)) (i : Nat), atE es i = es[i]?
  | [], _ => rfl
  | _ :: _, 0 => rfl
  | _ :: r, i + 1 => by simpa [atE] using atE_eq r i

theorem find_born {ens : Array MapEntry} (h : ∀ (i : Nat) (e : MapEntry), ens[i]? = some e → e.born = i) {i : Nat} (hi : i < ens.size) : ens.findIdx? (fun e => (e.born : Int) == (i : Int)) = some i := by
  rw [Array.findIdx?_eq_some_iff_getElem]
  refine ⟨hi, ?_, fun j hj => ?_⟩
  · have := h i ens[i] (Array.getElem?_eq_getElem hi)
    simp [this]
  · have := h j ens[j] (Array.getElem?_eq_getElem (by omega))
    simp only [this, beq_iff_eq]
    omega

theorem d_entryStore (hT : RT ρ T a.tmps) (hH : RH ρ H w) {t : TypeId} {m s x : Operand} {m' s' x' : AOpnd} (hm : cO m = some m') (hs' : cO s = some s') (hx : cO x = some x') (he : evOp callf T (.entryStore m' s' x') H = some (r, H')) :
    Does P ρ H a w ⟨dst, .entryStore t m s x, ty, pos, after, guard⟩ r H' := by
  simp only [evOp] at he
  split at he
  · rename_i b q i xv hb hi hxv
    split at he
    · cases he
    rename_i es hes
    split at he
    · rename_i h0
      split at he
      · rename_i kx v0 hat
        split at he
        · rename_i H₁ hs
          simp only [Option.some.injEq, Prod.mk.injEq] at he
          obtain ⟨rfl, rfl⟩ := he
          obtain ⟨c, l, hc, hmv⟩ := evC_rel hT hm hb
          have hsv : a.eval s = .int q i := evC_rel hT hs' hi
          have hvx := evV_rel (a := a) hT hx hxv
          obtain ⟨_, ens, h1, h2, h3⟩ := hH.map hes hc
          have hg : (getObj c).run P w = .ok (.map ens ens.size) w := by simp [getObj, Sem.run, h1]
          rw [atE_eq] at hat
          obtain ⟨en, g1, g2⟩ := All2.get h2 hat
          rw [Array.getElem?_toList] at g1
          have hlt := (Array.getElem?_eq_some_iff.1 g1).1
          obtain ⟨w', f1, _, f2⟩ := run_setMap (P := P) hH hes hs hc (ens := ens.modify i.toNat fun e => { e with val := a.eval x }) (by
            rw [Array.toList_modify]
            refine setAt_all h2 fun m hm => ?_
            rw [Array.getElem?_toList, g1] at hm
            simp only [Option.some.injEq] at hm
            subst hm
            exact ⟨g2.1, hvx⟩) (born_modify h3 fun _ => rfl)
          rw [Array.size_modify] at f1
          refine Does.unit (s := Instr.entryStore t (a.eval m) (a.eval s) (a.eval x)) rfl ?_ f2
          have hfi := find_born h3 hlt
          rw [show ((i.toNat : Nat) : Int) = i from by omega] at hfi
          rw [hmv, hsv]
          simp only [Instr.entryStore, Sem.run_bind, hg, Result.andThen_ok, asInt, asIntOf, Sem.run_pure, hfi, f1]
        · cases he
      · cases he
    · cases he
  · cases he

/- ### Built-in functions -/

theorem exec_bi {c : Call} {b : Builtin} (hc : c.callee = .builtin b) : ∃ cs, ∀ w, (execOp a.eval ⟨dst, .call c, ty, pos, after, guard⟩).run P w = (builtin b c.argTypes ty cs (c.args.map a.eval)).run P w := by
  obtain ⟨callee, args, ts⟩ := c
  simp only [] at hc
  subst hc
  exact ⟨args.map fun | .const _ => true | _ => false, fun w => by simp [execOp, resolve, invoke]; rfl⟩

/-- A built-in function that comes to one value. -/
theorem Does.bi {c : Call} {b : Builtin} (hc : c.callee = .builtin b) {s : Sem Value} {v : Value} {w' : World} {ρ' : Rho} (hb : ∀ cs, builtin b c.argTypes ty cs (c.args.map a.eval) = (do pure (.value (← s)))) (hs : s.run P w = .ok v w') (hst : St ρ H w ρ' H' w') (hr : R1 ρ' r v) :
    Does P ρ H a w ⟨dst, .call c, ty, pos, after, guard⟩ r H' := by
  obtain ⟨cs, hx⟩ := exec_bi (a := a) (P := P) (dst := dst) (ty := ty) (pos := pos) (after := after) (guard := guard) hc
  exact ⟨v, w', ρ', .inl (by rw [hx w, hb cs]; simp [hs]), hst, hr⟩

theorem Yld.bi {c : Call} {b : Builtin} (hc : c.callee = .builtin b) {s : Sem Value} {v : Value} (hb : ∀ cs, builtin b c.argTypes ty cs (c.args.map a.eval) = (do pure (.value (← s)))) (hs : ∀ w, s.run P w = .ok v w) (hr : R1 ρ r v) :
    Yld P ρ none a w ⟨dst, .call c, ty, pos, after, guard⟩ r := by
  obtain ⟨cs, hx⟩ := exec_bi (a := a) (P := P) (dst := dst) (ty := ty) (pos := pos) (after := after) (guard := guard) hc
  exact ⟨v, hr, fun w' _ => by rw [hx w', hb cs]; simp [hs w']⟩

theorem run_max2 {x y z : AC} (h : max2 x y = some z) {u v : Value} (hu : RC ρ x u) (hv : RC ρ y v) (w : World) : ∃ q w', RC ρ z q ∧ Drawn w w' ∧ (Builtin.max2 u v).run P w = .ok q w' := by
  have hn : ∀ (n m : Nat) (w : World), FloatKind.f64.format.order n m = none → ∃ q w', RC ρ (.flt .nan) q ∧ Drawn w w' ∧ (Builtin.max2 (.float .f64 n) (.float .f64 m)).run P w = .ok q w' := fun n m w hh =>
    ⟨.float .f64 (Question.cut (.nanMinMax .f64 true n m) (w.tape w.drawn (.nanMinMax .f64 true n m))), w.drew, ⟨_, nan_bits _, rfl⟩, Drawn.drew w, by simp [Builtin.max2, hh, Question.forced]⟩
  unfold max2 at h
  split at h
  · split at h
    · rename_i hk
      simp only [Option.some.injEq] at h
      subst h
      simp only [RC] at hu hv
      subst hu; subst hv
      exact ⟨_, w, rfl, Drawn.refl w, rfl⟩
    · cases h
  · obtain ⟨n, hn', rfl⟩ := hu
    obtain ⟨m, hm', rfl⟩ := hv
    simp only [RF] at hn' hm'
    subst hn'; subst hm'
    split at h <;> rename_i ho <;> simp only [Option.some.injEq] at h <;> subst h
    · exact hn n m w ho
    · exact ⟨_, w, ⟨_, rfl, rfl⟩, Drawn.refl w, by simp [Builtin.max2, ho]⟩
    · exact ⟨_, w, ⟨_, rfl, rfl⟩, Drawn.refl w, by simp [Builtin.max2, ho]⟩
    · exact ⟨_, w, ⟨_, rfl, rfl⟩, Drawn.refl w, by simp [Builtin.max2, ho]⟩
  · rename_i p q hno
    obtain ⟨n, hn', rfl⟩ := hu
    obtain ⟨m, hm', rfl⟩ := hv
    simp only [Option.some.injEq] at h
    subst h
    refine hn n m w ?_
    cases p with
    | f b => cases q with
      | f c => exact absurd rfl (hno b c rfl)
      | nan => exact (add_nan (.inr hm')).2.2.2.2
    | nan => exact (add_nan (.inl hn')).2.2.2.2
  · cases h

theorem run_min2 {x y z : AC} (h : min2 x y = some z) {u v : Value} (hu : RC ρ x u) (hv : RC ρ y v) (w : World) : ∃ q w', RC ρ z q ∧ Drawn w w' ∧ (Builtin.min2 u v).run P w = .ok q w' := by
  have hn : ∀ (n m : Nat) (w : World), FloatKind.f64.format.order n m = none → ∃ q w', RC ρ (.flt .nan) q ∧ Drawn w w' ∧ (Builtin.min2 (.float .f64 n) (.float .f64 m)).run P w = .ok q w' := fun n m w hh =>
    ⟨.float .f64 (Question.cut (.nanMinMax .f64 false n m) (w.tape w.drawn (.nanMinMax .f64 false n m))), w.drew, ⟨_, nan_bits _, rfl⟩, Drawn.drew w, by simp [Builtin.min2, hh, Question.forced]⟩
  unfold min2 at h
  split at h
  · split at h
    · rename_i hk
      simp only [Option.some.injEq] at h
      subst h
      simp only [RC] at hu hv
      subst hu; subst hv
      exact ⟨_, w, rfl, Drawn.refl w, rfl⟩
    · cases h
  · obtain ⟨n, hn', rfl⟩ := hu
    obtain ⟨m, hm', rfl⟩ := hv
    simp only [RF] at hn' hm'
    subst hn'; subst hm'
    split at h <;> rename_i ho <;> simp only [Option.some.injEq] at h <;> subst h
    · exact hn n m w ho
    · exact ⟨_, w, ⟨_, rfl, rfl⟩, Drawn.refl w, by simp [Builtin.min2, ho]⟩
    · exact ⟨_, w, ⟨_, rfl, rfl⟩, Drawn.refl w, by simp [Builtin.min2, ho]⟩
    · exact ⟨_, w, ⟨_, rfl, rfl⟩, Drawn.refl w, by simp [Builtin.min2, ho]⟩
  · rename_i p q hno
    obtain ⟨n, hn', rfl⟩ := hu
    obtain ⟨m, hm', rfl⟩ := hv
    simp only [Option.some.injEq] at h
    subst h
    refine hn n m w ?_
    cases p with
    | f b => cases q with
      | f c => exact absurd rfl (hno b c rfl)
      | nan => exact (add_nan (.inr hm')).2.2.2.2
    | nan => exact (add_nan (.inl hn')).2.2.2.2
  · cases h

theorem run_foldC {g : AC → AC → Option AC} {G : Value → Value → Sem Value} (hg : ∀ {x y z : AC}, g x y = some z → ∀ {u v : Value}, RC ρ x u → RC ρ y v → ∀ w, ∃ q w', RC ρ z q ∧ Drawn w w' ∧ (G u v).run P w = .ok q w') :
    ∀ {r : List AV} {vs : List Value}, All2 (RV ρ) r vs → ∀ {x z : AC} {u : Value}, foldC g x r = some z → RC ρ x u → ∀ w, ∃ q w', RC ρ z q ∧ Drawn w w' ∧ (vs.foldlM G u).run P w = .ok q w' := by
  intro r vs h
  induction h with
  | nil =>
    intro x z u hf hu w
    simp only [foldC, Option.some.injEq] at hf
    subst hf
    exact ⟨u, w, hu, Drawn.refl w, rfl⟩
  | @cons y v r vs h0 _ ih =>
    intro x z u hf hu w
    cases y with
    | agg _ => simp [foldC] at hf
    | c y =>
      simp only [foldC] at hf
      split at hf
      · rename_i z1 hz1
        obtain ⟨q, w1, e1, e2, e3⟩ := hg hz1 hu h0 w
        obtain ⟨q', w2, f1, f2, f3⟩ := ih hf e1 w1
        exact ⟨q', w2, f1, e2.trans f2, by simp [List.foldlM_cons, e3, f3]⟩
      · cases hf

theorem St.of_drawn (hH : RH ρ H w) {w' : World} (h : Drawn w w') : St ρ H w ρ H w' := (St.refl hH).drawn h

/-- The built-in functions that only look, and draw nothing. -/
theorem y_bi (hT : RT ρ T a.tmps) {c : Call} {b : Builtin} {b' : ABi} {xs : List AOpnd} (hc : c.callee = .builtin b) (hb : cBuiltin P b c.argTypes.toList = some b') (hxs : cOs c.args.toList = some xs) (hq : quiet (.bi b' xs) = true) (he : evOp callf T (.bi b' xs) H = some (r, H')) :
    H' = H ∧ Yld P ρ none a w ⟨dst, .call c, ty, pos, after, guard⟩ r := by
  simp only [evOp, biA] at he
  split at he
  · cases he
  rename_i vs hvs
  have hrel := evVs_rel (a := a) hT hxs hvs
  have hargs : ∀ l : List Value, c.args.toList.map a.eval = l → c.args.map a.eval = l.toArray := fun l hl => Array.ext' (by simp [hl])
  split at he
  · -- len
    rename_i x
    split at he
    · rename_i n hn
      simp only [Option.some.injEq, Prod.mk.injEq] at he
      obtain ⟨rfl, rfl⟩ := he
      refine ⟨rfl, ?_⟩
      generalize hl : c.args.toList.map a.eval = l at hrel
      cases hrel with
      | cons g0 g1 =>
        cases g1
        rename_i v
        have hts : ∃ t e, c.argTypes = #[t] ∧ P.underlying t = some (.slice e) ∧ b = .len := by
          unfold cBuiltin at hb
          split at hb
          · rename_i t ht
            split at hb
            · rename_i e hu; exact ⟨t, e, Array.ext' ht, hu, rfl⟩
            · simp at hb
            · cases hb
          all_goals first | (simp at hb; done) | (split at hb <;> first | (simp at hb; done) | (split at hb <;> simp at hb))
        obtain ⟨t, e, h1, h2, rfl⟩ := hts
        refine Yld.bi (b := .len) hc (s := Builtin.len_ c.argTypes ty (c.args.map a.eval)) (v := goInt n) (fun _ => rfl) (fun w' => ?_) rfl
        rw [h1, hargs _ hl]
        have g0' : RC ρ x v := g0
        cases x <;> simp [lenOf] at hn <;> simp only [RC] at g0'
        · subst hn; subst g0'; simp [Builtin.len_, run_underlying h2]
        · subst hn; obtain ⟨_, _, _, _, rfl, _⟩ := g0'; simp [Builtin.len_, run_underlying h2]
        · subst hn; obtain ⟨_, _, _, _, rfl, _⟩ := g0'; simp [Builtin.len_, run_underlying h2]
    · cases he
  · simp [quiet] at hq
  · simp [quiet] at hq
  · -- real
    rename_i x y
    simp only [Option.some.injEq, Prod.mk.injEq] at he
    obtain ⟨rfl, rfl⟩ := he
    refine ⟨rfl, ?_⟩
    generalize hl : c.args.toList.map a.eval = l at hrel
    cases hrel with
    | cons g0 g1 =>
      cases g1
      obtain ⟨n, m, e1, e2, rfl⟩ : RC ρ (.cpx x y) _ := g0
      have hbb : b = .real := by
        unfold cBuiltin at hb
        split at hb
        all_goals first | rfl | (simp at hb; done) | (split at hb <;> first | (simp at hb; done) | (split at hb <;> simp at hb))
      subst hbb
      refine Yld.bi (b := .real) hc (s := Builtin.real_ c.argTypes ty (c.args.map a.eval)) (v := .float .f64 n) (fun _ => rfl) (fun w' => ?_) ⟨n, e1, rfl⟩
      rw [hargs _ hl]
      rfl
  · -- imag
    rename_i x y
    simp only [Option.some.injEq, Prod.mk.injEq] at he
    obtain ⟨rfl, rfl⟩ := he
    refine ⟨rfl, ?_⟩
    generalize hl : c.args.toList.map a.eval = l at hrel
    cases hrel with
    | cons g0 g1 =>
      cases g1
      obtain ⟨n, m, e1, e2, rfl⟩ : RC ρ (.cpx x y) _ := g0
      have hbb : b = .imag := by
        unfold cBuiltin at hb
        split at hb
        all_goals first | rfl | (simp at hb; done) | (split at hb <;> first | (simp at hb; done) | (split at hb <;> simp at hb))
      subst hbb
      refine Yld.bi (b := .imag) hc (s := Builtin.imag_ c.argTypes ty (c.args.map a.eval)) (v := .float .f64 m) (fun _ => rfl) (fun w' => ?_) ⟨m, e2, rfl⟩
      rw [hargs _ hl]
      rfl
  · -- complex
    rename_i x y
    simp only [Option.some.injEq, Prod.mk.injEq] at he
    obtain ⟨rfl, rfl⟩ := he
    refine ⟨rfl, ?_⟩
    generalize hl : c.args.toList.map a.eval = l at hrel
    cases hrel with
    | cons g0 g1 =>
      cases g1 with
      | cons g1 g2 =>
        cases g2
        obtain ⟨n, e1, rfl⟩ : RC ρ (.flt x) _ := g0
        obtain ⟨m, e2, rfl⟩ : RC ρ (.flt y) _ := g1
        have hbb : b = .complex := by
          unfold cBuiltin at hb
          split at hb
          all_goals first | rfl | (simp at hb; done) | (split at hb <;> first | (simp at hb; done) | (split at hb <;> simp at hb))
        subst hbb
        refine Yld.bi (b := .complex) hc (s := Builtin.complex_ c.argTypes ty (c.args.map a.eval)) (v := .complex .f64 n m) (fun _ => rfl) (fun w' => ?_) ⟨n, m, e1, e2, rfl⟩
        rw [hargs _ hl]
        rfl
  all_goals first | (cases he; done) | (simp [quiet] at hq)
end
end Go.Ev
