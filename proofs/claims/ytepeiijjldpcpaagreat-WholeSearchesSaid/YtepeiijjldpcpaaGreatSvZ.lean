/-
  The law answers true, whatever the input. No conditions.
-/
import Derived.Test.YtepeiijjldpcpaaGreatSvYt
import Derived.Test.YtepeiijjldpcpaaGreatSvRa
import Derived.Test.YtepeiijjldpcpaaGreatSvRb
import Derived.Test.YtepeiijjldpcpaaGreatSvRc
import Derived.Test.YtepeiijjldpcpaaGreatSvRd
import Derived.Test.YtepeiijjldpcpaaGreatSvRe
import Derived.Test.YtepeiijjldpcpaaGreatSvRf
import Derived.Test.YtepeiijjldpcpaaGreatSvRg
import Derived.Test.YtepeiijjldpcpaaGreatSvRh
import Derived.Test.YtepeiijjldpcpaaGreatSvRi
import Derived.Test.YtepeiijjldpcpaaGreatSvRj
import Derived.Test.YtepeiijjldpcpaaGreatSvRk
import Derived.Test.YtepeiijjldpcpaaGreatSvRl
namespace Go.Sv.C
open Go.Sv Go.Proofs Go.Fl

theorem shape_all {a b c : Nat} (ha : 1 ≤ a ∧ a ≤ 4) (hb : 1 ≤ b ∧ b ≤ 4) (hc : 1 ≤ c ∧ c ≤ 3) : AllOK a b c ∧ 1 ≤ mul3 a b c ∧ mul3 a b c ≤ 48 := by
  have ha : a = 1 ∨ a = 2 ∨ a = 3 ∨ a = 4 := by omega
  have hb : b = 1 ∨ b = 2 ∨ b = 3 ∨ b = 4 := by omega
  have hc : c = 1 ∨ c = 2 ∨ c = 3 := by omega
  rcases ha with rfl | rfl | rfl | rfl <;> rcases hb with rfl | rfl | rfl | rfl <;> rcases hc with rfl | rfl | rfl
  · exact ⟨all111, by decide, by decide⟩
  · exact ⟨all112, by decide, by decide⟩
  · exact ⟨all113, by decide, by decide⟩
  · exact ⟨all121, by decide, by decide⟩
  · exact ⟨all122, by decide, by decide⟩
  · exact ⟨all123, by decide, by decide⟩
  · exact ⟨all131, by decide, by decide⟩
  · exact ⟨all132, by decide, by decide⟩
  · exact ⟨all133, by decide, by decide⟩
  · exact ⟨all141, by decide, by decide⟩
  · exact ⟨all142, by decide, by decide⟩
  · exact ⟨all143, by decide, by decide⟩
  · exact ⟨all211, by decide, by decide⟩
  · exact ⟨all212, by decide, by decide⟩
  · exact ⟨all213, by decide, by decide⟩
  · exact ⟨all221, by decide, by decide⟩
  · exact ⟨all222, by decide, by decide⟩
  · exact ⟨all223, by decide, by decide⟩
  · exact ⟨all231, by decide, by decide⟩
  · exact ⟨all232, by decide, by decide⟩
  · exact ⟨all233, by decide, by decide⟩
  · exact ⟨all241, by decide, by decide⟩
  · exact ⟨all242, by decide, by decide⟩
  · exact ⟨all243, by decide, by decide⟩
  · exact ⟨all311, by decide, by decide⟩
  · exact ⟨all312, by decide, by decide⟩
  · exact ⟨all313, by decide, by decide⟩
  · exact ⟨all321, by decide, by decide⟩
  · exact ⟨all322, by decide, by decide⟩
  · exact ⟨all323, by decide, by decide⟩
  · exact ⟨all331, by decide, by decide⟩
  · exact ⟨all332, by decide, by decide⟩
  · exact ⟨all333, by decide, by decide⟩
  · exact ⟨all341, by decide, by decide⟩
  · exact ⟨all342, by decide, by decide⟩
  · exact ⟨all343, by decide, by decide⟩
  · exact ⟨all411, by decide, by decide⟩
  · exact ⟨all412, by decide, by decide⟩
  · exact ⟨all413, by decide, by decide⟩
  · exact ⟨all421, by decide, by decide⟩
  · exact ⟨all422, by decide, by decide⟩
  · exact ⟨all423, by decide, by decide⟩
  · exact ⟨all431, by decide, by decide⟩
  · exact ⟨all432, by decide, by decide⟩
  · exact ⟨all433, by decide, by decide⟩
  · exact ⟨all441, by decide, by decide⟩
  · exact ⟨all442, by decide, by decide⟩
  · exact ⟨all443, by decide, by decide⟩

/-- A list of small whole numbers that came in. -/
def SliceArg (W : World) (v : Value) : Prop := v = .slice none 0 0 ∨ (∃ c o k, v = .slice (some ⟨c, o, none⟩) 0 k) ∨
  ∃ (c o l k : Nat) (arr : Array Value) (ty : TypeId) (fz : Nat × Nat) (el : Nat → Int), v = .slice (some ⟨c, o, none⟩) l k ∧ 0 < l ∧ W.heap[c]? = some (.cells arr ty fz) ∧ ∀ i, arr[o + i % l]? = some (.int .i16 (el i)) ∧ -32768 ≤ el i ∧ el i < 32768

theorem SliceArg.one {W : World} {v : Value} (h : SliceArg W v) : v.oneCell' = true := by
  rcases h with rfl | ⟨c, o, k, rfl⟩ | ⟨c, o, l, k, arr, ty, fz, el, rfl, _⟩ <;> rfl

/-- What came in. -/
def argX (W : World) (v1 v2 : Value) (n0 n1 n2 : Nat) : Ctx :=
  { ctx0 with
    fv := fun j => if j = 0 then v1 else v2
    ia := fun j => Int.ofNat (if j = 0 then n0 else if j = 1 then n1 else n2)
    h0 := W.heap
    lim := W.heap.size }

theorem tmod_in (n : Int) : -49 ≤ n.tmod 50 ∧ n.tmod 50 ≤ 49 := by
  have h1 := Int.tmod_lt_of_pos n (show (0 : Int) < 50 by decide)
  have h3 := Int.tmod_lt_of_pos (-n) (show (0 : Int) < 50 by decide)
  rw [Int.neg_tmod] at h3
  omega

theorem elB_val (el : Nat → Int) (t : Nat) : val (elB el t) = some (((el t).tmod 50 : Int) : Rat) := by
  have := tmod_in (el t)
  exact small_val (by omega) (by omega)

theorem elB_in (el : Nat → Int) (t : Nat) : ∃ q, val (elB el t) = some q ∧ ab q ≤ 49 := by
  refine ⟨_, elB_val el t, ?_⟩
  obtain ⟨h1, h2⟩ := tmod_in (el t)
  refine ab_le ?_ ?_
  · have := int_le h2; exact this
  · have := int_le h1
    have e : ((-49 : Int) : Rat) = -49 := rfl
    rw [e] at this
    grind

/-- Names where the density is nought. -/
def nmZ (gB : Nat → Nat) (lvb i : Nat) : Nat := if i = 150 then lvb else if 300 ≤ i then gB (i - 300) else 0

/-- The context where the density is nought. -/
def zeroX (X : Ctx) (N : Nat) (hN : 1 ≤ N) (nm : Nat → Nat) : Ctx :=
  { X with
    nm := nm
    vq := fun _ => 1
    M := 1
    np := N + 1
    M1 := Rat.le_refl
    M2 := by have := p2_mono (show (0 : Int) ≤ 400 by omega); rw [p2_zero] at this; exact this
    M3 := fun _ => by have := p2_mono (show (0 : Int) ≤ 60 by omega); rw [p2_zero] at this; exact this
    M4 := fun _ => by have := p2_mono (show (0 : Int) ≤ 20 by omega); rw [p2_zero] at this; exact this
    v0 := rfl
    vb := fun _ => by rw [ab_of_nonneg (by decide)]; exact Rat.le_refl
    vp := fun _ _ _ => by decide
    vs := fun _ => by
      have h := psum_ge (v := fun _ => (1 : Rat)) (N + 1 - 1) 1 1 (fun _ _ _ => by decide) (Nat.le_refl 1) (by omega)
      have h' : (1 : Rat) ≤ psum (fun _ => (1 : Rat)) (N + 1 - 1) 1 := h
      grind }

/-- Where a list stands in a context that has what came in. -/
theorem full_of {W : World} {X : Ctx} {j : Nat} {v : Value} (hv : X.fv j = v) (hh : X.h0 = W.heap) (hl : X.lim = W.heap.size) {c o l k : Nat} {arr : Array Value} {ty : TypeId} {fz : Nat × Nat} {el : Nat → Int} (e1 : v = .slice (some ⟨c, o, none⟩) l k) (e2 : 0 < l) (e3 : W.heap[c]? = some (.cells arr ty fz))
    (e4 : ∀ i, arr[o + i % l]? = some (.int .i16 (el i)) ∧ -32768 ≤ el i ∧ el i < 32768) : Full X j el :=
  ⟨c, o, l, k, arr, ty, fz, hv.trans e1, e2, by rw [hl]; exact (Array.getElem?_eq_some_iff.1 e3).1, by rw [hh]; exact e3, fun i _ => e4 i⟩

/-- What the search starts from. -/
theorem start_of {W : World} {v2 : Value} (s2 : SliceArg W v2) : ∃ gB : Nat → Nat, (∀ t, ∃ q, val (gB t) = some q ∧ ab q ≤ 49) ∧
    ∀ (N : Nat) (X : Ctx), X.fv 1 = v2 → X.h0 = W.heap → X.lim = W.heap.size → (∀ t, t < N → X.nm (300 + t) = gB t) → StartOK N X := by
  rcases s2 with h | ⟨c, o, k, h⟩ | ⟨c, o, l, k, arr, ty, fz, el, e1, e2, e3, e4⟩
  · exact ⟨fun _ => 0, fun _ => ⟨0, val_zero, by rw [ab_zero]; decide⟩, fun N X hv _ _ hn => .inr ⟨.inl (hv.trans h), hn⟩⟩
  · exact ⟨fun _ => 0, fun _ => ⟨0, val_zero, by rw [ab_zero]; decide⟩, fun N X hv _ _ hn => .inr ⟨.inr ⟨c, o, k, hv.trans h⟩, hn⟩⟩
  · exact ⟨elB el, elB_in el, fun N X hv hh hl hn => .inl ⟨el, full_of hv hh hl e1 e2 e3 e4, hn⟩⟩

theorem level_of {lv : Int} (h : -128 ≤ lv ∧ lv ≤ 127) : ∃ q, val (FloatKind.f64.nearest lv) = some q ∧ ab q ≤ Fl.p2 10 := by
  refine ⟨_, small_val h.1 h.2, ?_⟩
  have e : Fl.p2 10 = 1024 := by have := p2_nat 10; simpa using this
  rw [e]
  refine ab_le ?_ ?_
  · have := int_le h.2
    have e1 : ((127 : Int) : Rat) = 127 := rfl
    rw [e1] at this
    grind
  · have := int_le h.1
    have e1 : ((-128 : Int) : Rat) = -128 := rfl
    rw [e1] at this
    grind

theorem searches_any {W : World} {n0 n1 n2 : Nat} (h0 : n0 < 256) (h1 : n1 < 256) (h2 : n2 < 256) {v1 v2 : Value} (s1 : SliceArg W v1) (s2 : SliceArg W v2) {st lv : Int} (hst : 0 ≤ st ∧ st ≤ 255) (hlv : -128 ≤ lv ∧ lv ≤ 127) :
    Calls Tryz.prog 3 #[.agg #[.int .u8 (Int.ofNat n0), .int .u8 (Int.ofNat n1), .int .u8 (Int.ofNat n2)], v1, v2, .int .u8 st, .int .i8 lv] W (trueAnd W) := by
  obtain ⟨ha1, ha2, _⟩ := lenF_ok (m := 4) (.inr rfl) h0
  obtain ⟨hb1, hb2, _⟩ := lenF_ok (m := 4) (.inr rfl) h1
  obtain ⟨hc1, hc2, _⟩ := lenF_ok (m := 3) (.inl rfl) h2
  obtain ⟨hall, hN1, hN⟩ := shape_all ⟨ha1, ha2⟩ ⟨hb1, hb2⟩ ⟨hc1, hc2⟩
  obtain ⟨gB, hg, hstart⟩ := start_of s2
  have hlens : ∀ X : Ctx, X.ia = (argX W v1 v2 n0 n1 n2).ia → LensOK (lenF 4 n0) (lenF 4 n1) (lenF 3 n2) X := fun X hX => ⟨⟨n0, h0, by rw [hX]; rfl, rfl⟩, ⟨n1, h1, by rw [hX]; rfl, rfl⟩, ⟨n2, h2, by rw [hX]; rfl, rfl⟩⟩
  generalize lenF 4 n0 = a at *
  generalize lenF 4 n1 = b at *
  generalize lenF 3 n2 = c at *
  have zero : ∀ (hd : ∀ X : Ctx, X.fv 0 = v1 → X.h0 = W.heap → X.lim = W.heap.size → DensZ (mul3 a b c) X), Calls Tryz.prog 3 #[.agg #[.int .u8 (Int.ofNat n0), .int .u8 (Int.ofNat n1), .int .u8 (Int.ofNat n2)], v1, v2, .int .u8 st, .int .i8 lv] W (trueAnd W) := fun hd => by
    have hX : LawZ (nmZ gB (FloatKind.f64.nearest lv)) a b c (zeroX (argX W v1 v2 n0 n1 n2) (mul3 a b c) hN1 (nmZ gB (FloatKind.f64.nearest lv))) :=
      ⟨rfl, rfl, hN1, hstart _ _ rfl rfl rfl (fun t _ => by
        show nmZ gB (FloatKind.f64.nearest lv) (300 + t) = gB t
        unfold nmZ
        rw [if_neg (by omega), if_pos (by omega), show 300 + t - 300 = t from by omega]), hlens _ rfl, hd _ rfl rfl rfl⟩
    have e150 : nmZ gB (FloatKind.f64.nearest lv) 150 = FloatKind.f64.nearest lv := by unfold nmZ; rw [if_pos rfl]
    have h150 : ∃ q, val (nmZ gB (FloatKind.f64.nearest lv) 150) = some q ∧ ab q ≤ Fl.p2 10 := by rw [e150]; exact level_of hlv
    exact lawZ_calls hall hX s1.one s2.one hst ⟨e150, h150⟩ (Nat.le_refl _) (fun _ _ => rfl)
  rcases s1 with hv | ⟨c0, o, k, hv⟩ | ⟨c0, o, l, k, arr, ty, fz, el, e1, e2, e3, e4⟩
  · exact zero fun X hX _ _ => .inr (.inl (hX.trans hv))
  · exact zero fun X hX _ _ => .inr (.inr ⟨c0, o, k, hX.trans hv⟩)
  · by_cases hnz : ∃ t, t < mul3 a b c ∧ (el t).tmod 50 ≠ 0
    · have hd : Dens a b c (elB el) := ⟨fun t ht => ⟨_, elB_val el t, (tmod_in _).1, (tmod_in _).2⟩, by obtain ⟨t, ht, hn⟩ := hnz; exact ⟨t, ht, _, elB_val el t, hn⟩⟩
      have hs := hall.base.sh
      have hk6 : (st % 6).toNat < 6 := by omega
      have hkk : st % 6 = ((st % 6).toNat : Int) := by omega
      generalize (st % 6).toNat = kk at *
      have hX : LawX (nmF a b c (elB el) gB (FloatKind.f64.nearest lv) kk) a b c kk (lawX (argX W v1 v2 n0 n1 n2) hd hs hN (nmF a b c (elB el) gB (FloatKind.f64.nearest lv) kk)) :=
        ⟨rfl, rfl, hN1, hstart _ _ rfl rfl rfl (fun t ht => nm_g (by omega)), hlens _ rfl, ⟨main_names hd hs hN hN1, el, full_of rfl rfl rfl e1 e2 e3 e4, fun t ht => nm_d (by omega)⟩, step_names hN rfl, stay_names hd hs hN, now_names hd hs hN (fun t _ => hg t) (by omega)⟩
      have s1' : v1.oneCell' = true := by rw [e1]; rfl
      have e150 : nmF a b c (elB el) gB (FloatKind.f64.nearest lv) kk 150 = FloatKind.f64.nearest lv := nm_l
      have h150 : ∃ q, val (nmF a b c (elB el) gB (FloatKind.f64.nearest lv) kk 150) = some q ∧ ab q ≤ Fl.p2 10 := by rw [e150]; exact level_of hlv
      exact law_calls hk6 hall hX s1' s2.one ⟨hst.1, hst.2, hkk⟩ ⟨e150, h150⟩ (Nat.le_refl _) (fun _ _ => rfl)
    · exact zero fun X hX hh hl => .inl ⟨el, full_of hX hh hl e1 e2 e3 e4, fun i hi => by
        by_cases hz : (el i).tmod 50 = 0
        · exact hz
        · exact absurd ⟨i, hi, hz⟩ hnz⟩

end Go.Sv.C
