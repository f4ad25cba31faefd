/-
  The given row of the searches keeps its word: whatever the input the law answers true. No conditions.
-/
import Derived.Test.YtepeiijjldpcpaaGreatRows
import Derived.Test.YtepeiijjldpcpaaGreatSvZ
import Derived.ProofKit
namespace Go.Proofs.YtepeiijjldpcpaaGreat
open Go.ChangeShapes Go.WideShapes Go.ChangeAt Go.RowKit

theorem own : ownKnob Tryz.prog.godebug = none := by kernel_rfl
theorem laid : laidOutB Tryz.prog = true := by kernel_rfl

theorem cell_int {P : Program} {w : World} {r : Reach} {base : Nat} {t : TypeId} {k : IntKind} {v : Value} (ht : P.underlying t = some (.int k)) (h : Cell.okWide P w r base t v) : ∃ n, v = .int k n ∧ k.has n := by
  simp only [Cell.okWide, ht, Cell.ok] at h
  cases v <;> simp_all

theorem cells22 : Tryz.prog.cellsOf 22 = 3 := by kernel_rfl
theorem types22 : Tryz.prog.cellTypes Tryz.prog.depth 22 = some [5, 5, 5] := by kernel_rfl
theorem cells54 : Tryz.prog.cellsOf 54 = 1 := by kernel_rfl

theorem byte_of {n : Int} (h : IntKind.u8.has n) : ∃ m : Nat, m < 256 ∧ n = Int.ofNat m := by
  obtain ⟨h1, h2⟩ := h
  have h1' : 0 ≤ n := h1
  have h2' : n ≤ 255 := h2
  exact ⟨n.toNat, by omega, (Int.toNat_of_nonneg h1').symm⟩

set_option maxRecDepth 100000 in
/-- Three bytes. -/
theorem bytes_of {W : World} {base : Nat} {v : Value} (h : Value.okWide Tryz.prog W .any base 22 v) : ∃ n0 n1 n2 : Nat, n0 < 256 ∧ n1 < 256 ∧ n2 < 256 ∧ v = .agg #[.int .u8 (Int.ofNat n0), .int .u8 (Int.ofNat n1), .int .u8 (Int.ofNat n2)] := by
  simp only [Value.okWide, Tryz.underlying22] at h
  obtain ⟨cs, rfl, hsz, ts, hts, _, hall⟩ := h
  rw [cells22] at hsz
  rw [types22] at hts
  simp only [Option.some.injEq] at hts
  subst hts
  obtain ⟨l⟩ := cs
  match l, hsz with
  | [x, y, z], _ =>
    have key : ∀ (i : Nat) (u : Value), i < 3 → (#[x, y, z] : Array Value)[i]? = some u → ∃ m : Nat, m < 256 ∧ u = .int .u8 (Int.ofNat m) := fun i u hi hu => by
      obtain ⟨t, h1, h2⟩ := hall i u hu
      have ht : t = 5 := by
        match i, hi with
        | 0, _ => simpa using h1.symm
        | 1, _ => simpa using h1.symm
        | 2, _ => simpa using h1.symm
      subst ht
      obtain ⟨n, rfl, hn⟩ := cell_int Tryz.underlying5 h2
      obtain ⟨m, hm, rfl⟩ := byte_of hn
      exact ⟨m, hm, rfl⟩
    obtain ⟨n0, h0, rfl⟩ := key 0 x (by omega) rfl
    obtain ⟨n1, h1, rfl⟩ := key 1 y (by omega) rfl
    obtain ⟨n2, h2, rfl⟩ := key 2 z (by omega) rfl
    exact ⟨n0, n1, n2, h0, h1, h2, rfl⟩

set_option maxRecDepth 100000 in
/-- A list of small whole numbers. -/
theorem list_of {H : Type} {enc : TypeId × Value → H} {W : World} {base : Nat} {v : Value} {d : DataW H} {p : List MemPlace} (h : Value.okWide Tryz.prog W .any base 23 v) (ht : DataW.Trod enc Tryz.prog W 0 (fun _ => true) true 23 v d p) : Sv.C.SliceArg W v := by
  obtain ⟨a0, len, cap, rfl⟩ := okWide_slice Tryz.underlying23 h
  obtain ⟨fuel, hf⟩ := ht
  rcases open_ints Tryz.underlying23 Tryz.underlying54 cells54 hf with ⟨hcs, _⟩ | ⟨a, len', cap', zs, hcs, _, hl, hm, hz, _, hcell, hwf⟩
  · have e : Value.slice a0 len cap = .slice none 0 0 := by
      have : (Value.slice a0 len cap).cells.toList = [.slice a0 len cap] := rfl
      rw [this] at hcs
      simpa using hcs
    exact .inl e
  · have e : Value.slice a0 len cap = .slice (some a) len' cap' := by
      have : (Value.slice a0 len cap).cells.toList = [.slice a0 len cap] := rfl
      rw [this] at hcs
      simpa using hcs
    rw [e] at h ⊢
    have hspot : a.spot = none := by
      simp only [Value.okWide, Tryz.underlying23, Cell.okWide, Cell.ok] at h
      exact h.2.2.2.1
    obtain ⟨blk, off, spot⟩ := a
    simp only at hspot
    subst hspot
    by_cases h0 : len' = 0
    · subst h0
      exact .inr (.inl ⟨blk, off, cap', rfl⟩)
    · have hpos : 0 < len' := by omega
      simp only [if_true] at hz
      have hc0 := hcell 0 (by omega)
      have hblk : ∃ arr ty fz, W.heap[blk]? = some (.cells arr ty fz) := by
        unfold World.cell? at hc0
        have e1 : ((⟨blk, off, none⟩ : Addr).add 0).block = blk := rfl
        rw [e1] at hc0
        split at hc0
        · rename_i c t fz hh
          exact ⟨c, t, fz, hh⟩
        · cases hc0
      obtain ⟨arr, ty, fz, hh⟩ := hblk
      refine .inr (.inr ⟨blk, off, len', cap', arr, ty, fz, fun i => zs.getD (i % len') 0, rfl, hpos, hh, fun i => ?_⟩)
      have hi : i % len' < zs.length := by
        have := Nat.mod_lt i hpos
        omega
      refine ⟨?_, ?_⟩
      · have := hcell (i % len') hi
        unfold World.cell? at this
        have e1 : ((⟨blk, off, none⟩ : Addr).add (i % len')) = ⟨blk, off + i % len', none⟩ := by unfold Addr.add; split <;> simp_all
        rw [e1] at this
        simp only [hh] at this
        simpa using this
      · have hmem : zs.getD (i % len') 0 ∈ zs := by
          have : zs.getD (i % len') 0 = zs[i % len'] := by simp [List.getD, hi]
          rw [this]
          simp
        have := hwf _ hmem
        have h2 : -32768 ≤ zs.getD (i % len') 0 ∧ zs.getD (i % len') 0 ≤ 32767 := by simpa [Lit.wf, IntKind.min, IntKind.max, IntKind.signed, IntKind.bits] using this
        exact ⟨h2.1, by have := h2.2; show zs.getD (i % len') 0 < 32768; omega⟩

set_option maxRecDepth 100000 in
theorem searches_lifted (os : Os) (started : os.Started) (H : Type) (enc : TypeId × Value → H) :
    ReturnsInHanded {} Tryz.checked os 3 .any (Rows.wholeSearchesSpec.pre6 enc Tryz.prog Tryz.f3 Rows.wholeSearchesRow.domain false) (Rows.wholeSearchesSpec.post enc Tryz.prog Tryz.f3 false true false false) := by
  refine returnsInHanded_of_change (C := Tryz.checked) own started (by kernel_rfl) Tryz.func3
    (ChangeSpec.witness6 (enc := enc) (C := Tryz.checked) false ⟨#[], #[.agg #[.int .u8 0, .int .u8 0, .int .u8 0], .slice none 0 0, .slice none 0 0, .int .u8 0, .int .i8 0], []⟩ 8 (by kernel_rfl) (by kernel_rfl) (by kernel_rfl) (by kernel_rfl)) ?_
  intro W base args ds gs before hval0 hW hcnd _
  have hval : ∀ (j : Nat) t v, Tryz.f3.params[j]? = some t → args[j]? = some v → Value.okWide Tryz.prog W .any base t v := hval0
  have hW' := hW
  obtain ⟨p, q, hA0, hV, rfl, hfz, hnd⟩ := hW
  have hA : DataW.TrodAll enc Tryz.prog W 0 (fun _ => true) true Tryz.f3.params.toList args.toList ds p := hA0
  rw [Tryz.params3] at hA hval
  obtain ⟨v0, r0, d0, s0, p0, q0, hargs, rfl, rfl, t0, hA⟩ := trodAll_cons hA
  obtain ⟨v1, r1, d1, s1, p1, q1, rfl, rfl, rfl, t1, hA⟩ := trodAll_cons hA
  obtain ⟨v2, r2, d2, s2, p2, q2, rfl, rfl, rfl, t2, hA⟩ := trodAll_cons hA
  obtain ⟨v3, r3, d3, s3, p3, q3, rfl, rfl, rfl, t3, hA⟩ := trodAll_cons hA
  obtain ⟨v4, r4, d4, s4, p4, q4, rfl, rfl, rfl, t4, hA⟩ := trodAll_cons hA
  obtain ⟨rfl, rfl, rfl⟩ := trodAll_nil hA
  obtain rfl : args = #[v0, v1, v2, v3, v4] := by cases args; simp_all
  obtain ⟨rfl, rfl⟩ := trodVars_none hV
  clear hA0 hval0
  simp only [List.append_nil] at hW'
  obtain ⟨n0, n1, n2, g0, g1, g2, rfl⟩ := bytes_of (hval 0 22 v0 rfl rfl)
  have l1 := list_of (hval 1 23 v1 rfl rfl) t1
  have l2 := list_of (hval 2 23 v2 rfl rfl) t2
  obtain ⟨st, rfl, hst⟩ : ∃ n, v3 = .int .u8 n ∧ IntKind.u8.has n := cell_int Tryz.underlying5 (by have := hval 3 5 v3 rfl rfl; simpa [Value.okWide, Tryz.underlying5] using this)
  obtain ⟨lv, rfl, hlv⟩ : ∃ n, v4 = .int .i8 n ∧ IntKind.i8.has n := cell_int Tryz.underlying24 (by have := hval 4 24 v4 rfl rfl; simpa [Value.okWide, Tryz.underlying24] using this)
  have hlt : ∀ x ∈ p0 ++ (p1 ++ (p2 ++ (p3 ++ p4))), x.block < W.heap.size := fun x hx => by simpa using hW'.lt x hx
  refine (Sv.C.searches_any g0 g1 g2 l1 l2 (st := st) (lv := lv) ⟨hst.1, hst.2⟩ ⟨hlv.1, hlv.2⟩).mono fun e W' ⟨he, hk⟩ => ?_
  subst he
  have hb : Below W.heap.size W W' := ⟨hk.os, hk.tape, hk.output, hk.size, hk.frame⟩
  have carry : ∀ {t : TypeId} {v : Value} {d : DataW H} {ps : List MemPlace}, Tryz.prog.readableRec t = true → t < Tryz.prog.types.size → DataW.Trod enc Tryz.prog W 0 (fun _ => true) true t v d ps → (∀ x ∈ ps, x.block < W.heap.size) → DataW.Trod enc Tryz.prog W' 0 (fun b => decide (b < W.heap.size)) true t v d ps :=
    fun hr hrow h hl => Below.trod laid hr hrow h hb hl
  refine ⟨_, rfl, [d0, d1, d2, d3, d4], [], _, [], p0 ++ (p1 ++ (p2 ++ (p3 ++ p4))), [], hW', trodAll_mk1 (shut_bool Tryz.underlying4 _), ?_, rfl, hb.frame _, fun h => nomatch h⟩
  have b0 := carry (by kernel_rfl) (of_decide_eq_true (by kernel_rfl)) t0 (fun x hx => hlt x (by simp [hx]))
  have b1 := carry (by kernel_rfl) (of_decide_eq_true (by kernel_rfl)) t1 (fun x hx => hlt x (by simp [hx]))
  have b2 := carry (by kernel_rfl) (of_decide_eq_true (by kernel_rfl)) t2 (fun x hx => hlt x (by simp [hx]))
  have b3 := carry (by kernel_rfl) (of_decide_eq_true (by kernel_rfl)) t3 (fun x hx => hlt x (by simp [hx]))
  have b4 := carry (by kernel_rfl) (of_decide_eq_true (by kernel_rfl)) t4 (fun x hx => hlt x (by simp [hx]))
  exact ⟨p0, _, b0, ⟨p1, _, b1, ⟨p2, _, b2, ⟨p3, _, b3, trodAll_mk1 b4, rfl⟩, rfl⟩, rfl⟩, rfl⟩

theorem searches_holds : Rows.WholeSearchesSaid :=
  OpenClaim.holds_of_wide 3 Tryz.f3 rfl rfl rfl rfl rfl rfl rfl ⟨rfl, rfl, rfl, rfl, rfl⟩ rfl rfl rfl rfl rfl (by kernel_rfl) Tryz.func3 (by kernel_rfl)
    (of_decide_eq_true (by kernel_rfl)) (by unfold Func.isWrapper; first | (rw [if_pos (by decide +kernel)]; kernel_rfl) | (rw [if_neg (by decide +kernel)]; exact ⟨rfl, rfl⟩))
    (fun os started H enc _ => searches_lifted os started H enc)

end Go.Proofs.YtepeiijjldpcpaaGreat
