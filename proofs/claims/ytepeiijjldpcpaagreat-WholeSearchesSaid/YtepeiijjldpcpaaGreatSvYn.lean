/- Densities of lists and their waves. No conditions.
-/
import Derived.Test.YtepeiijjldpcpaaGreatSvYl
set_option linter.all false
namespace Go.Sv.C
open Go.Sv Go.Proofs Go.Fl

abbrev smallC : GoodC := ⟨fun X => X.M ≤ Fl.p2 20⟩

/- ### Nothing but noughts -/

def zeros : Nat → List AC
  | 0 => []
  | n + 1 => .cpx (.f 0) (.f 0) :: zeros n

def allZ : List AC → Bool
  | [] => true
  | .cpx (.f 0) (.f 0) :: r => allZ r
  | _ => false

noncomputable def zeroRun (a b c : Nat) : Option (AT × AH) :=
  fz (mul3 a b c) fun N => fzL (corners a b c) fun hs => fzL (zeros N) fun gs =>
  evFQ envQ ovI 1000 11 [.agg (sideL a b c ++ [.sl 0 0 N none]), .c (.sl 1 0 N none)] (heapL [.cells gs false, .cells hs false])

theorem zeroRun_eq (a b c : Nat) : zeroRun a b c = evFQ envQ ovI 1000 11 [.agg (sideL a b c ++ [.sl 0 0 (mul3 a b c) none]), .c (.sl 1 0 (mul3 a b c) none)] (heapL [.cells (zeros (mul3 a b c)) false, .cells (corners a b c) false]) := by
  unfold zeroRun; rw [fz_eq, fzL_eq, fzL_eq]

def zeroChk (a b c : Nat) (x : Option (AT × AH)) : Bool :=
  match wavesOut a b c x with
  | some vs => allZ vs && Nat.beq vs.length (mul3 a b c)
  | none => false

def rowWavesZ (a b c : Nat) (args : List AV) (H : AH) : Option (AT × AH) :=
  match args with
  | [.agg [.int .i64 (.ofNat a'), .int .i64 (.ofNat b'), .int .i64 (.ofNat c'), g], .c hs] =>
    bif Nat.beq a' a && Nat.beq b' b && Nat.beq c' c then
      match cellsU H 1 (mul3 a b c) g, cellsU H 3 (mul3 a b c) hs with
      | some (bg, cs), some (bh, is) =>
        bif isCorners is a b c && distinct [bg, bh] && allZ cs then
          fzL (wavesS (corners a b c) (zeros (mul3 a b c))) fun outs => some (.tup [.c (.osl H.n (mul3 a b c) 4), .c (.int .i64 (.ofNat 0))], H.new (.cells outs false))
        else none
      | _, _ => none
    else none
  | _ => none

theorem allZ_eq : ∀ {cs : List AC}, allZ cs = true → cs = zeros cs.length
  | [], _ => rfl
  | x :: r, h => by
    have key : x = .cpx (.f 0) (.f 0) ∧ allZ r = true := by
      cases x with
      | cpx p q =>
        cases p with
        | f k =>
          cases k with
          | zero =>
            cases q with
            | f l =>
              cases l with
              | zero => exact ⟨rfl, h⟩
              | succ l => exact absurd (show false = true from h) (by decide)
            | _ => exact absurd (show false = true from h) (by decide)
          | succ k => exact absurd (show false = true from h) (by decide)
        | _ => exact absurd (show false = true from h) (by decide)
      | _ => exact absurd (show false = true from h) (by decide)
    obtain ⟨rfl, h2⟩ := key
    simp only [List.length_cons, zeros]
    rw [← allZ_eq h2]

/-- The same noughts in any memory. -/
theorem zeros_rel {gi gj : GoodC} {ρ : @Rho gi} {ρ' : @Rho gj} : ∀ {n : Nat} {vs : List Value}, RCs (gi := gi) ρ (zeros n) vs → RCs (gi := gj) ρ' (zeros n) vs
  | 0, _, h => by cases h; exact .nil
  | n + 1, _, h => by
    cases h with
    | cons h0 h1 =>
    obtain ⟨x, y, hx, hy, rfl⟩ := h0
    exact .cons ⟨x, y, hx, hy, rfl⟩ (zeros_rel h1)

theorem zeros_vals {gi : GoodC} {ρ : @Rho gi} : ∀ {n : Nat} {vs : List Value}, RCs (gi := gi) ρ (zeros n) vs → ∀ i, vs = cpxV (fun _ => 0) n i
  | 0, _, h, i => by cases h; rfl
  | n + 1, _, h, i => by
    cases h with
    | cons h0 h1 =>
    obtain ⟨x, y, hx, hy, rfl⟩ := h0
    have hx' : x = 0 := hx
    have hy' : y = 0 := hy
    subst hx'; subst hy'
    simp only [cpxV]
    rw [zeros_vals h1 (i + 2)]

section
variable [gi : GoodC]

theorem rowWavesZ_ok {a b c : Nat} (hz : zeroChk a b c (zeroRun a b c) = true) (args : List AV) (H : AH) (r : AT) (H' : AH) (h : rowWavesZ a b c args H = some (r, H')) : RowOK Tryz.prog 11 args H r H' := by
  unfold rowWavesZ at h
  split at h
  case h_2 => cases h
  rename_i a' b' c' g hsl
  cases hb1 : Nat.beq a' a && Nat.beq b' b && Nat.beq c' c
  · rw [hb1] at h; cases h
  rw [hb1, cond_true] at h
  simp only [Bool.and_eq_true] at hb1
  have ea := (Nat.eq_of_beq_eq_true hb1.1.1).symm
  have eb := (Nat.eq_of_beq_eq_true hb1.1.2).symm
  have ec := (Nat.eq_of_beq_eq_true hb1.2).symm
  subst ea; subst eb; subst ec
  split at h
  case h_2 => cases h
  rename_i bg cs bh is hg hh
  cases hb2 : isCorners is a b c && distinct [bg, bh] && allZ cs
  · rw [hb2] at h; cases h
  rw [hb2, cond_true, fzL_eq] at h
  simp only [Bool.and_eq_true] at hb2
  have hic := isCorners_eq hb2.1.1
  subst hic
  simp only [Option.some.injEq, Prod.mk.injEq] at h
  obtain ⟨rfl, rfl⟩ := h
  have hcz := allZ_eq hb2.2
  obtain ⟨⟨fg, hbg⟩, hlg, hvg⟩ := cellsU_ok (gi := gi) hg
  obtain ⟨⟨fh, hbh⟩, hlh, hvh⟩ := cellsU_ok (gi := gi) hh
  have hcl : cs.length = mul3 a b c := by rw [hlg, Nat.mul_one]
  rw [hcl] at hcz
  subst hcz
  unfold zeroChk at hz
  split at hz
  case h_2 => cases hz
  rename_i xs hxs
  simp only [Bool.and_eq_true] at hz
  have hxz := allZ_eq hz.1
  rw [Nat.eq_of_beq_eq_true hz.2] at hxz
  subst hxz
  obtain ⟨b2, H2, ys, is2, y1, y2, y3, y4, y5⟩ := wavesOut_spec hxs
  subst y5
  rw [zeroRun_eq] at y1
  refine small_row' (gi := gi) (gj := triv) (run_ok (gi := triv) (ovI_ok (gi := triv)) 1000) (has_body (q := q11) (by kernel_rfl)) fun ρ w vs hH hargs => ?_
  cases hargs with
  | cons g0 g1 =>
  cases g1 with
  | cons g1 g2 =>
  cases g2
  obtain ⟨av, rfl, hav⟩ := g0
  cases hav with
  | cons a0 hav => cases hav with
  | cons a1 hav => cases hav with
  | cons a2 hav => cases hav with
  | cons a3 hav =>
  cases hav
  obtain ⟨cg, mg, kg, r1, rfl, r3⟩ := hvg _ a3
  obtain ⟨ch, mh, kh, t1, rfl, t3⟩ := hvh _ g1
  let X0 := bareX ρ.X
  let ρ0 : @Rho triv := sub' (gi := gi) triv ρ X0 trivial [bg, bh]
  have hH0 : RH (gi := triv) ρ0 (heapL [.cells (zeros (mul3 a b c)) false, .cells (corners a b c) false]) w :=
    small_rh' (gi := gi) (gj := triv) hH X0 trivial rfl [bg, bh] _ hb2.1.2 (.cons ⟨_, hbg, fun m obj ho => cells_seen (gi := gi) (gj := triv) (fun vs hv => zeros_rel (gi := gi) (gj := triv) hv) m obj ho⟩ (.cons ⟨_, hbh, fun m obj ho => cells_seen (gi := gi) (gj := triv) (fun vs hv => corners_rel (gi := gi) (gj := triv) hv) m obj ho⟩ .nil))
  have hargs0 : All2 (RV (gi := triv) ρ0) [.agg (sideL a b c ++ [.sl 0 0 (mul3 a b c) none]), .c (.sl 1 0 (mul3 a b c) none)] [.agg #[_, _, _, .slice (some ⟨cg, 0, none⟩) (mul3 a b c) kg], .slice (some ⟨ch, 0, none⟩) (mul3 a b c) kh] :=
    .cons ⟨_, rfl, .cons a0 (.cons a1 (.cons a2 (.cons ⟨cg, mg, kg, (sub'_r (gi := gi) (gj := triv) ρ X0 trivial [bg, bh] (i := 0) rfl).trans r1, rfl, r3, fun _ h => by cases h⟩ .nil)))⟩ (.cons ⟨ch, mh, kh, (sub'_r (gi := gi) (gj := triv) ρ X0 trivial [bg, bh] (i := 1) rfl).trans t1, rfl, t3, fun _ h => by cases h⟩ .nil)
  refine ⟨ρ0, _, _, _, H2, hH0, heapL_shut _, hargs0, y1, fun v ρ0' w' hk k2 k3 => ?_⟩
  obtain ⟨c1, m1', obj1, s1, s2, s3, s4⟩ := St.made (gi := triv) k2 (heapL_shut _) y3 (by rw [heapL_p]; show ¬ b2 < 2; omega)
  obtain ⟨arr1, ty1, pre1, rest1, z1, z2, z3, z4, z5⟩ := s3
  obtain ⟨pi, pc, rfl, z6, z7⟩ := splitW_parts (gi := triv) y4 z4
  have ho : RO ρ m1' (.cells (wavesS (corners a b c) (zeros (mul3 a b c))) false) obj1 :=
    ⟨arr1, ty1, wavesV pi pc, rest1, z1, z2, z3, wavesS_rel (corners_rel (gi := triv) (gj := gi) z6) (zeros_rel (gi := triv) (gj := gi) z7), fun h => by cases h⟩
  refine ⟨_, (hk.st hH).add hH.lim s2 s4 ho (fun i o m2 hi e => absurd (hH.lt hi e) (by omega)), ?_⟩
  obtain ⟨vv, rfl, hvv⟩ := k3
  cases hvv with
  | cons w0 w1 => cases w1 with
  | cons w1 w2 =>
  cases w2
  obtain ⟨c2, m2, k2', u1, rfl, u3, u4⟩ := w0
  rw [s1] at u1
  obtain ⟨rfl, rfl⟩ : c1 = c2 ∧ m1' = m2 := by simpa using u1
  exact ⟨_, rfl, .cons ⟨c1, m1', k2', by rw [up_r, if_pos rfl], rfl, u3, u4⟩ (.cons w1 .nil)⟩
end

/- ### The runs of a density and its waves -/

/-- The one row, else the other. -/
def ovElse (k : Nat) (row : List AV → AH → Option (AT × AH)) (ov : CallF) : CallF := fun f args H =>
  bif Nat.beq f k then
    match row args H with
    | some r => some r
    | none => ov f args H
  else ov f args H

noncomputable def ovW (a b c : Nat) : CallF := ovElse 11 (rowWavesZ a b c) (ovAdd 11 (rowWavesG 0 a b c) ov0)

theorem ovElse_ok [gi : GoodC] {P : Program} {k : Nat} {row : List AV → AH → Option (AT × AH)} {ov : CallF} (hrow : ∀ args H r H', row args H = some (r, H') → RowOK P k args H r H') (hov : CallsOK P ov) : CallsOK P (ovElse k row ov) := by
  intro f args H r H' h
  unfold ovElse at h
  cases hb : Nat.beq f k
  · rw [hb, cond_false] at h; exact hov f args H r H' h
  · rw [hb, cond_true] at h
    have := Nat.eq_of_beq_eq_true hb
    subst this
    split at h
    · rename_i r1 hr
      simp only [Option.some.injEq] at h
      subst h
      exact hrow args H r H' hr
    · exact hov _ args H r H' h

/-- A list that came in. -/
def rawH (j : Nat) : AH := { t := .node (some (.raw j)) .nil .nil, n := 1, p := [0] }
/-- A list that came in, with nothing in it. -/
def noneH : AH := { t := .nil, n := 1, p := [] }

noncomputable def wavedRun (a b c : Nat) (s : AC) (H : AH) : Option (AT × AH) :=
  evFQ envQ (ovW a b c) 1000 5 [.agg (sideL a b c), .c s] H

/-- Real numbers' bits, and what is known of them. -/
def realsOf : List AC → Option (List Nat × List Fm)
  | [] => some ([], [])
  | .cpx (.s n F) (.f 0) :: r =>
    match realsOf r with
    | some (l, fs) => some (n :: l, F :: fs)
    | none => none
  | _ => none

/-- The density's bits and its waves'. -/
def wavedOut (a b c : Nat) (x : Option (AT × AH)) : Option (List Nat × List Nat) :=
  match x with
  | some (.tup [.c (.osl bw l 4), .agg [.int .i64 (.ofNat a'), .int .i64 (.ofNat b'), .int .i64 (.ofNat c'), .sl bg 0 k (some k')], .c (.bool true)], H) =>
    bif Nat.beq a' a && Nat.beq b' b && Nat.beq c' c && Nat.beq l (mul3 a b c) && Nat.beq k (mul3 a b c) && Nat.beq k' (mul3 a b c) && Nat.ble 1 bw && Nat.ble 1 bg && !Nat.beq bw bg then
      match H.t.get bw, H.t.get bg with
      | some (.cells ws false), some (.cells gs true) =>
        match splitW ws, realsOf gs with
        | some (is, cs), some (rs, fs) =>
          match fmL cs with
          | some _ => bif isCorners is a b c && Nat.beq rs.length (mul3 a b c) && bdsIn (Nat.shiftLeft 1 106) fs then some (rs, bitsOf cs) else none
          | none => none
        | _, _ => none
      | _, _ => none
    else none
  | _ => none

/-- .. where all are noughts. -/
def wavedZ (a b c : Nat) (x : Option (AT × AH)) : Bool :=
  match x with
  | some (.tup [.c (.osl bw l 4), .agg [.int .i64 (.ofNat a'), .int .i64 (.ofNat b'), .int .i64 (.ofNat c'), .sl bg 0 k (some k')], .c (.bool true)], H) =>
    Nat.beq a' a && Nat.beq b' b && Nat.beq c' c && Nat.beq l (mul3 a b c) && Nat.beq k (mul3 a b c) && Nat.beq k' (mul3 a b c) && Nat.ble 1 bw && Nat.ble 1 bg && !Nat.beq bw bg &&
      match H.t.get bw, H.t.get bg with
      | some (.cells ws false), some (.cells gs true) =>
        match splitW ws with
        | some (is, cs) => isCorners is a b c && Nat.beq gs.length (mul3 a b c) && allZ gs && allZ cs
        | _ => false
      | _, _ => false
  | _ => false

def elBits (e : Nat → Int) : Nat → Nat → List Nat
  | 0, _ => []
  | n + 1, j => FloatKind.f64.nearest ((e j).tmod 50) :: elBits e n (Nat.succ j)

def elB (e : Nat → Int) : Nat → Nat := fun j => FloatKind.f64.nearest ((e j).tmod 50)

structure WavedOK (a b c : Nat) : Prop where
  z : zeroChk a b c (zeroRun a b c) = true
  x : ∀ n e, wavedOut a b c (wavedRun a b c (.xs 0 0 n e) (rawH 0)) = some (elBits e (mul3 a b c) 0, upto (nth (wavesL a b c (reals (elB e) (mul3 a b c) 0))) (mul3 a b c) 0)
  x0 : ∀ n e, wavedZ a b c (wavedRun a b c (.xs 0 (Nat.add 2 (mul3 a b c)) n e) (rawH (Nat.add 2 (mul3 a b c)))) = true
  n : wavedZ a b c (wavedRun a b c .nils bare) = true
  s : ∀ o, wavedZ a b c (wavedRun a b c (.sl 0 o 0 none) noneH) = true

end Go.Sv.C

namespace Go.Sv.C
open Go.Sv Go.Proofs Go.Fl

/-- A list that came in, with something in it: its elements, round and round. -/
def Full (X : Ctx) (j : Nat) (el : Nat → Int) : Prop := ∃ c o l k arr ty fz, X.fv j = .slice (some ⟨c, o, none⟩) l k ∧ 0 < l ∧ c < X.lim ∧ X.h0[c]? = some (.cells arr ty fz) ∧ ∀ i, i < 48 → arr[o + i % l]? = some (.int .i16 (el i)) ∧ -32768 ≤ el i ∧ el i < 32768

/-- A list that came in, with nothing in it. -/
def Empty (X : Ctx) (j : Nat) : Prop := X.fv j = .slice none 0 0 ∨ ∃ c o k, X.fv j = .slice (some ⟨c, o, none⟩) 0 k

def KR (N b j : Nat) : Fm := { id := Nat.add b j, np := Nat.succ N, pos := false, bd := some (Nat.shiftLeft 1 106), fm := none }

def krC (N b : Nat) (v : Nat → Nat) : Nat → Nat → List AC
  | 0, _ => []
  | n + 1, j => fzM (KR N b j) fun F => .cpx (.s (v j) F) (.f 0) :: krC N b v n (Nat.succ j)

def anyL : Nat → List AC
  | 0 => []
  | n + 1 => .any :: anyL n

/-- What the search starts from: its names. -/
def StartOK (N : Nat) (X : Ctx) : Prop := (∃ el, Full X 1 el ∧ ∀ t, t < N → X.nm (300 + t) = elB el t) ∨ (Empty X 1 ∧ ∀ t, t < N → X.nm (300 + t) = 0)

/-- What the waves are of. -/
def DensOK (a b c : Nat) (X : Ctx) : Prop := MainD a b c X ∧ ∃ el, Full X 0 el ∧ ∀ t, t < mul3 a b c → X.nm (200 + t) = elB el t

/-- What the waves are of: nothing but noughts. -/
def DensZ (N : Nat) (X : Ctx) : Prop := (∃ el, Full X 0 el ∧ ∀ i, i < N → (el i).tmod 50 = 0) ∨ Empty X 0

def wavedAns (a b c : Nat) (ws gs : List AC) (H : AH) : Option (AT × AH) :=
  some (.tup [.c (.osl H.n (mul3 a b c) 4), .agg (sideL a b c ++ [.sl (H.new (.cells ws false)).n 0 (mul3 a b c) (some (mul3 a b c))]), .c (.bool true)], (H.new (.cells ws false)).new (.cells gs true))

def rowWaved (zero : Bool) (nm : Nat → Nat) (a b c : Nat) (args : List AV) (H : AH) : Option (AT × AH) :=
  match args with
  | [.agg [.int .i64 (.ofNat a'), .int .i64 (.ofNat b'), .int .i64 (.ofNat c')], .c (.arg j)] =>
    bif Nat.beq a' a && Nat.beq b' b && Nat.beq c' c then
      match j with
      | 0 =>
        match zero with
        | true => fzL (wavesS (corners a b c) (zeros (mul3 a b c))) fun ws => fzL (zeros (mul3 a b c)) fun gs => wavedAns a b c ws gs H
        | false => fzL (wavesS (corners a b c) (gridS (fun k => nm (Nat.succ k)) (kwL (mul3 a b c) (Nat.mul 2 (mul3 a b c)) 0) 0)) fun ws => fzL (kdC (mul3 a b c) (fun j => nm (Nat.add 200 j)) (mul3 a b c) 0) fun gs => wavedAns a b c ws gs H
      | 1 => fzL (wavesS (corners a b c) (anyL (mul3 a b c))) fun ws => fzL (krC (mul3 a b c) 300 (fun j => nm (Nat.add 300 j)) (mul3 a b c) 0) fun gs => wavedAns a b c ws gs H
      | _ => none
    else none
  | _ => none

/-- What a call left: the waves' and the density's numbers. -/
structure Left2 (a b c : Nat) (w : World) (v : Value) (w' : World) (pw pg : List Value) : Prop where
  ex : ∃ cw kw mw arrw tyw pi rest cg arrg tyg, v = .tuple #[.slice (some ⟨cw, 0, none⟩) (mul3 a b c) kw, .agg #[.int .i64 (Int.ofNat a), .int .i64 (Int.ofNat b), .int .i64 (Int.ofNat c), .slice (some ⟨cg, 0, none⟩) (mul3 a b c) (mul3 a b c)], .bool true] ∧
    w.heap.size ≤ cw ∧ w.heap.size ≤ cg ∧ cw ≠ cg ∧ mul3 a b c ≤ kw ∧ kw * 4 ≤ mw ∧ w'.heap[cw]? = some (.cells arrw tyw (0, 0)) ∧ arrw.size = mw ∧ arrw.toList = wavesV pi pw ++ rest ∧ RCs (gi := triv) (rho0 ctx0) (corners a b c) pi ∧
    w'.heap[cg]? = some (.cells arrg tyg (0, 0)) ∧ arrg.toList = pg

section
variable [gi : GoodC]

/-- From there to the great memory. -/
theorem Left2.to {a b c : Nat} {ρ : Rho} {H : AH} {w w' : World} {v : Value} {pw pg : List Value} (h : Left2 a b c w v w' pw pg) (hk : Kept w w') (hH : RH ρ H w) {ws gs : List AC} (hw : ∀ ρ' : Rho, ρ'.X = ρ.X → RCs ρ' ws pw) (hg : ∀ ρ' : Rho, ρ'.X = ρ.X → RCs ρ' gs pg)
    {r : AT} {H' : AH} (ha : wavedAns a b c (wavesS (corners a b c) ws) gs H = some (r, H')) : ∃ ρ', St ρ H w ρ' H' w' ∧ R1 ρ' r v := by
  obtain ⟨cw, kw, mw, arrw, tyw, pi, rest, cg, arrg, tyg, rfl, e1, e2, e3, e4, e5, e6, e7, e8, e9, e10, e11⟩ := h.ex
  unfold wavedAns at ha
  simp only [Option.some.injEq, Prod.mk.injEq] at ha
  obtain ⟨rfl, rfl⟩ := ha
  have hW : RO ρ mw (.cells (wavesS (corners a b c) ws) false) (.cells arrw tyw (0, 0)) := ⟨arrw, tyw, _, rest, rfl, e7, e8, wavesS_rel (corners_rel (gi := triv) (gj := gi) e9) (hw ρ rfl), fun h => by cases h⟩
  have s1 := (hk.st hH).add hH.lim e6 e1 hW (fun i o m2 hi e => absurd (hH.lt hi e) (by omega))
  have hD : RO (up ρ H.n (cw, mw)) arrg.size (.cells gs true) (.cells arrg tyg (0, 0)) := ⟨arrg, tyg, pg, [], rfl, rfl, by simp [e11], hg _ rfl, fun _ => rfl⟩
  have s2 := s1.add hH.lim e10 e2 hD (fun i o m2 hi e => by
    rw [AH.new_eq] at hi
    simp only [Tr.get_put] at hi
    rw [up_r] at e
    by_cases he : i = H.n
    · rw [if_pos he] at e
      simp at e
      exact e3 e.1
    · rw [if_neg he] at e
      rw [if_neg (Ne.symm he)] at hi
      exact absurd (hH.lt hi e) (by omega))
  refine ⟨_, s2, _, rfl, .cons ⟨cw, mw, kw, ?_, rfl, e4, e5⟩ (.cons ⟨_, rfl, .cons rfl (.cons rfl (.cons rfl (.cons ⟨cg, arrg.size, mul3 a b c, by rw [up_r, if_pos rfl], rfl, Nat.le_refl _, fun k' h => by simpa using h⟩ .nil)))⟩ (.cons rfl .nil))⟩
  rw [up_r, up_r, AH.new_eq]
  rw [if_neg (by show ¬ H.n = H.n + 1; omega), if_pos rfl]
end

/-- Cells of corners speak of nothing. -/
theorem corners_to0 {gj : GoodC} {ρ : @Rho gj} {a b c : Nat} {vs : List Value} (h : RCs (gi := gj) ρ (corners a b c) vs) : RCs (gi := triv) (rho0 ctx0) (corners a b c) vs := corners_rel (gi := gj) (gj := triv) h

/-- What a run of it left, in the model's memory. -/
theorem left2_of {gj : GoodC} {ρ0 ρ' : @Rho gj} {H0 H' : AH} {w w' : World} {v : Value} {a b c bw bg : Nat} {ws gs cs : List AC} (hst : St (gi := gj) ρ0 H0 w ρ' H' w') (hbar : Barred H0) (hp : ∀ i, 1 ≤ i → i ∉ H0.p)
    (hr : R1 (gi := gj) ρ' (.tup [.c (.osl bw (mul3 a b c) 4), .agg (sideL a b c ++ [.sl bg 0 (mul3 a b c) (some (mul3 a b c))]), .c (.bool true)]) v) (h1 : 1 ≤ bw) (h2 : 1 ≤ bg) (hne : bw ≠ bg)
    (hw : H'.t.get bw = some (.cells ws false)) (hg : H'.t.get bg = some (.cells gs true)) (hs : splitW ws = some (corners a b c, cs)) :
    ∃ pw pg, Left2 a b c w v w' pw pg ∧ RCs (gi := gj) ρ' cs pw ∧ RCs (gi := gj) ρ' gs pg := by
  obtain ⟨cw, mw, objw, s1, s2, s3, s4⟩ := St.made (gi := gj) hst hbar hw (hp bw h1)
  obtain ⟨cg, mg, objg, t1, t2, t3, t4⟩ := St.made (gi := gj) hst hbar hg (hp bg h2)
  obtain ⟨arrw, tyw, prew, restw, w1, w2, w3, w4, w5⟩ := s3
  obtain ⟨arrg, tyg, preg, restg, g1, g2, g3, g4, g5⟩ := t3
  subst w1; subst g1
  have hrg := g5 rfl
  subst hrg
  obtain ⟨pi, pc, rfl, z6, z7⟩ := splitW_parts (gi := gj) hs w4
  obtain ⟨vv, rfl, hvv⟩ := hr
  cases hvv with
  | cons q0 q1 => cases q1 with
  | cons q1 q2 => cases q2 with
  | cons q2 q3 =>
  cases q3
  obtain ⟨c2, m2, k2, u1, rfl, u3, u4⟩ := q0
  rw [s1] at u1
  obtain ⟨rfl, rfl⟩ : cw = c2 ∧ mw = m2 := by simpa using u1
  obtain ⟨av, rfl, hav⟩ := q1
  cases hav with
  | cons b0 hav => cases hav with
  | cons b1 hav => cases hav with
  | cons b2 hav => cases hav with
  | cons b3 hav =>
  cases hav
  obtain ⟨c3, m3, k3, v1, rfl, v3, v4⟩ := b3
  rw [t1] at v1
  obtain ⟨rfl, rfl⟩ : cg = c3 ∧ mg = m3 := by simpa using v1
  have hk3 := v4 _ rfl
  subst hk3
  have b0' : _ = Value.int .i64 (Int.ofNat a) := b0
  have b1' : _ = Value.int .i64 (Int.ofNat b) := b1
  have b2' : _ = Value.int .i64 (Int.ofNat c) := b2
  have q2' : _ = Value.bool true := q2
  subst b0'; subst b1'; subst b2'; subst q2'
  have hcc : cw ≠ cg := fun e => by
    subst e
    exact hne (RH.inj (gi := gj) (St.rh (gi := gj) hst) bw bg _ _ cw mw mg hw hg s1 t1)
  exact ⟨pc, preg, ⟨cw, k2, mw, arrw, tyw, pi, restw, cg, arrg, tyg, rfl, s4, t4, hcc, u3, u4, s2, w2, w3, corners_to0 z6, t2, by rw [g3]; simp⟩, z7, g4⟩

theorem wavedOut_spec {a b c : Nat} {x : Option (AT × AH)} {rs bs : List Nat} (h : wavedOut a b c x = some (rs, bs)) : ∃ bw bg H ws gs cs fs ks, x = some (.tup [.c (.osl bw (mul3 a b c) 4), .agg (sideL a b c ++ [.sl bg 0 (mul3 a b c) (some (mul3 a b c))]), .c (.bool true)], H) ∧ 1 ≤ bw ∧ 1 ≤ bg ∧ bw ≠ bg ∧
    H.t.get bw = some (.cells ws false) ∧ H.t.get bg = some (.cells gs true) ∧ splitW ws = some (corners a b c, cs) ∧ realsOf gs = some (rs, fs) ∧ fmL cs = some ks ∧ rs.length = mul3 a b c ∧ bdsIn (Nat.shiftLeft 1 106) fs = true ∧ bs = bitsOf cs := by
  unfold wavedOut at h
  split at h
  · rename_i bw l a' b' c' bg k k' H
    cases hb : Nat.beq a' a && Nat.beq b' b && Nat.beq c' c && Nat.beq l (mul3 a b c) && Nat.beq k (mul3 a b c) && Nat.beq k' (mul3 a b c) && Nat.ble 1 bw && Nat.ble 1 bg && !Nat.beq bw bg
    · rw [hb] at h; cases h
    · rw [hb, cond_true] at h
      simp only [Bool.and_eq_true] at hb
      obtain ⟨⟨⟨⟨⟨⟨⟨⟨h1, h2⟩, h3⟩, h4⟩, h5⟩, h6⟩, h7⟩, h8⟩, h9⟩ := hb
      have h1 := Nat.eq_of_beq_eq_true h1
      have h2 := Nat.eq_of_beq_eq_true h2
      have h3 := Nat.eq_of_beq_eq_true h3
      subst h1; subst h2; subst h3
      have h4 := Nat.eq_of_beq_eq_true h4
      have h5 := Nat.eq_of_beq_eq_true h5
      have h6 := Nat.eq_of_beq_eq_true h6
      have h7 := Nat.le_of_ble_eq_true h7
      have h8 := Nat.le_of_ble_eq_true h8
      subst h4; subst h5; subst h6
      have h9' : bw ≠ bg := fun e => by rw [e, Nat.beq_refl] at h9; cases h9
      split at h
      · rename_i ws gs hw hg
        split at h
        · rename_i is cs rs' fs hsw hrs
          split at h
          · rename_i ks hks
            cases hc : isCorners is a' b' c' && Nat.beq rs'.length (mul3 a' b' c') && bdsIn (Nat.shiftLeft 1 106) fs
            · rw [hc] at h; cases h
            · rw [hc, cond_true] at h
              simp only [Option.some.injEq, Prod.mk.injEq] at h
              obtain ⟨rfl, rfl⟩ := h
              simp only [Bool.and_eq_true] at hc
              have hic := isCorners_eq hc.1.1
              subst hic
              exact ⟨bw, bg, H, ws, gs, cs, fs, ks, rfl, h7, h8, h9', hw, hg, hsw, hrs, hks, Nat.eq_of_beq_eq_true hc.1.2, hc.2, rfl⟩
          · cases h
        · cases h
      · cases h
  · cases h

theorem wavedZ_spec {a b c : Nat} {x : Option (AT × AH)} (h : wavedZ a b c x = true) : ∃ bw bg H ws, x = some (.tup [.c (.osl bw (mul3 a b c) 4), .agg (sideL a b c ++ [.sl bg 0 (mul3 a b c) (some (mul3 a b c))]), .c (.bool true)], H) ∧ 1 ≤ bw ∧ 1 ≤ bg ∧ bw ≠ bg ∧
    H.t.get bw = some (.cells ws false) ∧ H.t.get bg = some (.cells (zeros (mul3 a b c)) true) ∧ splitW ws = some (corners a b c, zeros (mul3 a b c)) := by
  unfold wavedZ at h
  split at h
  · rename_i bw l a' b' c' bg k k' H
    simp only [Bool.and_eq_true] at h
    obtain ⟨⟨⟨⟨⟨⟨⟨⟨⟨h1, h2⟩, h3⟩, h4⟩, h5⟩, h6⟩, h7⟩, h8⟩, h9⟩, h⟩ := h
    have h1 := Nat.eq_of_beq_eq_true h1
    have h2 := Nat.eq_of_beq_eq_true h2
    have h3 := Nat.eq_of_beq_eq_true h3
    subst h1; subst h2; subst h3
    have h4 := Nat.eq_of_beq_eq_true h4
    have h5 := Nat.eq_of_beq_eq_true h5
    have h6 := Nat.eq_of_beq_eq_true h6
    have h7 := Nat.le_of_ble_eq_true h7
    have h8 := Nat.le_of_ble_eq_true h8
    subst h4; subst h5; subst h6
    have h9' : bw ≠ bg := fun e => by rw [e, Nat.beq_refl] at h9; cases h9
    split at h
    · rename_i ws gs hw hg
      split at h
      · rename_i is cs hsw
        simp only [Bool.and_eq_true] at h
        have hic := isCorners_eq h.1.1.1
        subst hic
        have e1 := allZ_eq h.1.2
        rw [Nat.eq_of_beq_eq_true h.1.1.2] at e1
        have e2 := allZ_eq h.2
        have hcl : cs.length = mul3 a' b' c' := by
          have h1 := (splitW_len hsw).2
          rw [corners_length] at h1
          omega
        rw [hcl] at e2
        subst e1; subst e2
        exact ⟨bw, bg, H, ws, rfl, h7, h8, h9', hw, hg, hsw⟩
      · cases h
    · cases h
  · cases h

/-- Real numbers' values. -/
theorem realsOf_vals {gj : GoodC} {ρ : @Rho gj} : ∀ {gs : List AC} {rs : List Nat} {fs : List Fm} {ps : List Value}, realsOf gs = some (rs, fs) → RCs (gi := gj) ρ gs ps → rs.length = gs.length ∧ fs.length = gs.length ∧ (∀ {u : Nat → Nat} (i : Nat), (∀ t, t < gs.length → u (i + 2 * t) = nth rs t ∧ u (i + 2 * t + 1) = 0) → ps = cpxV u gs.length i) ∧ ∀ t F, fs[t]? = some F → Fact (Rho.X (gi := gj) ρ) F (nth rs t)
  | [], rs, fs, ps, h, hr => by
    simp only [realsOf, Option.some.injEq, Prod.mk.injEq] at h
    obtain ⟨rfl, rfl⟩ := h
    cases hr
    exact ⟨rfl, rfl, fun i _ => rfl, fun t F h => by simp at h⟩
  | x :: r, rs, fs, ps, h, hr => by
    have key : ∃ n F l fs', x = .cpx (.s n F) (.f 0) ∧ realsOf r = some (l, fs') ∧ rs = n :: l ∧ fs = F :: fs' := by
      cases x with
      | cpx p q =>
        cases p with
        | s n F =>
          cases q with
          | f k =>
            cases k with
            | zero =>
              cases hrr : realsOf r with
              | none =>
                have h' : realsOf (.cpx (.s n F) (.f 0) :: r) = none := by simp only [realsOf, hrr]
                rw [h'] at h; cases h
              | some p =>
                obtain ⟨l, fs'⟩ := p
                have h' : realsOf (.cpx (.s n F) (.f 0) :: r) = some (n :: l, F :: fs') := by simp only [realsOf, hrr]
                rw [h'] at h
                simp only [Option.some.injEq, Prod.mk.injEq] at h
                exact ⟨n, F, l, fs', rfl, rfl, h.1.symm, h.2.symm⟩
            | succ k => exact absurd (show none = some (rs, fs) from h) (by simp)
          | _ => exact absurd (show none = some (rs, fs) from h) (by simp)
        | _ => exact absurd (show none = some (rs, fs) from h) (by simp)
      | _ => exact absurd (show none = some (rs, fs) from h) (by simp)
    obtain ⟨n, F, l, fs', rfl, h2, rfl, rfl⟩ := key
    cases hr with
    | cons g0 g1 =>
    obtain ⟨n', m', ⟨rfl, hF⟩, hm, rfl⟩ := g0
    have hm' : m' = 0 := hm
    subst hm'
    obtain ⟨k1, k2, k3, k4⟩ := realsOf_vals h2 g1
    refine ⟨by simp [k1], by simp [k2], fun {u} i hu => ?_, fun t G hG => ?_⟩
    · have h0 := hu 0 (by simp)
      have := k3 (u := u) (i + 2) (fun t ht => by
        have := hu (t + 1) (by simp; omega)
        have e1 : i + 2 + 2 * t = i + 2 * (t + 1) := by omega
        rw [e1]
        exact this)
      simp only [List.length_cons, cpxV, this]
      have e1 : u i = n' := h0.1
      have e2 : u (i + 1) = 0 := h0.2
      rw [e1, e2]
    · cases t with
      | zero => simp at hG; subst hG; exact hF
      | succ t => exact k4 t G (by simpa using hG)

theorem elBits_nth (e : Nat → Int) : ∀ (n i t : Nat), t < n → nth (elBits e n i) t = elB e (i + t)
  | 0, _, t, h => by omega
  | n + 1, i, 0, _ => rfl
  | n + 1, i, t + 1, h => by
    have := elBits_nth e n (i + 1) t (by omega)
    have e2 : i + 1 + t = i + (t + 1) := by omega
    rw [e2] at this
    exact this

/-- A context for one list that came in. -/
def listIn (X : Ctx) (j o l k : Nat) (el : Nat → Int) (arr : Array Value) (ty : TypeId) (fz : Nat × Nat) (h : ∀ i, i < 48 → arr[o + i % l]? = some (.int .i16 (el i)) ∧ -32768 ≤ el i ∧ el i < 32768) (hz : ∀ i, i < 48 → i + 3 ≤ j → (el i).tmod 50 = 0) : Ctx :=
  { X with
    fs := fun i => if i = j then (o, l, k) else (0, 0, 0)
    fe := fun i => if i = j then el else fun _ => 0
    fo := fun i => .cells arr ty fz
    lim := 0
    fok := fun i hi => by
      by_cases e : i = j
      · subst e
        rw [if_pos rfl] at hi ⊢
        rw [if_pos rfl]
        exact ⟨arr, ty, fz, rfl, fun t ht => ⟨(h t ht).1, (h t ht).2, fun h2 => hz t ht h2⟩⟩
      · rw [if_neg e] at hi
        exact absurd hi (Nat.lt_irrefl _) }

theorem rawH_get {j i : Nat} {o : AO} (h : (rawH j).t.get i = some o) : i = 0 ∧ o = .raw j := by
  cases i with
  | zero =>
    have h' : some (AO.raw j) = some o := h
    simp only [Option.some.injEq] at h'
    exact ⟨rfl, h'.symm⟩
  | succ i =>
    exfalso
    unfold rawH at h
    simp only [Tr.get] at h
    cases Nat.beq (Nat.mod i 2) 0 <;> simp at h

theorem rawH_bar (j : Nat) : Barred (rawH j) := fun i o h => by
  obtain ⟨rfl, _⟩ := rawH_get h
  exact List.mem_cons_self

theorem noneH_bar : Barred noneH := fun i o h => by simp [noneH, Tr.get] at h

def oneR (gj : GoodC) (X : Ctx) (hX : gj.G X) (c : Nat) : @Rho gj := Rho.mk (gi := gj) (fun i => if i = 0 then some (c, 0) else none) X hX

theorem raw_rh {gj : GoodC} {X : Ctx} (hX : gj.G X) (h0 : X.lim = 0) {c j : Nat} {w : World} (hc : w.heap[c]? = some (X.fo j)) : RH (gi := gj) (oneR gj X hX c) (rawH j) w := by
  refine @RH.mk gj _ _ _ (fun i o h => ?_) (fun i j' o o' c' m m' hi hj hci hcj => ?_) (fun i hi => ?_) (fun i c m _ => ?_) ?_ (fun c h => ?_)
  · obtain ⟨rfl, rfl⟩ := rawH_get h
    exact ⟨c, 0, _, rfl, hc, rfl⟩
  · rw [(rawH_get hi).1, (rawH_get hj).1]
  · show (if i = 0 then some (c, 0) else none) = none
    have : 1 ≤ i := hi
    rw [if_neg (by omega)]
  · show X.lim ≤ c; omega
  · show X.lim ≤ _; omega
  · have : c < X.lim := h; omega

theorem none_rh {gj : GoodC} {X : Ctx} (hX : gj.G X) (h0 : X.lim = 0) {c : Nat} {w : World} : RH (gi := gj) (oneR gj X hX c) noneH w := by
  refine @RH.mk gj _ _ _ (fun i o h => (by simp [noneH, Tr.get] at h)) (fun i j' o o' c' m m' hi hj hci hcj => (by simp [noneH, Tr.get] at hi)) (fun i hi => ?_) (fun i c m _ => ?_) ?_ (fun c h => ?_)
  · show (if i = 0 then some (c, 0) else none) = none
    have : 1 ≤ i := hi
    rw [if_neg (by omega)]
  · show X.lim ≤ c; omega
  · show X.lim ≤ _; omega
  · have : c < X.lim := h; omega

theorem bare_rh {gj : GoodC} {X : Ctx} (hX : gj.G X) (h0 : X.lim = 0) {w : World} : RH (gi := gj) (Rho.mk (gi := gj) (fun _ => none) X hX) bare w := by
  refine @RH.mk gj _ _ _ (fun i o h => (by simp [bare, Tr.get] at h)) (fun i j' o o' c' m m' hi hj hci hcj => (by simp [bare, Tr.get] at hi)) (fun i hi => rfl) (fun i c m h => (by cases h)) ?_ (fun c h => ?_)
  · show X.lim ≤ _; omega
  · have : c < X.lim := h; omega

/-- What the model's sides are. -/
def sideV (a b c : Nat) : Value := .agg #[.int .i64 (Int.ofNat a), .int .i64 (Int.ofNat b), .int .i64 (Int.ofNat c)]

section
variable [gi : GoodC]

end

theorem ovW_ok {a b c : Nat} (hs : Shape a b c) (hw : WavedOK a b c) : CallsOK (gi := smallC) Tryz.prog (ovW a b c) :=
  ovElse_ok (gi := smallC) (rowWavesZ_ok (gi := smallC) hw.z) (ovAdd_ok (gi := smallC) (rowWavesG_ok (gi := smallC) (.inr fun X h => h) hs) (ov0_ok (gi := smallC)))

section
variable [gi : GoodC]

end

/-- A call with a list with something in it. -/
theorem waved_full {a b c : Nat} (hs : Shape a b c) (hw : WavedOK a b c) {X : Ctx} (hM : X.M ≤ Fl.p2 20) {j : Nat} {el : Nat → Int} (hf : Full X j el) {w : World} (hold : ∀ c, c < X.lim → w.heap[c]? = X.h0[c]?) :
    Calls Tryz.prog 5 #[sideV a b c, X.fv j] w fun e w' => ∃ v, e = .returned v ∧ Kept w w' ∧ Left2 a b c w v w' (cpxV (nth (wavesL a b c (reals (elB el) (mul3 a b c) 0))) (mul3 a b c) 0) (cpxV (nth (reals (elB el) (mul3 a b c) 0)) (mul3 a b c) 0) ∧
      ∀ t, t < mul3 a b c → ∃ q, val (elB el t) = some q ∧ ab q * U ≤ ((Nat.shiftLeft 1 106 : Nat) : Rat) * X.M := by
  obtain ⟨c0, o, l, k, arr, ty, fz, e1, e2, e3, e4, e5⟩ := hf
  let X0 := listIn X 0 o l k el arr ty fz e5 (fun i _ h => absurd h (by omega))
  have hrun := hw.x l el
  obtain ⟨bw, bg, H2, ws, gs, cs, fs, ks, y1, y2, y3, y4, y5, y6, y7, y8, y9, y10, y11, y12⟩ := wavedOut_spec hrun
  have hH0 := raw_rh (gj := smallC) (X := X0) hM rfl (c := c0) (j := 0) (w := w) (by rw [hold c0 e3, e4]; rfl)
  have hargs : All2 (RV (gi := smallC) (oneR smallC X0 hM c0)) [.agg (sideL a b c), .c (.xs 0 0 l el)] [sideV a b c, X.fv j] :=
    .cons ⟨_, rfl, .cons rfl (.cons rfl (.cons rfl .nil))⟩ (.cons ⟨c0, 0, rfl, e1, rfl, e2, rfl⟩ .nil)
  refine ((run_ok (gi := smallC) (ovW_ok hs hw) 1000 5 _ _ _ _ y1).2 _ w _ hH0 hargs).mono fun e w' ⟨v, ρ', g1, g2, g3⟩ => ⟨v, g1, St.kept_all (gi := smallC) g2 (rawH_bar 0), ?_⟩
  obtain ⟨pw, pg, k1, k2, k3⟩ := left2_of (gj := smallC) g2 (rawH_bar 0) (fun i hi h => by have : i ∈ [0] := h; simp at this; omega) g3 y2 y3 y4 y5 y6 y7
  have hX : Rho.X (gi := smallC) ρ' = X0 := Ext.X (gi := smallC) (St.ext (gi := smallC) g2)
  obtain ⟨r1, r2, r3, r4⟩ := realsOf_vals (gj := smallC) y8 k3
  have hgl : gs.length = mul3 a b c := by omega
  have hcl : cs.length = mul3 a b c := by
    have h1 := (splitW_len y7).2
    rw [corners_length] at h1
    omega
  have hpg : pg = cpxV (nth (reals (elB el) (mul3 a b c) 0)) (mul3 a b c) 0 := by
    rw [← hgl]
    refine r3 0 (fun t ht => ?_)
    rw [hgl] at ht
    obtain ⟨q1, q2⟩ := reals_nth (elB el) (mul3 a b c) 0 t ht
    rw [hgl, Nat.zero_add, q1, q2, elBits_nth el _ 0 t ht]
    exact ⟨rfl, rfl⟩
  have hpw : pw = cpxV (nth (wavesL a b c (reals (elB el) (mul3 a b c) 0))) (mul3 a b c) 0 := by
    have := fmL_vals (gi := smallC) (u := nth (wavesL a b c (reals (elB el) (mul3 a b c) 0))) 0 y9 k2 (fun k n hk => by
      rw [← y12] at hk
      have hk' : k < 2 * mul3 a b c := by
        have := (List.getElem?_eq_some_iff.1 hk).1
        rw [upto_length] at this; exact this
      rw [upto_get _ _ _ _ hk', Nat.zero_add] at hk
      rw [Nat.zero_add]
      simpa using hk)
    rw [this, hcl]
  subst hpg; subst hpw
  refine ⟨k1, fun t ht => ?_⟩
  have ht' : t < fs.length := by omega
  have hF := r4 t fs[t] (by simp)
  rw [elBits_nth el _ 0 t ht, Nat.zero_add, hX] at hF
  obtain ⟨bb, b1, b2⟩ := bdsIn_ok y11 fs[t] (by simp)
  obtain ⟨q, q1, q2⟩ := hF.bd bb b1
  exact ⟨q, q1, Rat.le_trans q2 (Rat.mul_le_mul_of_nonneg_right (cast_le b2) (M0 X))⟩

section
variable [gi : GoodC]

end

/-- A call with a list that makes nothing but noughts. -/
theorem waved_zero {a b c : Nat} (hs : Shape a b c) (hw : WavedOK a b c) {X : Ctx} (hM : X.M ≤ Fl.p2 20) {j : Nat} (hf : (∃ el, Full X j el ∧ ∀ i, i < mul3 a b c → (el i).tmod 50 = 0) ∨ Empty X j) {w : World} (hold : ∀ c, c < X.lim → w.heap[c]? = X.h0[c]?) :
    Calls Tryz.prog 5 #[sideV a b c, X.fv j] w fun e w' => ∃ v, e = .returned v ∧ Kept w w' ∧ Left2 a b c w v w' (cpxV (fun _ => 0) (mul3 a b c) 0) (cpxV (fun _ => 0) (mul3 a b c) 0) := by
  have fin : ∀ {ρ0 : @Rho smallC} {H0 : AH} {s : AC}, wavedZ a b c (wavedRun a b c s H0) = true → Barred H0 → (∀ i, 1 ≤ i → i ∉ H0.p) → RH (gi := smallC) ρ0 H0 w → RC (gi := smallC) ρ0 s (X.fv j) → Calls Tryz.prog 5 #[sideV a b c, X.fv j] w fun e w' => ∃ v, e = .returned v ∧ Kept w w' ∧ Left2 a b c w v w' (cpxV (fun _ => 0) (mul3 a b c) 0) (cpxV (fun _ => 0) (mul3 a b c) 0) := fun {ρ0 H0 s} hz hbar hp hH0 hrc => by
    obtain ⟨bw, bg, H2, ws, y1, y2, y3, y4, y5, y6, y7⟩ := wavedZ_spec hz
    have hargs : All2 (RV (gi := smallC) ρ0) [.agg (sideL a b c), .c s] [sideV a b c, X.fv j] :=
      .cons ⟨_, rfl, .cons rfl (.cons rfl (.cons rfl .nil))⟩ (.cons hrc .nil)
    refine ((run_ok (gi := smallC) (ovW_ok hs hw) 1000 5 _ _ _ _ y1).2 _ w _ hH0 hargs).mono fun e w' ⟨v, ρ', g1, g2, g3⟩ => ⟨v, g1, St.kept_all (gi := smallC) g2 hbar, ?_⟩
    obtain ⟨pw, pg, k1, k2, k3⟩ := left2_of (gj := smallC) g2 hbar hp g3 y2 y3 y4 y5 y6 y7
    have e1 := zeros_vals (gi := smallC) k2 0
    have e2 := zeros_vals (gi := smallC) k3 0
    rw [e1, e2] at k1
    exact k1
  rcases hf with ⟨el, ⟨c0, o, l, k, arr, ty, fz, e1, e2, e3, e4, e5⟩, hz⟩ | h | ⟨c0, o, k, h⟩
  · let X0 := listIn X (Nat.add 2 (mul3 a b c)) o l k el arr ty fz e5 (fun i _ h => hz i (by have h' : i + 3 ≤ 2 + mul3 a b c := h; omega))
    have hfs : X0.fs (Nat.add 2 (mul3 a b c)) = (o, l, k) := if_pos rfl
    have hfe : X0.fe (Nat.add 2 (mul3 a b c)) = el := if_pos rfl
    exact fin (hw.x0 l el) (rawH_bar _) (fun i hi h => by have : i ∈ [0] := h; simp at this; omega) (raw_rh (gj := smallC) (X := X0) hM rfl (c := c0) (j := Nat.add 2 (mul3 a b c)) (by rw [hold c0 e3, e4]; rfl)) ⟨c0, 0, rfl, by rw [e1]; show _ = Value.slice (some ⟨c0, (X0.fs (Nat.add 2 (mul3 a b c))).1, none⟩) (X0.fs (Nat.add 2 (mul3 a b c))).2.1 (X0.fs (Nat.add 2 (mul3 a b c))).2.2; rw [hfs], by show l = (X0.fs (Nat.add 2 (mul3 a b c))).2.1; rw [hfs], by show 0 < (X0.fs (Nat.add 2 (mul3 a b c))).2.1; rw [hfs]; exact e2, by show el = X0.fe (Nat.add 2 (mul3 a b c)); rw [hfe]⟩
  · exact fin hw.n bare_shut (fun i hi h => by cases h) (bare_rh (gj := smallC) (X := bareX X) hM rfl) h
  · exact fin (hw.s o) noneH_bar (fun i hi h => by cases h) (none_rh (gj := smallC) (X := bareX X) hM rfl (c := c0)) ⟨c0, 0, k, rfl, h, Nat.zero_le _, fun _ h => by cases h⟩

section
variable [gi : GoodC]

theorem anyL_rel {ρ : Rho} : ∀ {vs : List Value}, (∀ v ∈ vs, v.oneCell' = true) → RCs ρ (anyL vs.length) vs
  | [], _ => .nil
  | v :: r, h => .cons (h v (by simp)) (anyL_rel (fun x hx => h x (by simp [hx])))

end

theorem cpxV_one (u : Nat → Nat) : ∀ (n i : Nat), ∀ v ∈ cpxV u n i, v.oneCell' = true
  | 0, _ => by simp [cpxV]
  | n + 1, i => by
    intro v hv
    simp only [cpxV, List.mem_cons] at hv
    rcases hv with rfl | hv
    · rfl
    · exact cpxV_one u n _ v hv

section
variable [gi : GoodC]

theorem krC_rel {ρ : Rho} {N b : Nat} {u v : Nat → Nat} : ∀ (n i j : Nat), (∀ t, t < n → u (i + 2 * t) = v (j + t) ∧ u (i + 2 * t + 1) = 0 ∧ Fact ρ.X (KR N b (j + t)) (v (j + t))) → RCs ρ (krC N b v n j) (cpxV u n i)
  | 0, _, _, _ => .nil
  | n + 1, i, j, h => by
    obtain ⟨h1, h2, h3⟩ := h 0 (by omega)
    simp only [krC, fzM_eq]
    refine .cons ⟨u i, u (i + 1), ⟨h1, h3⟩, h2, rfl⟩ (krC_rel n (i + 2) (j + 1) (fun t ht => ?_))
    have := h (t + 1) (by omega)
    have e1 : i + 2 + 2 * t = i + 2 * (t + 1) := by omega
    have e2 : j + 1 + t = j + (t + 1) := by omega
    rw [e1, e2]
    exact this

theorem zeros_cpx {ρ : Rho} : ∀ (n i : Nat), RCs ρ (zeros n) (cpxV (fun _ => 0) n i)
  | 0, _ => .nil
  | n + 1, i => .cons ⟨0, 0, rfl, rfl, rfl⟩ (zeros_cpx n (i + 2))

theorem rowWaved_ok {zero : Bool} {nm : Nat → Nat} {a b c : Nat} (hs : Shape a b c) (hw : WavedOK a b c) (hG : ∀ X, GoodC.G X → X.nm = nm ∧ X.np = mul3 a b c + 1 ∧ 1 ≤ mul3 a b c ∧ StartOK (mul3 a b c) X ∧ (zero = false → DensOK a b c X) ∧ (zero = true → DensZ (mul3 a b c) X))
    (args : List AV) (H : AH) (r : AT) (H' : AH) (h : rowWaved zero nm a b c args H = some (r, H')) : RowOK Tryz.prog 5 args H r H' := by
  unfold rowWaved at h
  split at h
  case h_2 => cases h
  rename_i a' b' c' j
  cases hb1 : Nat.beq a' a && Nat.beq b' b && Nat.beq c' c
  · rw [hb1] at h; cases h
  rw [hb1, cond_true] at h
  simp only [Bool.and_eq_true] at hb1
  have ea := (Nat.eq_of_beq_eq_true hb1.1.1).symm
  have eb := (Nat.eq_of_beq_eq_true hb1.1.2).symm
  have ec := (Nat.eq_of_beq_eq_true hb1.2).symm
  subst ea; subst eb; subst ec
  refine ⟨has_body (q := q5) (by kernel_rfl), fun ρ w vs hH hargs => ?_⟩
  obtain ⟨hnm, hnp, hN1, hst, hdn, hdz⟩ := hG ρ.X ρ.ok
  have hM : ρ.X.M ≤ Fl.p2 20 := ρ.X.M4 (by omega)
  have hvs : vs = [sideV a b c, ρ.X.fv j] := by
    cases hargs with
    | cons g0 g1 =>
    cases g1 with
    | cons g1 g2 =>
    cases g2
    obtain ⟨av, rfl, hav⟩ := g0
    cases hav with
    | cons a0 hav => cases hav with
    | cons a1 hav => cases hav with
    | cons a2 hav =>
    cases hav
    have a0' : _ = Value.int .i64 (Int.ofNat a) := a0
    have a1' : _ = Value.int .i64 (Int.ofNat b) := a1
    have a2' : _ = Value.int .i64 (Int.ofNat c) := a2
    have g1' := g1.1
    rw [a0', a1', a2', g1']
    rfl
  subst hvs
  have zerocase : ∀ {jj : Nat}, ((∃ el, Full ρ.X jj el ∧ ∀ i, i < mul3 a b c → (el i).tmod 50 = 0) ∨ Empty ρ.X jj) → ∀ {ws gs : List AC}, (∀ ρ' : Rho, ρ'.X = ρ.X → RCs ρ' ws (cpxV (fun _ => 0) (mul3 a b c) 0)) → (∀ ρ' : Rho, ρ'.X = ρ.X → RCs ρ' gs (cpxV (fun _ => 0) (mul3 a b c) 0)) → wavedAns a b c (wavesS (corners a b c) ws) gs H = some (r, H') → Calls Tryz.prog 5 #[sideV a b c, ρ.X.fv jj] w fun e w' => ∃ v ρ', e = .returned v ∧ St ρ H w ρ' H' w' ∧ R1 ρ' r v := fun {jj} hf {ws gs} h1 h2 ha =>
    (waved_zero hs hw hM hf hH.old).mono fun e w' ⟨v, g1, g2, g3⟩ => by
      obtain ⟨ρ', k1, k2⟩ := g3.to g2 hH h1 h2 ha
      exact ⟨v, ρ', g1, k1, k2⟩
  have fullcase : ∀ {jj : Nat} {el : Nat → Int}, Full ρ.X jj el → ∀ {ws gs : List AC}, (∀ ρ' : Rho, ρ'.X = ρ.X → RCs ρ' ws (cpxV (nth (wavesL a b c (reals (elB el) (mul3 a b c) 0))) (mul3 a b c) 0)) → ((∀ t, t < mul3 a b c → ∃ q, val (elB el t) = some q ∧ ab q * U ≤ ((Nat.shiftLeft 1 106 : Nat) : Rat) * ρ.X.M) → ∀ ρ' : Rho, ρ'.X = ρ.X → RCs ρ' gs (cpxV (nth (reals (elB el) (mul3 a b c) 0)) (mul3 a b c) 0)) → wavedAns a b c (wavesS (corners a b c) ws) gs H = some (r, H') → Calls Tryz.prog 5 #[sideV a b c, ρ.X.fv jj] w fun e w' => ∃ v ρ', e = .returned v ∧ St ρ H w ρ' H' w' ∧ R1 ρ' r v := fun {jj el} hf {ws gs} h1 h2 ha =>
    (waved_full hs hw hM hf hH.old).mono fun e w' ⟨v, g1, g2, g3, g4⟩ => by
      obtain ⟨ρ', k1, k2⟩ := g3.to g2 hH h1 (h2 g4) ha
      exact ⟨v, ρ', g1, k1, k2⟩
  split at h
  · cases zero with
    | true =>
      simp only [fzL_eq] at h
      exact zerocase (hdz rfl) (fun ρ' _ => zeros_cpx _ 0) (fun ρ' _ => zeros_cpx _ 0) h
    | false =>
      simp only [fzL_eq] at h
      obtain ⟨hmain, el, hf, hel⟩ := hdn rfl
      have hre : reals (elB el) (mul3 a b c) 0 = reals (fun j => ρ.X.nm (200 + j)) (mul3 a b c) 0 := reals_congr (g := fun j => ρ.X.nm (200 + j)) _ 0 (fun t ht => by rw [Nat.zero_add]; exact (hel t ht).symm)
      refine fullcase hf (fun ρ' hX => ?_) (fun _ ρ' hX => ?_) h
      · rw [hre]
        have hcong : ∀ (n i : Nat), i + 2 * n ≤ 2 * mul3 a b c → cpxV (nth (wavesL a b c (reals (fun j => ρ.X.nm (200 + j)) (mul3 a b c) 0))) n i = cpxV (fun k => nm (Nat.succ k)) n i := fun n => by
          induction n with
          | zero => intro i _; rfl
          | succ n ih =>
            intro i hi
            simp only [cpxV]
            rw [ih (i + 2) (by omega), ← hmain.wd i (by omega), ← hmain.wd (i + 1) (by omega), hnm]
        rw [hcong _ 0 (by omega)]
        refine gridS_rel (mul3 a b c) _ 0 (kwL_length _ _ _) (fun k K hk => ?_)
        obtain ⟨rfl, hk'⟩ := kwL_get _ _ _ _ _ hk
        rw [Nat.zero_add, hX, ← hnm]
        exact hmain.m.w k hk'
      · rw [hre]
        refine kdC_rel (mul3 a b c) 0 0 (fun t ht => ?_)
        obtain ⟨q1, q2⟩ := reals_nth (fun j => ρ.X.nm (200 + j)) (mul3 a b c) 0 t ht
        rw [Nat.zero_add, q1, q2, hX, Nat.zero_add]
        refine ⟨by rw [hnm]; rfl, rfl, ?_⟩
        have := hmain.d t ht
        rw [hnm] at this
        exact this
  · simp only [fzL_eq] at h
    have hany : ∀ (u : Nat → Nat) (ρ' : Rho), RCs ρ' (anyL (mul3 a b c)) (cpxV u (mul3 a b c) 0) := fun u ρ' => by
      have := anyL_rel (ρ := ρ') (cpxV_one u (mul3 a b c) 0)
      rw [cpxV_length] at this
      exact this
    rcases hst with ⟨el, hf, hel⟩ | ⟨he, hel⟩
    · refine fullcase hf (fun ρ' hX => hany _ ρ') (fun hbd ρ' hX => ?_) h
      refine krC_rel (mul3 a b c) 0 0 (fun t ht => ?_)
      obtain ⟨q1, q2⟩ := reals_nth (elB el) (mul3 a b c) 0 t ht
      rw [Nat.zero_add, q1, q2, hX, Nat.zero_add]
      have e := hel t ht
      rw [hnm] at e
      refine ⟨e.symm, rfl, ?_⟩
      obtain ⟨q, p1, p2⟩ := hbd t ht
      have e' : nm (Nat.add 300 t) = elB el t := e
      simp only [e']
      refine ⟨fun _ => ?_, fun _ => hnp.symm, Sv.nn_of p1, fun h => (by cases h), fun b' hb => ?_, fun cs e h => (by cases h), fun h => absurd rfl h, fun h => absurd rfl h⟩
      · rw [hnm]; exact e'.symm
      · simp only [KR, Option.some.injEq] at hb
        subst hb
        exact ⟨q, p1, p2⟩
    · refine zerocase (.inr he) (fun ρ' hX => hany _ ρ') (fun ρ' hX => ?_) h
      refine krC_rel (mul3 a b c) 0 0 (fun t ht => ?_)
      have e := hel t ht
      rw [hnm] at e
      have e' : nm (Nat.add 300 t) = 0 := e
      rw [Nat.zero_add]
      simp only [e']
      refine ⟨trivial, trivial, ?_⟩
      rw [hX]
      refine ⟨fun _ => ?_, fun _ => hnp.symm, Sv.nn_of val_zero, fun h => (by cases h), fun b' hb => ⟨0, val_zero, ?_⟩, fun cs e h => (by cases h), fun h => absurd rfl h, fun h => absurd rfl h⟩
      · rw [hnm]; exact e'.symm
      · rw [ab_zero]
        have := Rat.mul_nonneg (cast_nonneg b') (M0 ρ.X)
        grind
  · cases h

end

end Go.Sv.C
