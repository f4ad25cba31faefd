/- An evaluator for sequential code, and how code becomes its own. No conditions.
-/
import GoSem.Step
import Derived.Orders
set_option linter.all false
namespace Go.Sv

/-- What is known of a float that is not known: its name (0: none), of how many parts its form speaks (0: of none), that it is not below nought, a bound, a form with a bound of its error; that it is not nought (1), not below a half (2); how it stands to one number that is fixed (not below it: 1, not above: 2, of its size: 3, the number: 4; nought: 5, within 64: 6, above nought: 7, below: 8). -/
structure Fm where
  id : Nat
  np : Nat
  pos : Bool
  bd : Option Nat
  fm : Option (List Int × Nat)
  lw : Nat := 0
  mm : Nat := 0

inductive AF where
  | f (b : Nat)
  | nan
  | s (n : Nat) (F : Fm)

/-- What is known of a whole number that is not known. -/
inductive Tg where
  | no
  | lev (j : Nat)
  | md (m r : Nat)
  | at (j : Nat)
  | ln (j : Nat)
  | ix (j i : Nat)
  | el
  | el0
  | er
  | st
  | byt

inductive AC where
  | bool (b : Bool)
  | int (k : IntKind) (n : Int)
  | flt (x : AF)
  | cpx (x y : AF)
  | nilp
  | ptr (b o : Nat)
  | nils
  | sl (b o l : Nat) (cap : Option Nat)
  | osl (b l z : Nat)
  | nilm
  | map (b : Nat)
  | fn (f : Nat) (caps : List (Nat × Nat))
  | nilf
  | sb (b : Bool)
  | si (k : IntKind) (n : Int) (t : Tg)
  | fb (n : Nat) (F : Fm)
  | xs (b j n : Nat) (e : Nat → Int)
  | fp (b j i : Nat) (x : Int)
  | arg (j : Nat)
  | any

inductive AV where
  | c (x : AC)
  | agg (xs : List AC)

inductive AT where
  | v (x : AV)
  | tup (xs : List AV)

inductive Tr (α : Type) where
  | nil
  | node (v : Option α) (l r : Tr α)

def Tr.get {α : Type} : Tr α → Nat → Option α
  | .nil, _ => none
  | .node v l r, i =>
    match i with
    | 0 => v
    | i + 1 => bif Nat.beq (Nat.mod i 2) 0 then l.get (Nat.div i 2) else r.get (Nat.div i 2)

/-- Lay 'x' (or nothing) at place i. -/
def Tr.set {α : Type} : Nat → Tr α → Nat → Option α → Tr α
  | 0, t, _, _ => t
  | k + 1, t, i, x =>
    match t with
    | .nil =>
      match i with
      | 0 => .node x .nil .nil
      | i + 1 => bif Nat.beq (Nat.mod i 2) 0 then .node none (Tr.set k .nil (Nat.div i 2) x) .nil else .node none .nil (Tr.set k .nil (Nat.div i 2) x)
    | .node v l r =>
      match i with
      | 0 => .node x l r
      | i + 1 => bif Nat.beq (Nat.mod i 2) 0 then .node v (Tr.set k l (Nat.div i 2) x) r else .node v l (Tr.set k r (Nat.div i 2) x)

def Tr.put {α : Type} (t : Tr α) (i : Nat) (x : Option α) : Tr α := Tr.set (Nat.succ i) t i x

inductive AO where
  | cells (xs : List AC) (full : Bool)
  | map (es : List (AV × AV))
  | raw (j : Nat)

structure AH where
  t : Tr AO
  n : Nat
  p : List Nat

/-- n, with its numeral laid bare. -/
def fz {α : Type} (n : Nat) (k : Nat → α) : α :=
  match n with
  | 0 => k 0
  | m + 1 => k (Nat.succ m)

/-- x, with its numerals laid bare. -/
def fzF {α : Type} (x : AF) (k : AF → α) : α :=
  match x with
  | .f b => fz b fun b => k (.f b)
  | .nan => k .nan
  | .s n F => k (.s n F)

def fzI {α : Type} (n : Int) (k : Int → α) : α :=
  match n with
  | .ofNat m => fz m fun m => k (.ofNat m)
  | .negSucc m => fz m fun m => k (.negSucc m)

def fzO {α : Type} (x : Option Nat) (k : Option Nat → α) : α :=
  match x with
  | some n => fz n fun n => k (some n)
  | none => k none

def fzC {α : Type} (x : AC) (k : AC → α) : α :=
  match x with
  | .bool b => bif b then k (.bool true) else k (.bool false)
  | .int q n => fzI n fun n => k (.int q n)
  | .flt x => fzF x fun x => k (.flt x)
  | .cpx x y => fzF x fun x => fzF y fun y => k (.cpx x y)
  | .ptr b o => fz b fun b => fz o fun o => k (.ptr b o)
  | .sl b o l c => fz b fun b => fz o fun o => fz l fun l => fzO c fun c => k (.sl b o l c)
  | .osl b l z => fz b fun b => fz l fun l => k (.osl b l z)
  | .map b => fz b fun b => k (.map b)
  | x => k x

def fzL {α : Type} : List AC → (List AC → α) → α
  | [], k => k []
  | x :: r, k => fzC x fun x => fzL r fun r => k (x :: r)

def fzV {α : Type} (x : AV) (k : AV → α) : α :=
  match x with
  | .c x => fzC x fun x => k (.c x)
  | .agg xs => fzL xs fun xs => k (.agg xs)

def fzVs {α : Type} : List AV → (List AV → α) → α
  | [], k => k []
  | x :: r, k => fzV x fun x => fzVs r fun r => k (x :: r)

def fzT {α : Type} (x : AT) (k : AT → α) : α :=
  match x with
  | .v x => fzV x fun x => k (.v x)
  | .tup xs => fzVs xs fun xs => k (.tup xs)

inductive AOpnd where
  | tmp (t : Nat)
  | const (x : AT)

inductive ABi where
  | len | lenM | real | imag | complex
  | max | min
  | append (z : Nat) (zero : List AC) (bytes : Nat)
  | copy (z : Nat)

inductive AOp where
  | mov (x : AOpnd)
  | pick (c a b : AOpnd)
  | alloc (cells : List AC)
  | box (x : AOpnd)
  | build (zero : List AC) (parts : List (Nat × Nat × AOpnd))
  | buildSlice (zero : List AC) (parts : List (Nat × Nat × AOpnd)) (len : Nat)
  | load (z : Option Nat) (a : AOpnd)
  | store (z : Nat) (a x : AOpnd)
  | nilCheck (x : AOpnd)
  | bin (op : BinOp) (x y : AOpnd)
  | eqB (neg : Bool) (x y : AOpnd)
  | eqA (neg : Bool) (n : Nat) (x y : AOpnd)
  | isNil (neg : Bool) (x : AOpnd)
  | strAt (s : List Nat) (i : AOpnd)
  | un (op : UnOp) (x : AOpnd)
  | toInt (k : IntKind) (x : AOpnd)
  | toFlt (x : AOpnd)
  | mkFn (f : Nat) (caps : List AOpnd)
  | mkMap
  | mkSlice (z : Nat) (zero : List AC) (bytes : Nat) (l c : AOpnd)
  | slice (z : Nat) (arr : Option Nat) (x : AOpnd) (lo hi : Option AOpnd)
  | addr (off : Nat) (x : AOpnd)
  | field (z : Option Nat) (off : Nat) (x : AOpnd)
  | indexAddr (z : Nat) (arr : Option Nat) (x i : AOpnd)
  | index (z : Option Nat) (sz n : Nat) (x i : AOpnd)
  | lookup (key : Option Nat) (zero : AV) (m k : AOpnd) (ok : Bool)
  | mapUpdate (key : Option Nat) (m k x : AOpnd)
  | mapEntry (key : Option Nat) (zero : AV) (m k : AOpnd)
  | entryStore (m s x : AOpnd)
  | extract (i : Nat) (x : AOpnd)
  | call (f : AOpnd) (args : List AOpnd)
  | fbits (x : AOpnd)
  | ffrom (x : AOpnd)
  | sqrt (x : AOpnd)
  | bi (b : ABi) (args : List AOpnd)

/-- One operation of a region: its number there, the slot that it writes, its guard's slot and wish, whether it is taken ahead of its turn, the numbers of the region's reads that may stand before or behind it. -/
structure AI where
  i : Nat
  dst : Option Nat
  guard : Option (Nat × Bool)
  op : AOp
  q : Bool
  inc : List Nat

inductive ACode where
  | skip
  | region (er : List Nat) (is : List AI)
  | seq (a b : ACode)
  | cond (c : AOpnd) (a b : ACode)
  | block (id : Nat) (a : ACode)
  | loop (a : ACode)
  | exit (id : Nat)
  | ret

structure AFun where
  ntmps : Nat
  res : List (Nat × Option (Option Nat))
  code : ACode

/- ### What an operation gives -/

def AOpnd.ev (T : Tr AT) : AOpnd → Option AT
  | .tmp t => T.get t
  | .const x => some x

def AOpnd.evV (T : Tr AT) (x : AOpnd) : Option AV :=
  match x.ev T with
  | some (.v x) => some x
  | _ => none

def AOpnd.evC (T : Tr AT) (x : AOpnd) : Option AC :=
  match x.ev T with
  | some (.v (.c x)) => some x
  | _ => none

def evVs (T : Tr AT) : List AOpnd → Option (List AV)
  | [] => some []
  | x :: r =>
    match x.evV T with
    | none => none
    | some v =>
      match evVs T r with
      | none => none
      | some vs => some (v :: vs)

def AV.cells : AV → List AC
  | .c x => [x]
  | .agg xs => xs

def mk1 (x : AC) : AT := .v (.c x)

/-- Over 'cs' from place i on: 'xs'; none where they do not lie within. -/
def lay : List AC → Nat → List AC → Option (List AC)
  | cs, 0, [] => some cs
  | _ :: cs, 0, x :: xs =>
    match lay cs 0 xs with
    | some r => some (x :: r)
    | none => none
  | [], 0, _ :: _ => none
  | c :: cs, i + 1, xs =>
    match lay cs i xs with
    | some r => some (c :: r)
    | none => none
  | [], _ + 1, _ => none

/-- 'n' cells from place i on. -/
def cut : List AC → Nat → Nat → Option (List AC)
  | _, 0, 0 => some []
  | c :: cs, 0, n + 1 =>
    match cut cs 0 n with
    | some r => some (c :: r)
    | none => none
  | [], 0, _ + 1 => none
  | _ :: cs, i + 1, n => cut cs i n
  | [], _ + 1, _ => none

def at? : List AC → Nat → Option AC
  | [], _ => none
  | c :: _, 0 => some c
  | _ :: cs, i + 1 => at? cs i

def fillA (T : Tr AT) (cs : List AC) : List (Nat × Nat × AOpnd) → Option (List AC)
  | [] => some cs
  | (off, z, x) :: r =>
    match x.evV T with
    | none => none
    | some v =>
      bif Nat.beq v.cells.length z then
        match lay cs off v.cells with
        | some cs => fillA T cs r
        | none => none
      else none

def AH.new (H : AH) (o : AO) : AH := fz (Nat.succ H.n) fun n => { t := H.t.put H.n (some o), n := n, p := H.p }

def memN : List Nat → Nat → Bool
  | [], _ => false
  | x :: r, i => bif Nat.beq x i then true else memN r i

/-- Write cells into block b. -/
def AH.write (H : AH) (b off : Nat) (xs : List AC) : Option AH :=
  bif memN H.p b then none else
  match H.t.get b with
  | some (.cells cs full) =>
    match lay cs off xs with
    | some cs => some { t := H.t.put b (some (.cells cs full)), n := H.n, p := H.p }
    | none => none
  | _ => none

def AH.read (H : AH) (b off n : Nat) : Option (List AC) :=
  match H.t.get b with
  | some (.cells cs _) => cut cs off n
  | _ => none

def AH.read1 (H : AH) (b off : Nat) : Option AC :=
  match H.t.get b with
  | some (.cells cs _) => at? cs off
  | _ => none

def AH.setMap (H : AH) (b : Nat) (es : List (AV × AV)) : Option AH :=
  bif memN H.p b then none else some { t := H.t.put b (some (.map es)), n := H.n, p := H.p }

def AH.getMap (H : AH) (b : Nat) : Option (List (AV × AV)) :=
  match H.t.get b with
  | some (.map es) => some es
  | _ => none

/- #### arithmetic -/

/- #### Floats that are not known -/

def fop (o : Option Nat) : Nat :=
  match o with
  | some r => r
  | none => 0

def fadd (n m : Nat) : Nat := fop (FloatKind.f64.format.add n m)
def fsub (n m : Nat) : Nat := fop (FloatKind.f64.format.sub n m)
def fmul (n m : Nat) : Nat := fop (FloatKind.f64.format.mul n m)
def fdiv (n m : Nat) : Nat := fop (FloatKind.f64.format.div n m)
def fsqrt (n : Nat) : Nat := fop (FloatKind.f64.format.sqrt n)
def fneg (n : Nat) : Nat := Op.negFloat .f64 n
def fabs (n : Nat) : Int := IntKind.u64.wrap (BitVec.ofInt 64 (n : Int) &&& ~~~BitVec.ofInt 64 (2 ^ 63)).toNat

def fzLI {α : Type} : List Int → (List Int → α) → α
  | [], k => k []
  | x :: r, k => fzI x fun x => fzLI r fun r => k (x :: r)

/-- F, laid bare. -/
def fzM {α : Type} (F : Fm) (k : Fm → α) : α :=
  match F with
  | ⟨i, n, p, b, m, l, q⟩ => fz i fun i => fz n fun n => fzO b fun b => fz l fun l => fz q fun q =>
    match m with
    | none => bif p then k ⟨i, n, true, b, none, l, q⟩ else k ⟨i, n, false, b, none, l, q⟩
    | some (cs, e) => fzLI cs fun cs => fz e fun e => bif p then k ⟨i, n, true, b, some (cs, e), l, q⟩ else k ⟨i, n, false, b, some (cs, e), l, q⟩

/-- What rounding may lose of a number within b. -/
def rnd (b : Nat) : Nat := Nat.add (Nat.shiftRight b 50) 2

def top : Nat := Nat.shiftLeft 1 500

def addL : List Int → List Int → List Int
  | [], d => d
  | a :: c, [] => a :: c
  | a :: c, b :: d => Int.add a b :: addL c d

def negL : List Int → List Int
  | [] => []
  | a :: c => Int.neg a :: negL c

/-- x * m * 2 ^ p, cut. -/
def scl (m : Nat) (p : Int) (x : Nat) : Nat :=
  match p with
  | .ofNat k => Nat.shiftLeft (Nat.mul x m) k
  | .negSucc k => Nat.shiftRight (Nat.mul x m) (Nat.succ k)

/-- x / (m * 2 ^ p), cut. -/
def dvd (m : Nat) (p : Int) (x : Nat) : Nat :=
  match p with
  | .ofNat k => Nat.div x (Nat.shiftLeft m k)
  | .negSucc k => Nat.div (Nat.shiftLeft x (Nat.succ k)) m

def sgI (neg : Bool) (g : Nat → Nat) (c : Int) : Int :=
  match c with
  | .ofNat x => bif neg then Int.neg (Int.ofNat (g x)) else Int.ofNat (g x)
  | .negSucc x => bif neg then Int.ofNat (g (Nat.succ x)) else Int.neg (Int.ofNat (g (Nat.succ x)))

def mapI (f : Int → Int) : List Int → List Int
  | [] => []
  | a :: c => f a :: mapI f c

def max2N (a b : Nat) : Nat := bif Nat.ble a b then b else a

def lim (b : Nat) (F : Nat → Option Fm) : Option Fm := bif Nat.ble b top then F b else none

/-- A sum. -/
def addF (F G : Fm) : Option Fm :=
  match F.bd, G.bd with
  | some a, some b =>
    lim (Nat.add a b) fun c =>
      some { id := 0, np := max2N F.np G.np, pos := F.pos && G.pos, bd := some (Nat.add c (rnd c)),
             fm := match F.fm, G.fm with
               | some (cs, e), some (ds, d) => some (addL cs ds, Nat.add (Nat.add e d) (rnd c))
               | _, _ => none }
  | _, _ => none

def negF (F : Fm) : Fm :=
  { id := 0, np := F.np, pos := false, bd := F.bd, fm := match F.fm with | some (cs, e) => some (negL cs, e) | none => none, mm := bif Nat.beq F.mm 7 then 8 else bif Nat.beq F.mm 8 then 7 else bif Nat.beq F.mm 5 then 5 else 0 }

def subF (F G : Fm) : Option Fm := addF { F with pos := false } (negF G)

/-- Times a number, or by it: g is what it makes of a whole number, cut. -/
def sclF (neg : Bool) (g : Nat → Nat) (F : Fm) : Option Fm :=
  match F.bd with
  | some a =>
    lim (Nat.succ (g a)) fun c =>
      some { id := 0, np := F.np, pos := false, bd := some (Nat.add c (rnd c)),
             fm := match F.fm with
               | some (cs, e) => some (mapI (sgI neg g) cs, Nat.add (Nat.add (Nat.succ (g e)) cs.length) (rnd c))
               | none => none }
  | none => none

def mulF (F G : Fm) : Option Fm :=
  match F.bd, G.bd with
  | some a, some b =>
    bif Nat.ble (max2N F.np G.np) 1 then none else
    lim (Nat.succ (Nat.shiftRight (Nat.mul a b) 80)) fun c =>
      some { id := 0, np := max2N F.np G.np, pos := F.pos && G.pos, bd := some (Nat.add c (rnd c)), fm := none }
  | _, _ => none

def absF (F : Fm) : Fm := { id := 0, np := F.np, pos := true, bd := F.bd, fm := none, lw := bif Nat.beq F.lw 0 then 0 else 1, mm := bif Nat.beq F.mm 3 then 4 else 0 }

/-- A constant: its sign, digits, place. -/
def cst (c : Nat) : Option (Bool × Nat × Int) :=
  match FloatKind.f64.format.read c with
  | .number s m p => some (s, m, p)
  | _ => none

def cstF (s : Bool) (m : Nat) (p : Int) : Fm :=
  { id := 0, np := 0, pos := !s, bd := some (Nat.succ (scl m p (2 ^ 100))), fm := some ([sgI s (scl m p) (2 ^ 100)], 1) }

/-- The bits, and what is known of them. -/
def toS (x : AF) : Option (Nat × Fm) :=
  match x with
  | .s n F => some (n, F)
  | .f c =>
    match cst c with
    | some (s, m, p) => some (c, cstF s m p)
    | none => none
  | .nan => none

def isS (x : AF) : Bool :=
  match x with
  | .s _ _ => true
  | _ => false

def sameId (F G : Fm) : Bool := Nat.beq F.id G.id && !Nat.beq F.id 0

/-- Surely above nought: a form. -/
def posL (e : Nat) : Nat → List Int → Bool
  | 0, [] => true
  | 0, c :: r => (match c with | .ofNat 0 => true | _ => false) && posL e 0 r
  | _ + 1, [] => false
  | k + 1, c :: r => (match c with | .ofNat x => Nat.ble (Nat.succ (Nat.mul 8 e)) x | _ => false) && posL e k r

def posF (np e : Nat) (cs : List Int) : Bool :=
  match np, cs with
  | k + 1, c :: r => (match c with | .ofNat _ => true | _ => false) && Nat.ble 1 k && posL e k r
  | _, _ => false

/-- Surely below: by forms. -/
def lessF (F G : Fm) : Bool :=
  match F.fm, G.fm with
  | some (cs, e), some (ds, d) => posF (max2N F.np G.np) (Nat.add e d) (addL ds (negL cs))
  | _, _ => false

/-- Surely within: |F| < c, for a constant's digits and place. -/
def within (F : Fm) (m : Nat) (p : Int) : Bool :=
  match F.bd with
  | some b => !Nat.ble F.np 1 && Nat.ble (Nat.succ (Nat.shiftLeft b 20)) (scl m p (2 ^ 100))
  | none => false

/-- Surely below. -/
def lessS (x y : AF) : Bool :=
  match x, y with
  | .s _ F, .s _ G => lessF F G
  | .s _ F, .f c =>
    match cst c with
    | some (s, m, p) => (!s && within F m p) || lessF F (cstF s m p)
    | none => false
  | .f c, .s _ G =>
    match cst c with
    | some (s, m, p) => (s && within G m p) || (Nat.beq m 0 && G.pos && !Nat.beq G.lw 0) || (s && (Nat.beq G.mm 6 && Nat.ble 65 (scl m p 1))) || lessF (cstF s m p) G
    | none => false
  | _, _ => false

/-- Surely not below. -/
def geS (x y : AF) : Bool :=
  match x, y with
  | .s _ F, .s _ G => sameId F G
  | .s _ F, .f c =>
    match cst c with
    | some (_, m, _) => F.pos && Nat.beq m 0
    | none => false
  | _, _ => false

/-- Behind a sum: one and something not below nought is not below a half. -/
def oneAnd (x : AF) (G : Fm) : Nat :=
  match x with
  | .f c => bif Nat.beq c 0x3ff0000000000000 && G.pos then 2 else 0
  | _ => 0

/-- A number that is not nought, made much greater, is none. -/
def keepLw (F : Fm) (m : Nat) (p : Int) : Nat :=
  bif Nat.beq F.lw 0 || Nat.beq m 0 then 0 else
  match p with
  | .ofNat k => bif Nat.ble 140 k then 1 else 0
  | .negSucc _ => 0

def farithS (op : BinOp) (x y : AF) : Option AF :=
  match op with
  | .add =>
    match toS x, toS y with
    | some (n, F), some (m, G) =>
      match addF F G with
      | some K => fzM { K with lw := oneAnd x G } fun K => some (.s (fadd n m) K)
      | none => none
    | _, _ => none
  | .sub =>
    match toS x, toS y with
    | some (n, F), some (m, G) =>
      bif sameId F G then (match F.bd with | some _ => some (.f 0) | none => none) else
      match subF F G with
      | some K => fzM K fun K => some (.s (fsub n m) K)
      | none => none
    | _, _ => none
  | .mul =>
    match x, y with
    | .s n F, .f c =>
      match cst c with
      | some (s, m, p) =>
        match sclF s (scl m p) F with
        | some K => fzM { K with lw := keepLw F m p } fun K => some (.s (fmul n c) K)
        | none => none
      | none => none
    | .f c, .s n F =>
      match cst c with
      | some (s, m, p) =>
        match sclF s (scl m p) F with
        | some K => fzM { K with lw := keepLw F m p } fun K => some (.s (fmul c n) K)
        | none => none
      | none => none
    | .s n F, .s m G =>
      match mulF F G with
      | some K => fzM K fun K => some (.s (fmul n m) K)
      | none => none
    | _, _ => none
  | .quo =>
    match x, y with
    | .s n F, .f c =>
      match cst c with
      | some (s, m, p) =>
        bif Nat.beq m 0 then none else
        match sclF s (dvd m p) F with
        | some K => fzM K fun K => some (.s (fdiv n c) K)
        | none => none
      | none => none
    | .f c, .s m G =>
      bif Nat.beq c 0 && lessS (.f 0) (.s m G) then some (.f 0) else none
    | .s n F, .s m G =>
      bif lessS (.f 0) (.s m G) then
        match F.bd with
        | some _ =>
          bif F.pos then
            bif Nat.beq F.mm 2 && Nat.beq G.mm 1 then some (.s (fdiv n m) { id := 0, np := max2N F.np G.np, pos := true, bd := some (2 ^ 101), fm := none })
            else some (.s (fdiv n m) { id := 0, np := max2N F.np G.np, pos := true, bd := none, fm := none })
          else some (.s (fdiv n m) { id := 0, np := max2N F.np G.np, pos := false, bd := none, fm := none })
        | none => none
      else none
    | _, _ => none
  | _ => none

def farith (op : BinOp) (x y : AF) : Option AF :=
  bif isS x || isS y then farithS op x y else
  match x, y with
  | .f a, .f b =>
    match op with
    | .add => some (match FloatKind.f64.format.add a b with | some r => .f r | none => .nan)
    | .sub => some (match FloatKind.f64.format.sub a b with | some r => .f r | none => .nan)
    | .mul => some (match FloatKind.f64.format.mul a b with | some r => .f r | none => .nan)
    | .quo => some (match FloatKind.f64.format.div a b with | some r => .f r | none => .nan)
    | _ => none
  | _, _ =>
    match op with
    | .add | .sub | .mul | .quo => some .nan
    | _ => none

def ford (x y : AF) : Option Ordering :=
  match x, y with
  | .f a, .f b => FloatKind.f64.format.order a b
  | _, _ => none

def ordIs (c : Option Ordering) (o : Ordering) : Bool :=
  match c with
  | some .lt => (match o with | .lt => true | _ => false)
  | some .eq => (match o with | .eq => true | _ => false)
  | some .gt => (match o with | .gt => true | _ => false)
  | none => false

def fcmp (op : BinOp) (c : Option Ordering) : Option Bool :=
  match op with
  | .eql => some (ordIs c .eq)
  | .neq => some (!ordIs c .eq)
  | .lss => some (ordIs c .lt)
  | .leq => some (ordIs c .lt || ordIs c .eq)
  | .gtr => some (ordIs c .gt)
  | .geq => some (ordIs c .gt || ordIs c .eq)
  | _ => none

def icmp (op : BinOp) (x y : Int) : Option Bool :=
  match op with
  | .eql => some (x == y)
  | .neq => some (x != y)
  | .lss => some (decide (x < y))
  | .leq => some (decide (x ≤ y))
  | .gtr => some (decide (x > y))
  | .geq => some (decide (x ≥ y))
  | _ => none

def iarith (op : BinOp) (k : IntKind) (x y : Int) : Option Int :=
  match op with
  | .add => some (k.wrap (x + y))
  | .sub => some (k.wrap (x - y))
  | .mul => some (k.wrap (x * y))
  | .quo => if y = 0 then none else some (k.wrap (x.tdiv y))
  | .rem => if y = 0 then none else some (x.tmod y)
  | .and => some (k.wrap (BitVec.ofInt k.bits x &&& BitVec.ofInt k.bits y).toNat)
  | .or => some (k.wrap (BitVec.ofInt k.bits x ||| BitVec.ofInt k.bits y).toNat)
  | .xor => some (k.wrap (BitVec.ofInt k.bits x ^^^ BitVec.ofInt k.bits y).toNat)
  | .andNot => some (k.wrap (BitVec.ofInt k.bits x &&& ~~~BitVec.ofInt k.bits y).toNat)
  | _ => none

/-- Surely the same. -/
def eqS (x y : AF) : Bool :=
  match x, y with
  | .s _ F, .s _ G => sameId F G
  | _, _ => false

/-- A comparison that is sure. -/
def fcmpS (op : BinOp) (x y : AF) : Option Bool :=
  match op with
  | .lss => bif lessS x y then some true else bif lessS y x || geS x y then some false else none
  | .gtr => bif lessS y x then some true else bif lessS x y || geS y x then some false else none
  | .leq => bif lessS y x then some false else bif lessS x y || geS y x then some true else none
  | .geq => bif lessS x y then some false else bif lessS y x || geS x y then some true else none
  | .eql => bif lessS x y || lessS y x then some false else bif eqS x y then some true else none
  | .neq => bif lessS x y || lessS y x then some true else bif eqS x y then some false else none
  | _ => none

def cmpB (op : BinOp) (n m : Nat) : Bool :=
  match fcmp op (FloatKind.f64.format.order n m) with
  | some b => b
  | none => false

def isCmp (op : BinOp) : Bool :=
  match op with
  | .lss | .gtr | .leq | .geq | .eql | .neq => true
  | _ => false

/-- Two floats, of which one is not known. -/
def fltS (op : BinOp) (x y : AF) : Option AC :=
  bif isCmp op then
    match fcmpS op x y with
    | some b => some (.bool b)
    | none =>
      match toS x, toS y with
      | some (n, _), some (m, _) => some (.sb (cmpB op n m))
      | _, _ => none
  else
    match farithS op x y with
    | some r => some (.flt r)
    | none => none

/-- Two whole numbers, or a float's bits, of which one is not known. -/
def intS (op : BinOp) (x y : AC) : Option AC :=
  match x, y with
  | .si k n t, .int k' c =>
    if k = k' then
      match op, t with
      | .eql, _ => some (.sb (n == c))
      | .neq, _ => some (.sb (n != c))
      | .rem, .md m r => if k = .i64 ∧ c = (m : Int) ∧ 0 < m then some (.int k (r : Int)) else none
      | .rem, .byt => if k = .i64 ∧ c = 6 then some (.si k (n.tmod 6) .st) else none
      | .rem, .el => if k = .i64 ∧ c = 50 then some (.si k (n.tmod 50) .er) else none
      | .rem, .el0 => if k = .i64 ∧ c = 50 then some (.int k 0) else none
      | .gtr, .ln _ => if c = 0 then some (.bool true) else none
      | .gtr, .st => if c = 64 then some (.bool false) else none
      | .lss, .st => if c = 0 then some (.bool false) else none
      | _, _ => none
    else none
  | .int k c, .si k' n t =>
    match op, t with
    | .rem, .ln j => if k = .i64 ∧ k' = .i64 ∧ 0 ≤ c then some (.si k (c.tmod n) (.ix j c.toNat)) else none
    | _, _ => none
  | .fb n F, .int k c =>
    match op with
    | .andNot => if k = .u64 ∧ c = 2 ^ 63 then (match F.bd with | some _ => bif Nat.beq F.mm 5 then some (.int .u64 0) else some (.fb (fabs n).toNat (absF F)) | none => none) else none
    | _ => none
  | .fb _ F, .fb _ G =>
    match op with
    | .eql => bif sameId F G then some (.bool true) else none
    | _ => none
  | _, _ => none

/-- Surely not nought, against nought. -/
def notZ (x y : AF) : Bool :=
  match x, y with
  | .s _ F, .f 0 => !Nat.beq F.lw 0
  | .s _ F, .s _ G => (Nat.beq F.mm 7 && Nat.beq G.mm 8) || (Nat.beq F.mm 8 && Nat.beq G.mm 7)
  | _, _ => false

/-- Surely nought, against nought. -/
def isZ (x y : AF) : Bool :=
  match x, y with
  | .s _ F, .f 0 => Nat.beq F.mm 5
  | .s _ F, .s _ G => (Nat.beq F.mm 5 && Nat.beq G.mm 5) || sameId F G
  | _, _ => false

def binC (op : BinOp) (x y : AC) : Option AC :=
  match x, y with
  | .int k a, .int k' b =>
    match op with
    | .shl => if b < 0 then none else some (.int k (k.wrap (a * 2 ^ min b.toNat k.bits)))
    | .shr => if b < 0 then none else some (.int k (a.fdiv (2 ^ min b.toNat k.bits)))
    | _ =>
      if k = k' then
        match icmp op a b with
        | some r => some (.bool r)
        | none =>
          match iarith op k a b with
          | some r => some (.int k r)
          | none => none
      else none
  | .flt a, .flt b =>
    bif isS a || isS b then fltS op a b else
    match fcmp op (ford a b) with
    | some r => some (.bool r)
    | none =>
      match farith op a b with
      | some r => some (.flt r)
      | none => none
  | .cpx a b, .cpx c d =>
    match op with
    | .add =>
      match farith .add a c, farith .add b d with
      | some x, some y => some (.cpx x y)
      | _, _ => none
    | .sub =>
      match farith .sub a c, farith .sub b d with
      | some x, some y => some (.cpx x y)
      | _, _ => none
    | .eql => bif isS a || isS b || isS c || isS d then (bif notZ a c || notZ b d then some (.bool false) else bif isZ a c && isZ b d then some (.bool true) else none) else some (.bool (ordIs (ford a c) .eq && ordIs (ford b d) .eq))
    | .neq => bif isS a || isS b || isS c || isS d then (bif notZ a c || notZ b d then some (.bool true) else bif isZ a c && isZ b d then some (.bool false) else none) else some (.bool (!(ordIs (ford a c) .eq && ordIs (ford b d) .eq)))
    | _ => none
  | x, y => intS op x y

def unC (op : UnOp) (x : AC) : Option AC :=
  match op, x with
  | .neg, .int k n => some (.int k (k.wrap (0 - n)))
  | .neg, .flt (.f b) => some (.flt (.f (Op.negFloat .f64 b)))
  | .neg, .flt (.s n F) =>
    match F.bd with
    | some _ => fzM (negF F) fun K => some (.flt (.s (fneg n) K))
    | none => none
  | .not, .bool b => some (.bool !b)
  | .not, .sb b => some (.sb !b)
  | _, _ => none

/-- Are these whole numbers of one kind, the same ones? none: something else lies among them. -/
def sameInts : List AC → List AC → Option Bool
  | [], [] => some true
  | .int k a :: r, .int k' b :: s =>
    if k = k' then
      match sameInts r s with
      | some t => some ((a == b) && t)
      | none => none
    else none
  | _, _ => none

/-- The greater, the lesser of two bits. -/
def fmax (n m : Nat) : Nat :=
  match FloatKind.f64.format.order n m with
  | some .lt => m
  | some .gt => n
  | some .eq => if (FloatKind.f64.decode n).neg then m else n
  | none => 0

def fmin (n m : Nat) : Nat :=
  match FloatKind.f64.format.order n m with
  | some .lt => n
  | some .gt => m
  | some .eq => if (FloatKind.f64.decode n).neg then n else m
  | none => 0

def lwMax (F G : Fm) : Nat := bif F.pos && G.pos && !(Nat.beq F.lw 0 && Nat.beq G.lw 0) then 1 else 0

/-- The greater, the lesser of two that are not known. -/
def maxS (x y : AF) : Option AC :=
  match x, y with
  | .s n F, .s m G =>
    match F.bd, G.bd with
    | some a, some b => fzM { id := 0, np := max2N F.np G.np, pos := F.pos && G.pos, bd := some (max2N a b), fm := none, lw := lwMax F G, mm := bif Nat.beq F.mm 4 then 1 else 0 } fun K => some (.flt (.s (fmax n m) K))
    | _, _ => none
  | _, _ => none

def minS (x y : AF) : Option AC :=
  match x, y with
  | .s n F, .s m G =>
    match F.bd, G.bd with
    | some a, some b => fzM { id := 0, np := max2N F.np G.np, pos := F.pos && G.pos, bd := some (max2N a b), fm := none, mm := bif Nat.beq F.mm 4 then 2 else 0 } fun K => some (.flt (.s (fmin n m) K))
    | _, _ => none
  | _, _ => none

def max2 (x y : AC) : Option AC :=
  match x, y with
  | .int k a, .int k' b => if k = k' then some (.int k (if b > a then b else a)) else none
  | .flt (.f a), .flt (.f b) =>
    match FloatKind.f64.format.order a b with
    | none => some (.flt .nan)
    | some .lt => some (.flt (.f b))
    | some .gt => some (.flt (.f a))
    | some .eq => some (.flt (.f (if (FloatKind.f64.decode a).neg then b else a)))
  | .flt a, .flt b => bif isS a || isS b then maxS a b else some (.flt .nan)
  | _, _ => none

def min2 (x y : AC) : Option AC :=
  match x, y with
  | .int k a, .int k' b => if k = k' then some (.int k (if b < a then b else a)) else none
  | .flt (.f a), .flt (.f b) =>
    match FloatKind.f64.format.order a b with
    | none => some (.flt .nan)
    | some .lt => some (.flt (.f a))
    | some .gt => some (.flt (.f b))
    | some .eq => some (.flt (.f (if (FloatKind.f64.decode a).neg then a else b)))
  | .flt a, .flt b => bif isS a || isS b then minS a b else some (.flt .nan)
  | _, _ => none

def foldC (g : AC → AC → Option AC) : AC → List AV → Option AC
  | x, [] => some x
  | x, .c y :: r =>
    match g x y with
    | some z => foldC g z r
    | none => none
  | _, _ => none

/- #### maps -/

def keyOk (key : Option Nat) (k : AV) : Bool :=
  match key, k with
  | none, .c (.int _ _) => true
  | some n, .agg xs => Nat.beq xs.length n
  | _, _ => false

/-- Is it the entry's key? -/
def sameKey (a b : AV) : Option Bool :=
  match a, b with
  | .c x, .c y => sameInts [x] [y]
  | .agg xs, .agg ys => sameInts xs ys
  | _, _ => none

def findK (k : AV) : List (AV × AV) → Nat → Option (Option (Nat × AV))
  | [], _ => some none
  | (x, v) :: r, i =>
    match sameKey k x with
    | some true => some (some (i, v))
    | some false => findK k r (Nat.succ i)
    | none => none

def setAt : List (AV × AV) → Nat → (AV × AV) → List (AV × AV)
  | [], _, _ => []
  | _ :: r, 0, e => e :: r
  | x :: r, i + 1, e => x :: setAt r i e

def atE : List (AV × AV) → Nat → Option (AV × AV)
  | [], _ => none
  | x :: _, 0 => some x
  | _ :: r, i + 1 => atE r i

/- #### slices -/

/-- A slice's base, first cell, length, and what is known of its room. -/
def lenOf : AC → Option Nat
  | .nils => some 0
  | .sl _ _ l _ => some l
  | .osl _ l _ => some l
  | _ => none

/-- The first n elements' cells. -/
def firsts (H : AH) (z n : Nat) : AC → Option (List AC)
  | .nils => bif Nat.beq n 0 then some [] else none
  | .sl b o l _ => bif Nat.ble n l then H.read b o (Nat.mul n z) else none
  | .osl b l z' => bif Nat.ble n l && Nat.beq z z' then H.read b 0 (Nat.mul n z) else none
  | _ => none

def big : Nat := 2 ^ 40

def room (bytes n : Nat) : Bool := Nat.ble n big && Nat.ble (Nat.mul (Nat.add (Nat.mul 2 n) 1000) bytes) (2 ^ 48)

def appendA (H : AH) (z : Nat) (zero : List AC) (bytes : Nat) (s x : AC) : Option (AT × AH) :=
  match lenOf x with
  | none => none
  | some n =>
    match firsts H z n x with
    | none => none
    | some new =>
      bif Nat.beq zero.length z && Nat.ble 1 z then
        match s with
        | .nils =>
          bif Nat.beq n 0 then some (mk1 .nils, H) else
          bif room bytes n then some (mk1 (.osl H.n n z), H.new (.cells new false)) else none
        | .sl b o l (some cap) =>
          bif Nat.ble (Nat.add l n) cap then
            match H.write b (Nat.add o (Nat.mul l z)) new with
            | some H => some (mk1 (.sl b o (Nat.add l n) (some cap)), H)
            | none => none
          else
            bif room bytes (Nat.add l n) && Nat.ble l cap then
              match H.read b o (Nat.mul l z) with
              | some old => some (mk1 (.osl H.n (Nat.add l n) z), H.new (.cells (old ++ new) false))
              | none => none
            else none
        | .osl b l z' =>
          bif Nat.beq z z' && room bytes (Nat.add l n) then
            bif memN H.p b then none else
            match H.t.get b with
            | some (.cells old false) =>
              bif Nat.beq old.length (Nat.mul l z) then
                some (mk1 (.osl H.n (Nat.add l n) z), ({ t := H.t.put b none, n := H.n, p := H.p } : AH).new (.cells (old ++ new) false))
              else none
            | _ => none
          else none
        | _ => none
      else none

def copyA (H : AH) (z : Nat) (d x : AC) : Option (AT × AH) :=
  match lenOf d, lenOf x with
  | some l, some m =>
    let n := Nat.min m l
    match firsts H z n x with
    | none => none
    | some new =>
      match d with
      | .nils => some (mk1 (.int .i64 n), H)
      | .sl b o _ _ =>
        match H.write b o new with
        | some H => some (mk1 (.int .i64 n), H)
        | none => none
      | .osl b _ _ =>
        match H.write b 0 new with
        | some H => some (mk1 (.int .i64 n), H)
        | none => none
      | _ => none
  | _, _ => none

/-- A bound of a slice expression: from 0 to y. -/
def bound (T : Tr AT) (y : Nat) (d : Nat) : Option AOpnd → Option Nat
  | none => some d
  | some x =>
    match x.evC T with
    | some (.int _ i) => if 0 ≤ i ∧ i ≤ y then some i.toNat else none
    | _ => none

def sliceA (T : Tr AT) (z : Nat) (arr : Option Nat) (x : AC) (lo hi : Option AOpnd) : Option AC :=
  match arr, x with
  | some n, .ptr b o =>
    match bound T n n hi with
    | none => none
    | some h =>
      match bound T h 0 lo with
      | none => none
      | some l => some (.sl b (bif Nat.beq n l then o else Nat.add o (Nat.mul l z)) (h - l) (some (n - l)))
  | none, .nils =>
    match bound T 0 0 hi, bound T 0 0 lo with
    | some _, some _ => some .nils
    | _, _ => none
  | none, .sl b o len (some cap) =>
    match bound T cap len hi with
    | none => none
    | some h =>
      match bound T h 0 lo with
      | none => none
      | some l => some (.sl b (bif Nat.beq cap l then o else Nat.add o (Nat.mul l z)) (h - l) (some (cap - l)))
  | none, .osl b len z' =>
    match bound T len len hi with
    | none => none
    | some h =>
      match bound T h 0 lo with
      | none => none
      | some l =>
        bif Nat.beq z z' then
          bif Nat.beq l 0 then some (.osl b h z)
          else bif Nat.ble (Nat.succ l) len then some (.sl b (Nat.mul l z) (h - l) none) else none
        else none
  | _, _ => none

def evCs (T : Tr AT) : List AOpnd → Option (List (Nat × Nat))
  | [] => some []
  | x :: r =>
    match x.evC T with
    | some (.ptr b o) =>
      match evCs T r with
      | some ps => some ((b, o) :: ps)
      | none => none
    | _ => none

def partA (z : Option Nat) (cs : List AC) (off : Nat) : Option AV :=
  match z with
  | none =>
    match at? cs off with
    | some x => some (.c x)
    | none => none
  | some n =>
    match cut cs off n with
    | some xs => some (.agg xs)
    | none => none

def reps (xs : List AC) : Nat → List AC
  | 0 => []
  | n + 1 => xs ++ reps xs n

def biA (T : Tr AT) (b : ABi) (args : List AOpnd) (H : AH) : Option (AT × AH) :=
  match evVs T args with
  | none => none
  | some vs =>
    match b, vs with
    | .len, [.c x] =>
      match lenOf x with
      | some n => some (mk1 (.int .i64 n), H)
      | none =>
        match x with
        | .xs _ j n _ => some (mk1 (.si .i64 n (.ln j)), H)
        | _ => none
    | .lenM, [.c .nilm] => some (mk1 (.int .i64 0), H)
    | .lenM, [.c (.map b)] =>
      match H.getMap b with
      | some es => some (mk1 (.int .i64 es.length), H)
      | none => none
    | .real, [.c (.cpx x _)] => some (mk1 (.flt x), H)
    | .imag, [.c (.cpx _ y)] => some (mk1 (.flt y), H)
    | .complex, [.c (.flt x), .c (.flt y)] => some (mk1 (.cpx x y), H)
    | .max, .c x :: r =>
      match foldC max2 x r with
      | some z => some (mk1 z, H)
      | none => none
    | .min, .c x :: r =>
      match foldC min2 x r with
      | some z => some (mk1 z, H)
      | none => none
    | .append z zero bytes, [.c s, .c x] => appendA H z zero bytes s x
    | .copy z, [.c d, .c x] => copyA H z d x
    | _, _ => none

def keepH (H : AH) : Option AT → Option (AT × AH)
  | some x => some (x, H)
  | none => none

def some1 (H : AH) : Option AC → Option (AT × AH)
  | some x => some (mk1 x, H)
  | none => none

def undefA : AT := .tup []

/-- The one or the other. -/
def joinF (q : Bool) (x y : AF) : Option AF :=
  match toS x, toS y with
  | some (n, F), some (m, G) =>
    match F.bd, G.bd with
    | some a, some b => fzM { id := 0, np := bif Nat.beq F.np G.np then F.np else 0, pos := F.pos && G.pos, bd := some (max2N a b), fm := none, lw := bif Nat.beq F.lw 0 || Nat.beq G.lw 0 then 0 else 1 } fun K => some (.s (bif q then n else m) K)
    | _, _ => none
  | _, _ => none

def joinT (q : Bool) (x y : Option AT) : Option AT :=
  match x, y with
  | some (.v (.c (.flt a))), some (.v (.c (.flt b))) =>
    match joinF q a b with
    | some z => some (mk1 (.flt z))
    | none => none
  | some (.v (.c (.cpx a b))), some (.v (.c (.cpx c d))) =>
    match joinF q a c, joinF q b d with
    | some x, some y => some (mk1 (.cpx x y))
    | _, _ => none
  | _, _ => none

def evOp (callf : Nat → List AV → AH → Option (AT × AH)) (T : Tr AT) (op : AOp) (H : AH) : Option (AT × AH) :=
  match op with
  | .mov x => keepH H (x.ev T)
  | .pick c a b =>
    match c.evC T with
    | some (.bool true) => keepH H (a.ev T)
    | some (.bool false) => keepH H (b.ev T)
    | some (.sb q) => keepH H (joinT q (a.ev T) (b.ev T))
    | _ => none
  | .alloc cells => some (mk1 (.ptr H.n 0), H.new (.cells cells true))
  | .box x =>
    match x.evV T with
    | some v => some (mk1 (.ptr H.n 0), H.new (.cells v.cells true))
    | none => none
  | .build zero parts =>
    match fillA T zero parts with
    | some cs => some (.v (.agg cs), H)
    | none => none
  | .buildSlice zero parts len =>
    match fillA T zero parts with
    | some cs => some (mk1 (.sl H.n 0 len (some len)), H.new (.cells cs true))
    | none => none
  | .load z a =>
    match a.evC T with
    | some (.ptr b o) =>
      match z with
      | none => some1 H (H.read1 b o)
      | some n =>
        match H.read b o n with
        | some xs => some (.v (.agg xs), H)
        | none => none
    | some (.fp b j i x) =>
      match z, H.t.get b with
      | none, some (.raw j') => bif Nat.beq j j' && Nat.ble i 47 then some (mk1 (.si .i16 x (bif Nat.ble (Nat.add i 3) j then .el0 else .el)), H) else none
      | _, _ => none
    | _ => none
  | .store z a x =>
    match a.evC T, x.evV T with
    | some (.ptr b o), some v =>
      bif Nat.beq v.cells.length z then
        match H.write b o v.cells with
        | some H => some (undefA, H)
        | none => none
      else none
    | _, _ => none
  | .nilCheck x =>
    match x.evC T with
    | some (.ptr b o) => some (mk1 (.ptr b o), H)
    | some (.fn f caps) => some (mk1 (.fn f caps), H)
    | _ => none
  | .bin op x y =>
    match x.evC T, y.evC T with
    | some a, some b => some1 H (binC op a b)
    | _, _ => none
  | .eqB neg x y =>
    match x.evC T, y.evC T with
    | some (.bool a), some (.bool b) => some (mk1 (.bool (xor neg (a == b))), H)
    | _, _ => none
  | .eqA neg n x y =>
    match x.evV T, y.evV T with
    | some (.agg a), some (.agg b) =>
      bif Nat.beq a.length n then
        match sameInts a b with
        | some r => some (mk1 (.bool (xor neg r)), H)
        | none => none
      else none
    | _, _ => none
  | .isNil neg x =>
    match x.evC T with
    | some .nils => some (mk1 (.bool (xor neg true)), H)
    | some (.sl _ _ _ _) => some (mk1 (.bool (xor neg false)), H)
    | some (.osl _ _ _) => some (mk1 (.bool (xor neg false)), H)
    | _ => none
  | .strAt s i =>
    match i.evC T with
    | some (.int _ i) =>
      if 0 ≤ i then
        match s[i.toNat]? with
        | some b => some (mk1 (.int .u8 b), H)
        | none => none
      else none
    | _ => none
  | .un op x =>
    match x.evC T with
    | some a => some1 H (unC op a)
    | none => none
  | .toInt k x =>
    match x.evC T with
    | some (.int _ n) => some (mk1 (.int k (k.wrap n)), H)
    | some (.si _ n (.md m r)) => if k = .i64 then some (mk1 (.si k n (.md m r)), H) else none
    | some (.si _ n .byt) => if k = .i64 then some (mk1 (.si k n .byt), H) else none
    | some (.si _ n .el) => if k = .i64 then some (mk1 (.si k n .el), H) else none
    | some (.si _ n .el0) => if k = .i64 then some (mk1 (.si k n .el0), H) else none
    | _ => none
  | .toFlt x =>
    match x.evC T with
    | some (.int _ n) => some (mk1 (.flt (.f (FloatKind.f64.nearest n))), H)
    | some (.flt x) => some (mk1 (.flt x), H)
    | some (.si _ n (.lev j)) => some (mk1 (.flt (.s (FloatKind.f64.nearest n) { id := j, np := 0, pos := false, bd := some (2 ^ 110), fm := none })), H)
    | some (.si _ n .er) => some (mk1 (.flt (.s (FloatKind.f64.nearest n) { id := 0, np := 0, pos := false, bd := some (2 ^ 106), fm := none })), H)
    | _ => none
  | .mkFn f caps =>
    match evCs T caps with
    | some ps => some (mk1 (.fn f ps), H)
    | none => none
  | .mkMap => some (mk1 (.map H.n), H.new (.map []))
  | .mkSlice z zero bytes l c =>
    match l.evC T, c.evC T with
    | some (.int _ l), some (.int _ c) =>
      if 0 ≤ l ∧ l ≤ c ∧ c ≤ big ∧ bytes * c ≤ 2 ^ 48 then
        bif Nat.beq zero.length z then
          some (mk1 (.sl H.n 0 l.toNat (some c.toNat)), H.new (.cells (reps zero c.toNat) true))
        else none
      else none
    | _, _ => none
  | .slice z arr x lo hi =>
    match x.evC T with
    | some x => some1 H (sliceA T z arr x lo hi)
    | none => none
  | .addr off x =>
    match x.evC T with
    | some (.ptr b o) => some (mk1 (.ptr b (Nat.add o off)), H)
    | _ => none
  | .field z off x =>
    match x.evV T with
    | some (.agg xs) =>
      match partA z xs off with
      | some v => some (.v v, H)
      | none => none
    | _ => none
  | .indexAddr z arr x i =>
    match x.evC T, i.evC T with
    | some x, some (.int _ i) =>
      match arr, x with
      | some n, .ptr b o => if 0 ≤ i ∧ i < n then some (mk1 (.ptr b (Nat.add o (Nat.mul i.toNat z))), H) else none
      | none, .sl b o l _ => if 0 ≤ i ∧ i < l then some (mk1 (.ptr b (Nat.add o (Nat.mul i.toNat z))), H) else none
      | none, .osl b l _ => if 0 ≤ i ∧ i < l then some (mk1 (.ptr b (Nat.mul i.toNat z)), H) else none
      | _, _ => none
    | some (.xs b j _ e), some (.si _ _ (.ix j' i)) =>
      match arr with
      | none => bif Nat.beq j j' && Nat.beq z 1 then some (mk1 (.fp b j i (e i)), H) else none
      | some _ => none
    | _, _ => none
  | .index z sz n x i =>
    match x.evV T, i.evC T with
    | some (.agg xs), some (.int _ i) =>
      if 0 ≤ i ∧ i < n then
        match partA z xs (Nat.mul i.toNat sz) with
        | some v => some (.v v, H)
        | none => none
      else none
    | _, _ => none
  | .lookup key zero m k ok =>
    match m.evC T, k.evV T with
    | some m, some k =>
      bif keyOk key k then
        match (match m with | .nilm => some [] | .map b => H.getMap b | _ => none : Option (List (AV × AV))) with
        | none => none
        | some es =>
          match findK k es 0 with
          | none => none
          | some none => some (bif ok then .tup [zero, .c (.bool false)] else .v zero, H)
          | some (some (_, v)) => some (bif ok then .tup [v, .c (.bool true)] else .v v, H)
      else none
    | _, _ => none
  | .mapUpdate key m k x =>
    match m.evC T, k.evV T, x.evV T with
    | some (.map b), some k, some x =>
      bif keyOk key k then
        match H.getMap b with
        | none => none
        | some es =>
          match findK k es 0 with
          | none => none
          | some none =>
            match H.setMap b (es ++ [(k, x)]) with
            | some H => some (undefA, H)
            | none => none
          | some (some (i, _)) =>
            match H.setMap b (setAt es i (k, x)) with
            | some H => some (undefA, H)
            | none => none
      else none
    | _, _, _ => none
  | .mapEntry key zero m k =>
    match m.evC T, k.evV T with
    | some (.map b), some k =>
      bif keyOk key k then
        match H.getMap b with
        | none => none
        | some es =>
          match findK k es 0 with
          | none => none
          | some none =>
            match H.setMap b (es ++ [(k, zero)]) with
            | some H => some (.tup [zero, .c (.int .i64 es.length)], H)
            | none => none
          | some (some (i, v)) =>
            match H.setMap b (setAt es i (k, v)) with
            | some H => some (.tup [v, .c (.int .i64 i)], H)
            | none => none
      else none
    | _, _ => none
  | .entryStore m s x =>
    match m.evC T, s.evC T, x.evV T with
    | some (.map b), some (.int _ i), some x =>
      match H.getMap b with
      | none => none
      | some es =>
        if 0 ≤ i then
          match atE es i.toNat with
          | some (k, _) =>
            match H.setMap b (setAt es i.toNat (k, x)) with
            | some H => some (undefA, H)
            | none => none
          | none => none
        else none
    | _, _, _ => none
  | .extract i x =>
    match x.ev T with
    | some (.tup xs) =>
      match xs[i]? with
      | some v => some (.v v, H)
      | none => none
    | _ => none
  | .call f args =>
    match f.evC T, evVs T args with
    | some (.fn f caps), some vs => fzVs (vs ++ caps.map fun (b, o) => .c (.ptr b o)) fun vs => callf f vs H
    | _, _ => none
  | .fbits x =>
    match x.evC T with
    | some (.flt (.f b)) => some (mk1 (.int .u64 b), H)
    | some (.flt (.s n F)) => some (mk1 (.fb n F), H)
    | _ => none
  | .ffrom x =>
    match x.evC T with
    | some (.int .u64 n) => some (mk1 (.flt (.f n.toNat)), H)
    | some (.fb n F) => some (mk1 (.flt (.s n F)), H)
    | _ => none
  | .sqrt x =>
    match x.evC T with
    | some (.flt (.f b)) => some (mk1 (.flt (match FloatKind.f64.format.sqrt b with | some r => .f r | none => .nan)), H)
    | some (.flt (.s n F)) =>
      match F.bd with
      | some b => bif Nat.beq F.lw 2 && Nat.ble b top then some (mk1 (.flt (.s (fsqrt n) { id := 0, np := F.np, pos := true, bd := some (Nat.mul 2 b), fm := none })), H) else none
      | none => none
    | _ => none
  | .bi b args => biA T b args H

/- ### Code -/

inductive AE where
  | normal
  | exit (id : Nat)
  | ret

/-- A read that a region has carried out: its number, its block; a map's element that is a whole number: key and number. -/
structure LR where
  i : Nat
  b : Nat
  k : Option (AV × IntKind × Int)

/-- What is to be remembered of a read. -/
def readOf (T : Tr AT) (i : Nat) (op : AOp) (r : AT) : Option LR :=
  match op with
  | .load _ a =>
    match a.evC T with
    | some (.ptr b _) => some { i := i, b := b, k := none }
    | some (.fp b _ _ _) => some { i := i, b := b, k := none }
    | _ => none
  | .lookup _ _ m k ok =>
    match m.evC T with
    | some (.map b) =>
      match ok, r, k.evV T with
      | false, .v (.c (.int q n)), some k => some { i := i, b := b, k := some (k, q, n) }
      | _, _, _ => some { i := i, b := b, k := none }
    | _ => none
  | _ => none

def isRead (op : AOp) : Bool :=
  match op with
  | .load .. | .lookup .. => true
  | _ => false

/-- The map in which an entry is to be laid: a look-up of a whole number there may stand before or behind it. -/
def entryOf (T : Tr AT) (op : AOp) : Option Nat :=
  match op with
  | .mapEntry _ _ m _ =>
    match m.evC T with
    | some (.map b) => some b
    | _ => none
  | _ => none

/-- May this read be asked once more behind the operation? -/
def askAgain (e : Option Nat) (x : LR) : Bool :=
  match e, x.k with
  | some b, some _ => Nat.beq b x.b
  | _, _ => false

/-- The blocks of the reads with these numbers, ahead of what is kept already; none: one of them is gone. -/
def addP (H : AH) (e : Option Nat) (inc : List Nat) (p : List Nat) : List LR → Option (List Nat)
  | [] => some p
  | x :: r =>
    match addP H e inc p r with
    | none => none
    | some p =>
      bif memN inc x.i && !askAgain e x then
        match H.t.get x.b with
        | some _ => some (x.b :: p)
        | none => none
      else some p

/-- The reads that are asked once more answer as they did. -/
def asIs (H : AH) (e : Option Nat) (inc : List Nat) : List LR → Bool
  | [] => true
  | x :: r =>
    (bif memN inc x.i && askAgain e x then
      match x.k, H.getMap x.b with
      | some (k, q, n), some es =>
        match findK k es 0 with
        | some (some (_, .c (.int q' n'))) => decide (q = q') && decide (n = n')
        | _ => false
      | _, _ => false
    else true) && asIs H e inc r

/-- Does it leave the world alone, whatever else stands there, but for what 'readOf' names and where no NaN is drawn? -/
def quiet (op : AOp) : Bool :=
  match op with
  | .mov .. | .pick .. | .build .. | .load .. | .nilCheck .. | .bin .. | .eqB .. | .eqA .. | .isNil .. | .strAt .. | .un .. | .toInt .. | .toFlt .. | .mkFn .. | .slice .. | .addr .. | .field .. | .indexAddr .. | .index .. | .lookup .. | .extract .. | .fbits .. | .ffrom .. => true
  | .bi b _ =>
    match b with
    | .len | .real | .imag | .complex => true
    | _ => false
  | _ => false

def nanC : AC → Bool
  | .flt .nan => true
  | .cpx .nan _ => true
  | .cpx _ .nan => true
  | _ => false

/-- A NaN that a float's sum gave: its bits are drawn. -/
def drewNan (op : AOp) (r : AT) : Bool :=
  match op, r with
  | .bin .., .v (.c x) => nanC x
  | _, _ => false

def isNil {α : Type} : List α → Bool
  | [] => true
  | _ :: _ => false

def putT (T : Tr AT) (dst : Option Nat) (x : AT) : Tr AT :=
  match dst with
  | some d => T.put d (some x)
  | none => T

def evI (callf : Nat → List AV → AH → Option (AT × AH)) (x : AI) (ls : List LR) (T : Tr AT) (H : AH) : Option (AT × AH) :=
  bif x.q then
    match evOp callf T x.op H with
    | some (v, H') => bif drewNan x.op v then none else some (v, H')
    | none => none
  else bif isNil x.inc then evOp callf T x.op H
  else
    match addP H (entryOf T x.op) x.inc H.p ls with
    | none => none
    | some p =>
      match evOp callf T x.op { t := H.t, n := H.n, p := p } with
      | some (v, H') => bif asIs H' (entryOf T x.op) x.inc ls then some (v, { t := H'.t, n := H'.n, p := H.p }) else none
      | none => none

def wantedA (T : Tr AT) (g : Option (Nat × Bool)) : Option Bool :=
  match g with
  | none => some true
  | some (t, want) =>
    match T.get t with
    | none => none
    | some (.v (.c (.bool b))) => some (b == want)
    | some (.v (.c (.sb _))) => none
    | some (.v (.c (.arg _))) => none
    | some (.v (.c .any)) => none
    | some _ => some false

def addR (x : Option LR) (ls : List LR) : List LR :=
  match x with
  | some x => x :: ls
  | none => ls

def evIs (callf : Nat → List AV → AH → Option (AT × AH)) : List AI → List LR → Tr AT → AH → Option (Tr AT × AH)
  | [], _, T, H => some (T, H)
  | x :: r, ls, T, H =>
    match wantedA T x.guard with
    | none => none
    | some false => evIs callf r ls (putT T x.dst undefA) H
    | some true =>
      match evI callf x ls T H with
      | none => none
      | some (v, H') =>
        fzT v fun v => evIs callf r (bif x.q then addR (readOf T x.i x.op v) ls else ls) (putT T x.dst v) H'

/-- Forget what these slots hold. -/
def wipe : List Nat → Tr AT → Tr AT
  | [], T => T
  | d :: r, T => wipe r (T.put d none)

def enter (args : List AV) : Nat → Tr AT → Tr AT :=
  match args with
  | [] => fun _ T => T
  | x :: r => fun i T => enter r (Nat.succ i) (T.put i (some (.v x)))

def resA (T : Tr AT) (H : AH) : List (Nat × Option (Option Nat)) → Option (List AV)
  | [] => some []
  | (t, z) :: r =>
    match (match z with
      | none => (match T.get t with | some (.v x) => some x | _ => none)
      | some z =>
        match T.get t with
        | some (.v (.c (.ptr b o))) =>
          match z with
          | none => (match H.read1 b o with | some x => some (.c x) | none => none)
          | some n => (match H.read b o n with | some xs => some (.agg xs) | none => none)
        | _ => none : Option AV) with
    | none => none
    | some v =>
      match resA T H r with
      | some vs => some (v :: vs)
      | none => none

def one (vs : List AV) : AT :=
  match vs with
  | [x] => .v x
  | xs => .tup xs

/-- The slots that code writes. -/
def dstsI : List AI → List Nat
  | [] => []
  | x :: r =>
    match x.dst with
    | some d => d :: dstsI r
    | none => dstsI r

def dstsC : ACode → List Nat
  | .region er is => er ++ dstsI is
  | .seq a b => dstsC a ++ dstsC b
  | .cond _ a b => dstsC a ++ dstsC b
  | .block _ a => dstsC a
  | .loop a => dstsC a
  | _ => []

def joinTs (q : Bool) (T1 T2 : Tr AT) : List Nat → Tr AT → Tr AT
  | [], T => T
  | d :: r, T => joinTs q T1 T2 r (T.put d (match joinT q (T1.get d) (T2.get d) with | some x => fzT x some | none => none))

abbrev Ans := Option (AE × Tr AT × AH)

/-- One step down: 'self' evaluates code with less fuel. -/
def evStep (env : Nat → Option AFun) (ov : Nat → List AV → AH → Option (AT × AH)) (self : ACode → Tr AT → AH → Ans) (c : ACode) (T : Tr AT) (H : AH) : Ans :=
  match c with
  | .skip => some (.normal, T, H)
  | .ret => some (.ret, T, H)
  | .exit id => some (.exit id, T, H)
  | .seq a b =>
    match self a T H with
    | none => none
    | some (.normal, T, H) => self b T H
    | some r => some r
  | .cond x a b =>
    match x.evC T with
    | some (.bool true) => self a T H
    | some (.bool false) => self b T H
    | some (.sb q) =>
      match self a T { t := .nil, n := H.n, p := [] } with
      | some (.normal, T1, H1) =>
        match self b T { t := .nil, n := H.n, p := [] } with
        | some (.normal, T2, H2) => bif Nat.beq H1.n H.n && Nat.beq H2.n H.n then some (.normal, joinTs q T1 T2 (dstsC a ++ dstsC b) T, H) else none
        | _ => none
      | _ => none
    | _ => none
  | .block id a =>
    match self a T H with
    | none => none
    | some (.exit id', T, H) => bif Nat.beq id' id then some (.normal, T, H) else some (.exit id', T, H)
    | some r => some r
  | .loop a =>
    match self a T H with
    | none => none
    | some (.normal, T, H) => self (.loop a) T H
    | some r => some r
  | .region er is =>
    match evIs (fun f args H =>
      match ov f args H with
      | some r => some r
      | none =>
      match env f with
      | none => none
      | some fn =>
        match self fn.code (enter args 0 .nil) H with
        | none => none
        | some (.exit _, _, _) => none
        | some (_, T, H) =>
          match resA T H fn.res with
          | some vs => some (one vs, H)
          | none => none) is [] (wipe er T) H with
    | none => none
    | some (T, H) => some (.normal, T, H)

def ev (env : Nat → Option AFun) (ov : Nat → List AV → AH → Option (AT × AH)) (n : Nat) : ACode → Tr AT → AH → Ans :=
  Nat.rec (fun _ _ _ => none) (fun _ self => evStep env ov self) n

def evF (env : Nat → Option AFun) (ov : Nat → List AV → AH → Option (AT × AH)) (n : Nat) (f : Nat) (args : List AV) (H : AH) : Option (AT × AH) :=
  match env f with
  | none => none
  | some fn =>
    match ev env ov n fn.code (enter args 0 .nil) H with
    | none => none
    | some (.exit _, _, _) => none
    | some (_, T, H) =>
      match resA T H fn.res with
      | some vs => some (one vs, H)
      | none => none

end Go.Sv

namespace Go.Sv

def cCell : Value → Option AC
  | .bool b => some (.bool b)
  | .int k n => some (.int k n)
  | .float .f64 b => some (.flt (.f b))
  | .complex .f64 a b => some (.cpx (.f a) (.f b))
  | .pointer none => some .nilp
  | .slice none 0 0 => some .nils
  | .map none => some .nilm
  | .nilFunc => some .nilf
  | _ => none

def cCells : List Value → Option (List AC)
  | [] => some []
  | v :: r =>
    match cCell v with
    | none => none
    | some x =>
      match cCells r with
      | none => none
      | some xs => some (x :: xs)

def cVal : Value → Option AV
  | .agg cs =>
    match cCells cs.toList with
    | some xs => some (.agg xs)
    | none => none
  | v =>
    match cCell v with
    | some x => some (.c x)
    | none => none

def cO : Operand → Option AOpnd
  | .tmp t => some (.tmp t)
  | .const v =>
    match cVal v with
    | some x => some (.const (.v x))
    | none => none
  | .global _ => none
  | .func f => some (.const (mk1 (.fn f [])))

def cOs : List Operand → Option (List AOpnd)
  | [] => some []
  | v :: r =>
    match cO v with
    | none => none
    | some x =>
      match cOs r with
      | none => none
      | some xs => some (x :: xs)

def cOO : Option Operand → Option (Option AOpnd)
  | none => some none
  | some x =>
    match cO x with
    | some y => some (some y)
    | none => none

section
variable (P : Program)

/-- Cells of a type's zero value, as many as it has. -/
def cZero (t : TypeId) : Option (Nat × List AC) :=
  match P.info? t with
  | some i =>
    match i.zero with
    | some z =>
      match cCells z.cells.toList with
      | some xs => if xs.length = i.size then some (i.size, xs) else none
      | none => none
    | none => none
  | none => none

def cZeroV (t : TypeId) : Option AV :=
  match P.info? t with
  | some i =>
    match i.zero with
    | some z => cVal z
    | none => none
  | none => none

def isAggT (t : TypeId) : Option Bool :=
  match P.underlying t with
  | some (.struct _) | some (.array _ _) => some true
  | some _ => some false
  | none => none

def cSize (t : TypeId) : Option Nat :=
  match P.info? t with
  | some i => some i.size
  | none => none

/-- How a variable of a type is read: none: one cell; some n: n cells. -/
def cShape (t : TypeId) : Option (Option Nat) :=
  match isAggT P t with
  | none => none
  | some false => some none
  | some true =>
    match cSize P t with
    | some n => some (some n)
    | none => none

/-- An array of whole numbers: how many. -/
def cInts (t : TypeId) : Option Nat :=
  match P.underlying t with
  | some (.array n e) =>
    match P.underlying e with
    | some (.int _) =>
      match cSize P e with
      | some 1 => some n
      | _ => none
    | _ => none
  | _ => none

def cKey (t : TypeId) : Option (Option Nat) :=
  match P.underlying t with
  | some (.int _) => some none
  | _ =>
    match cInts P t with
    | some n => some (some n)
    | none => none

def cPlaces (place : Nat → Option (Nat × Nat)) : List (Nat × Operand) → Option (List (Nat × Nat × AOpnd))
  | [] => some []
  | (i, x) :: r =>
    match place i, cO x, cPlaces place r with
    | some (off, z), some y, some ps => some ((off, z, y) :: ps)
    | _, _, _ => none

def fieldAtA (fs : Array Field) (i : Nat) : Option (Nat × Nat) :=
  match fs[i]? with
  | some f =>
    match cSize P f.type with
    | some z => some (f.offset, z)
    | none => none
  | none => none

def sizesOk (fs : Array Field) : Bool := fs.all fun f => (cSize P f.type).isSome

def cBuiltin (b : Builtin) (ts : List TypeId) : Option ABi :=
  match b, ts with
  | .len, [t] =>
    match P.underlying t with
    | some (.slice _) => some .len
    | some (.map _ _) => some .lenM
    | _ => none
  | .real, _ => some .real
  | .imag, _ => some .imag
  | .complex, _ => some .complex
  | .max, _ => some .max
  | .min, _ => some .min
  | .append, [t, u] =>
    match P.underlying t, P.underlying u with
    | some (.slice e), some (.slice _) =>
      match cZero P e, P.info? e with
      | some (z, zero), some i => some (.append z zero i.bytes)
      | _, _ => none
    | _, _ => none
  | .copy, [t, _] =>
    match P.underlying t with
    | some (.slice e) =>
      match cSize P e with
      | some z => some (.copy z)
      | none => none
    | _ => none
  | _, _ => none

def cCall (c : Call) : Option AOp :=
  match c.callee with
  | .builtin b =>
    match cBuiltin P b c.argTypes.toList, cOs c.args.toList with
    | some b, some xs => some (.bi b xs)
    | _, _ => none
  | .invoke _ _ => none
  | .value f =>
    match f with
    | .func g =>
      match P.funcs[g]? with
      | none => none
      | some fn =>
        if fn.body.isNone then
          if (Extern.findNext fn).isSome then none else
          match c.args.toList with
          | [x] =>
            match cO x with
            | none => none
            | some y =>
              if fn.name = "math.Float64bits" then some (.fbits y)
              else if fn.name = "math.Float64frombits" then some (.ffrom y)
              else if fn.name = "math.sqrt" then some (.sqrt y)
              else none
          | _ => none
        else
          match cOs c.args.toList with
          | some xs => some (.call (.const (mk1 (.fn g []))) xs)
          | none => none
    | f =>
      match cO f, cOs c.args.toList with
      | some f, some xs => some (.call f xs)
      | _, _ => none

def cBin (op : BinOp) (t : TypeId) (x y : AOpnd) : Option AOp :=
  match P.underlying t with
  | some (.int _) | some (.float _) | some (.complex _) => some (.bin op x y)
  | some (.slice _) =>
    match y, op with
    | .const (.v (.c .nils)), .eql => some (.isNil false x)
    | .const (.v (.c .nils)), .neq => some (.isNil true x)
    | _, _ => none
  | some .bool =>
    match op with
    | .eql => some (.eqB false x y)
    | .neq => some (.eqB true x y)
    | _ => none
  | some (.array _ _) =>
    match cInts P t with
    | none => none
    | some n =>
      if P.eqGuardType P.depth t then none
      else
        match op with
        | .eql => some (.eqA false n x y)
        | .neq => some (.eqA true n x y)
        | _ => none
  | _ => none

def cOp (op : Op) : Option AOp :=
  match op with
  | .move x | .assign x =>
    match cO x with
    | some x => some (.mov x)
    | none => none
  | .pick c a b =>
    match cO c, cO a, cO b with
    | some c, some a, some b => some (.pick c a b)
    | _, _, _ => none
  | .alloc e =>
    match cZero P e with
    | some (_, xs) => some (.alloc xs)
    | none => none
  | .box _ x =>
    match cO x with
    | some x => some (.box x)
    | none => none
  | .build t ps =>
    match cZero P t, P.underlying t with
    | some (_, zero), some (.struct fs) =>
      if sizesOk P fs then
        match cPlaces (fieldAtA P fs) ps.toList with
        | some ps => some (.build zero ps)
        | none => none
      else none
    | some (_, zero), some (.array _ e) =>
      match cSize P e with
      | some z =>
        match cPlaces (fun i => some (i * z, z)) ps.toList with
        | some ps => some (.build zero ps)
        | none => none
      | none => none
    | _, _ => none
  | .buildSlice t len ps =>
    match P.underlying t with
    | some (.slice e) =>
      match cZero P e with
      | some (z, zero) =>
        if 1 ≤ z ∧ len * z ≤ 2 ^ 24 then
          match cPlaces (fun i => some (i * z, z)) ps.toList with
          | some ps => some (.buildSlice (reps zero len) ps len)
          | none => none
        else none
      | none => none
    | _ => none
  | .load t a =>
    match cShape P t, cO a with
    | some z, some a => some (.load z a)
    | _, _ => none
  | .store t a x =>
    match cSize P t, cO a, cO x with
    | some z, some a, some x => some (.store z a x)
    | _, _, _ => none
  | .nilCheck x =>
    match cO x with
    | some x => some (.nilCheck x)
    | none => none
  | .binOp op t x y _ =>
    match cO x, cO y with
    | some x, some y => cBin P op t x y
    | _, _ => none
  | .unOp op _ x =>
    match cO x with
    | some x => some (.un op x)
    | none => none
  | .convert s d x =>
    match P.underlying s, P.underlying d, cO x with
    | some _, some (.int k), some x => some (.toInt k x)
    | some _, some (.float .f64), some x => some (.toFlt x)
    | _, _, _ => none
  | .makeFunc fn first caps =>
    match fn, first.toList, cOs caps.toList with
    | .func f, [], some xs => some (.mkFn f xs)
    | _, _, _ => none
  | .makeMap _ r =>
    match r with
    | none => some .mkMap
    | some _ => none
  | .makeSlice t l c =>
    match P.underlying t with
    | some (.slice e) =>
      match cZero P e, P.info? e, cO l, cO c with
      | some (z, zero), some i, some l, some c => if 1 ≤ z then some (.mkSlice z zero i.bytes l c) else none
      | _, _, _, _ => none
    | _ => none
  | .slice t x lo hi mx =>
    match mx with
    | some _ => none
    | none =>
      match cO x, cOO lo, cOO hi with
      | some x, some lo, some hi =>
        match P.underlying t with
        | some (.array n e) =>
          match cSize P e with
          | some z => some (.slice z (some n) x lo hi)
          | none => none
        | some (.slice e) =>
          match cSize P e with
          | some z => if 1 ≤ z then some (.slice z none x lo hi) else none
          | none => none
        | _ => none
      | _, _, _ => none
  | .fieldAddr t x f =>
    match P.underlying t, cO x with
    | some (.struct fs), some x =>
      match fs[f]? with
      | some f =>
        match cSize P f.type with
        | some (_ + 1) => some (.addr f.offset x)
        | _ => none
      | none => none
    | _, _ => none
  | .field t x f =>
    match P.underlying t, cO x with
    | some (.struct fs), some x =>
      match fs[f]? with
      | some f =>
        match cShape P f.type with
        | some z => some (.field z f.offset x)
        | none => none
      | none => none
    | _, _ => none
  | .indexAddr t x i =>
    match P.underlying t, cO x, cO i with
    | some (.array n e), some x, some i =>
      match cSize P e with
      | some z => some (.indexAddr z (some n) x i)
      | none => none
    | some (.slice e), some x, some i =>
      match cSize P e with
      | some z => some (.indexAddr z none x i)
      | none => none
    | _, _, _ => none
  | .index t x i =>
    match x with
    | .const (.string s) =>
      match P.underlying t, cO i with
      | some .string, some i => some (.strAt (s.data.toList.map UInt8.toNat) i)
      | _, _ => none
    | x =>
    match P.underlying t, cO x, cO i with
    | some (.array n e), some x, some i =>
      match cShape P e, cSize P e with
      | some z, some sz => some (.index z sz n x i)
      | _, _ => none
    | _, _, _ => none
  | .lookup t m k ok =>
    match P.underlying t, cO m, cO k with
    | some (.map kt e), some m, some k =>
      match cKey P kt, cZeroV P e with
      | some key, some z => some (.lookup key z m k ok)
      | _, _ => none
    | _, _, _ => none
  | .mapUpdate t m k x =>
    match P.underlying t, cO m, cO k, cO x with
    | some (.map kt _), some m, some k, some x =>
      match cKey P kt with
      | some key => some (.mapUpdate key m k x)
      | none => none
    | _, _, _, _ => none
  | .mapEntry t m k =>
    match P.underlying t, cO m, cO k with
    | some (.map kt e), some m, some k =>
      match cKey P kt, cZeroV P e with
      | some key, some z => some (.mapEntry key z m k)
      | _, _ => none
    | _, _, _ => none
  | .entryStore _ m s x =>
    match cO m, cO s, cO x with
    | some m, some s, some x => some (.entryStore m s x)
    | _, _, _ => none
  | .extract x i =>
    match cO x with
    | some x => some (.extract i x)
    | none => none
  | .call c => cCall P c
  | _ => none

/- ### Regions -/

def cGuard (ops : Array Oper) : Option (Nat × Bool) → Option (Option (Nat × Bool))
  | none => some none
  | some (j, want) =>
    match (ops[j]?).bind (·.dst) with
    | some t => some (some (t, want))
    | none => none

def dstOk (nt : Nat) : Option Nat → Bool
  | none => true
  | some d => decide (d < nt)

def cI (nt : Nat) (ops : Array Oper) (i : Nat) (q : Bool) (inc : List Nat) : Option AI :=
  match ops[i]? with
  | none => none
  | some o =>
    match cOp P o.op, cGuard ops o.guard with
    | some op, some g => if dstOk nt o.dst then some { i := i, dst := o.dst, guard := g, op := op, q := q, inc := inc } else none
    | _, _ => none

def cText (nt : Nat) (ops : Array Oper) : List Nat → Option (List AI)
  | [] => some []
  | i :: r =>
    match cI P nt ops i false [] with
    | none => none
    | some x =>
      match cText nt ops r with
      | none => none
      | some xs => some (x :: xs)

/-- Who stands before whom, by the binding edges. -/
def ancOk (ops : Array Oper) (A : List Nat) : Bool :=
  (List.range ops.size).all fun j =>
    match ops[j]? with
    | none => true
    | some o => A.getD j 0 == o.after.toList.foldl (fun s e => if Region.binds .any e then s ||| 2 ^ e.on ||| A.getD e.on 0 else s) 0

def isAnc (A : List Nat) (j i : Nat) : Bool := (A.getD j 0).testBit i

def kindOf (ops : Array Oper) (i : Nat) : Option AOp := (ops[i]?).bind fun o => cOp P o.op

def readAt (ks : List (Option AOp)) (i : Nat) : Bool :=
  match ks.getD i none with
  | some op => isRead op
  | none => false

def quietAt (ks : List (Option AOp)) (i : Nat) : Bool :=
  match ks.getD i none with
  | some op => quiet op
  | none => false

/-- The reads that may stand before or behind operation j. -/
def incOf (A : List Nat) (ks : List (Option AOp)) (n j : Nat) : List Nat :=
  (List.range n).filter fun i => readAt ks i && !(i == j) && !isAnc A j i && !isAnc A i j

/-- A zero variable that is made: it may come up whenever it likes. -/
def lateAt (ops : Array Oper) (i : Nat) : Bool :=
  match ops[i]? with
  | some o =>
    match o.op, o.guard, o.dst with
    | .alloc _, none, some _ => o.after.all fun e => !Region.binds .any e
    | _, _, _ => false
  | none => false

/-- May number i be taken ahead of all that have not come up? -/
def freeA (ops : Array Oper) (A : List Nat) (listed : Array Bool) (i : Nat) : Bool :=
  match ops[i]? with
  | none => false
  | some oi => (List.range ops.size).all fun j => j == i || listed.getD j true || isAnc A j i ||
      match ops[j]? with
      | some oj => oi.apart ops oj
      | none => true

/-- All of these listed. -/
def listAll (listed : Array Bool) : List Nat → Array Bool
  | [] => listed
  | i :: r => listAll (listed.setIfInBounds i true) r

/-- The late ones that have not come up, but for k. -/
def lates (ops : Array Oper) (listed : Array Bool) (k : Nat) : List Nat :=
  (List.range ops.size).filter fun i => lateAt ops i && !listed.getD i true && !(i == k)

/-- With all late ones but k come up, may any come up but j and late ones? -/
def aloneA (ops : Array Oper) (listed : Array Bool) (k j : Nat) : Bool :=
  (Region.ready .any ops (listAll listed (lates ops listed k))).all fun i => i == j || lateAt ops i

def cDraw (nt : Nat) (ops : Array Oper) (A : List Nat) (ks : List (Option AOp)) : Nat → Array Bool → Option (List AI)
  | fuel, listed =>
    match Region.ready .any ops listed with
    | [] => some []
    | rs =>
      match fuel with
      | 0 => none
      | fuel + 1 =>
        match rs.find? (quietAt ks) with
        | some i =>
          if freeA ops A listed i then
            match cI P nt ops i true [], cDraw nt ops A ks fuel (listed.setIfInBounds i true) with
            | some x, some xs => some (x :: xs)
            | _, _ => none
          else none
        | none =>
          match rs.find? (fun i => !lateAt ops i) with
          | some j =>
            if aloneA ops listed ops.size j then
              match cI P nt ops j false (incOf A ks ops.size j), cDraw nt ops A ks fuel (listed.setIfInBounds j true) with
              | some x, some xs => some (x :: xs)
              | _, _ => none
            else none
          | none =>
            match rs with
            | [] => none
            | k :: _ =>
              if aloneA ops listed k k then
                match cI P nt ops k false [], cDraw nt ops A ks fuel (listed.setIfInBounds k true) with
                | some x, some xs => some (x :: xs)
                | _, _ => none
              else none

/-- Nobody but number i writes its slot. -/
def ownDst (ops : Array Oper) (i : Nat) : Bool :=
  match ops[i]? with
  | some oi => (List.range ops.size).all fun j => j == i || (match ops[j]? with | some oj => !(oj.dst == oi.dst) | none => true)
  | none => false

def erOf (ops : Array Oper) : List Nat :=
  ((List.range ops.size).filter (lateAt ops)).filterMap fun i => (ops[i]?).bind (·.dst)

def cRegion (nt : Nat) (ops : Array Oper) (draw : Bool) : Option (List Nat × List AI) :=
  if draw then
    let A := (Region.before ops).toList
    let ks := (List.range ops.size).map (kindOf P ops)
    if ancOk ops A && Region.noSelect ops && ks.all (·.isSome) && ((List.range ops.size).filter (lateAt ops)).all (ownDst ops) then
      match cDraw P nt ops A ks ops.size (Array.replicate ops.size false) with
      | some xs => some (erOf ops, xs)
      | none => none
    else none
  else
    match cText P nt ops (List.range ops.size) with
    | some xs => some ([], xs)
    | none => none

def cCode (nt : Nat) : Code → Option ACode
  | .skip => some .skip
  | .ret => some .ret
  | .exit id => some (.exit id)
  | .region _ ops draw =>
    match cRegion P nt ops draw with
    | some (er, is) => some (.region er is)
    | none => none
  | .seq a b =>
    match cCode nt a, cCode nt b with
    | some a, some b => some (.seq a b)
    | _, _ => none
  | .cond x a b =>
    match cO x, cCode nt a, cCode nt b with
    | some x, some a, some b => some (.cond x a b)
    | _, _, _ => none
  | .block id a =>
    match cCode nt a with
    | some a => some (.block id a)
    | none => none
  | .loop a =>
    match cCode nt a with
    | some a => some (.loop a)
    | none => none
  | _ => none

def cRes : List ResultVar → Option (List (Nat × Option (Option Nat)))
  | [] => some []
  | x :: r =>
    match cRes r with
    | none => none
    | some rs =>
      match x with
      | .tmp t => some ((t, none) :: rs)
      | .cell a t =>
        match cShape P t with
        | some z => some ((a, some z) :: rs)
        | none => none

def cFun (fn : Func) : Option AFun :=
  if fn.name = "runtime.NumGoroutine" then none
  else
    match fn.body with
    | none => none
    | some c =>
      match cCode P fn.ntmps c, cRes P fn.results.toList with
      | some c, some rs => some { ntmps := fn.ntmps, res := rs, code := c }
      | _, _ => none
end
end Go.Sv
