/-
  An evaluator for the model's sequential code: abstract values, abstract memory, the evaluator's own operations and code. Definitions alone. No conditions.
-/
import GoSem.Step
namespace Go.Ev

inductive AF where
  | f (b : Nat)
  | nan

inductive AC where
  | bool (b : Bool)
  | int (k : IntKind) (n : Int)
  | flt (x : AF)
  | cpx (x y : AF)
  | nilp
  | ptr (b o : Nat)
  | nils
  | sl (b o l : Nat) (cap : Option Nat)
  | osl (b l z : Nat)
  | nilm
  | map (b : Nat)
  | fn (f : Nat) (caps : List (Nat × Nat))
  | nilf

inductive AV where
  | c (x : AC)
  | agg (xs : List AC)

inductive AT where
  | v (x : AV)
  | tup (xs : List AV)

inductive Tr (α : Type) where
  | nil
  | node (v : Option α) (l r : Tr α)

def Tr.get {α : Type} : Tr α → Nat → Option α
  | .nil, _ => none
  | .node v l r, i =>
    match i with
    | 0 => v
    | i + 1 => bif Nat.beq (Nat.mod i 2) 0 then l.get (Nat.div i 2) else r.get (Nat.div i 2)

/-- Lay 'x' (or nothing) at place i. -/
def Tr.set {α : Type} : Nat → Tr α → Nat → Option α → Tr α
  | 0, t, _, _ => t
  | k + 1, t, i, x =>
    match t with
    | .nil =>
      match i with
      | 0 => .node x .nil .nil
      | i + 1 => bif Nat.beq (Nat.mod i 2) 0 then .node none (Tr.set k .nil (Nat.div i 2) x) .nil else .node none .nil (Tr.set k .nil (Nat.div i 2) x)
    | .node v l r =>
      match i with
      | 0 => .node x l r
      | i + 1 => bif Nat.beq (Nat.mod i 2) 0 then .node v (Tr.set k l (Nat.div i 2) x) r else .node v l (Tr.set k r (Nat.div i 2) x)

def Tr.put {α : Type} (t : Tr α) (i : Nat) (x : Option α) : Tr α := Tr.set (Nat.succ i) t i x

inductive AO where
  | cells (xs : List AC) (full : Bool)
  | map (es : List (AV × AV))

structure AH where
  t : Tr AO
  n : Nat
  p : List Nat

/-- n, with its numeral laid bare. -/
def fz {α : Type} (n : Nat) (k : Nat → α) : α :=
  match n with
  | 0 => k 0
  | m + 1 => k (Nat.succ m)

/-- x, with its numerals laid bare. -/
def fzF {α : Type} (x : AF) (k : AF → α) : α :=
  match x with
  | .f b => fz b fun b => k (.f b)
  | .nan => k .nan

def fzI {α : Type} (n : Int) (k : Int → α) : α :=
  match n with
  | .ofNat m => fz m fun m => k (.ofNat m)
  | .negSucc m => fz m fun m => k (.negSucc m)

def fzO {α : Type} (x : Option Nat) (k : Option Nat → α) : α :=
  match x with
  | some n => fz n fun n => k (some n)
  | none => k none

def fzC {α : Type} (x : AC) (k : AC → α) : α :=
  match x with
  | .bool b => bif b then k (.bool true) else k (.bool false)
  | .int q n => fzI n fun n => k (.int q n)
  | .flt x => fzF x fun x => k (.flt x)
  | .cpx x y => fzF x fun x => fzF y fun y => k (.cpx x y)
  | .ptr b o => fz b fun b => fz o fun o => k (.ptr b o)
  | .sl b o l c => fz b fun b => fz o fun o => fz l fun l => fzO c fun c => k (.sl b o l c)
  | .osl b l z => fz b fun b => fz l fun l => k (.osl b l z)
  | .map b => fz b fun b => k (.map b)
  | x => k x

def fzL {α : Type} : List AC → (List AC → α) → α
  | [], k => k []
  | x :: r, k => fzC x fun x => fzL r fun r => k (x :: r)

def fzV {α : Type} (x : AV) (k : AV → α) : α :=
  match x with
  | .c x => fzC x fun x => k (.c x)
  | .agg xs => fzL xs fun xs => k (.agg xs)

def fzVs {α : Type} : List AV → (List AV → α) → α
  | [], k => k []
  | x :: r, k => fzV x fun x => fzVs r fun r => k (x :: r)

def fzT {α : Type} (x : AT) (k : AT → α) : α :=
  match x with
  | .v x => fzV x fun x => k (.v x)
  | .tup xs => fzVs xs fun xs => k (.tup xs)

inductive AOpnd where
  | tmp (t : Nat)
  | const (x : AT)

inductive ABi where
  | len | lenM | real | imag | complex
  | max | min
  | append (z : Nat) (zero : List AC) (bytes : Nat)
  | copy (z : Nat)

inductive AOp where
  | mov (x : AOpnd)
  | pick (c a b : AOpnd)
  | alloc (cells : List AC)
  | box (x : AOpnd)
  | build (zero : List AC) (parts : List (Nat × Nat × AOpnd))
  | buildSlice (zero : List AC) (parts : List (Nat × Nat × AOpnd)) (len : Nat)
  | load (z : Option Nat) (a : AOpnd)
  | store (z : Nat) (a x : AOpnd)
  | nilCheck (x : AOpnd)
  | bin (op : BinOp) (x y : AOpnd)
  | eqB (neg : Bool) (x y : AOpnd)
  | eqA (neg : Bool) (n : Nat) (x y : AOpnd)
  | isNil (neg : Bool) (x : AOpnd)
  | strAt (s : List Nat) (i : AOpnd)
  | un (op : UnOp) (x : AOpnd)
  | toInt (k : IntKind) (x : AOpnd)
  | toFlt (x : AOpnd)
  | mkFn (f : Nat) (caps : List AOpnd)
  | mkMap
  | mkSlice (z : Nat) (zero : List AC) (bytes : Nat) (l c : AOpnd)
  | slice (z : Nat) (arr : Option Nat) (x : AOpnd) (lo hi : Option AOpnd)
  | addr (off : Nat) (x : AOpnd)
  | field (z : Option Nat) (off : Nat) (x : AOpnd)
  | indexAddr (z : Nat) (arr : Option Nat) (x i : AOpnd)
  | index (z : Option Nat) (sz n : Nat) (x i : AOpnd)
  | lookup (key : Option Nat) (zero : AV) (m k : AOpnd) (ok : Bool)
  | mapUpdate (key : Option Nat) (m k x : AOpnd)
  | mapEntry (key : Option Nat) (zero : AV) (m k : AOpnd)
  | entryStore (m s x : AOpnd)
  | extract (i : Nat) (x : AOpnd)
  | call (f : AOpnd) (args : List AOpnd)
  | fbits (x : AOpnd)
  | ffrom (x : AOpnd)
  | sqrt (x : AOpnd)
  | bi (b : ABi) (args : List AOpnd)

/-- One operation of a region: its number there, the slot that it writes, its guard's slot and wish, whether it is taken ahead of its turn, the numbers of the region's reads that may stand before or behind it. -/
structure AI where
  i : Nat
  dst : Option Nat
  guard : Option (Nat × Bool)
  op : AOp
  q : Bool
  inc : List Nat

inductive ACode where
  | skip
  | region (er : List Nat) (is : List AI)
  | seq (a b : ACode)
  | cond (c : AOpnd) (a b : ACode)
  | block (id : Nat) (a : ACode)
  | loop (a : ACode)
  | exit (id : Nat)
  | ret

structure AFun where
  ntmps : Nat
  res : List (Nat × Option (Option Nat))
  code : ACode

/- ### What an operation gives -/

def AOpnd.ev (T : Tr AT) : AOpnd → Option AT
  | .tmp t => T.get t
  | .const x => some x

def AOpnd.evV (T : Tr AT) (x : AOpnd) : Option AV :=
  match x.ev T with
  | some (.v x) => some x
  | _ => none

def AOpnd.evC (T : Tr AT) (x : AOpnd) : Option AC :=
  match x.ev T with
  | some (.v (.c x)) => some x
  | _ => none

def evVs (T : Tr AT) : List AOpnd → Option (List AV)
  | [] => some []
  | x :: r =>
    match x.evV T with
    | none => none
    | some v =>
      match evVs T r with
      | none => none
      | some vs => some (v :: vs)

def AV.cells : AV → List AC
  | .c x => [x]
  | .agg xs => xs

def mk1 (x : AC) : AT := .v (.c x)

/-- Over 'cs' from place i on: 'xs'; none where they do not lie within. -/
def lay : List AC → Nat → List AC → Option (List AC)
  | cs, 0, [] => some cs
  | _ :: cs, 0, x :: xs =>
    match lay cs 0 xs with
    | some r => some (x :: r)
    | none => none
  | [], 0, _ :: _ => none
  | c :: cs, i + 1, xs =>
    match lay cs i xs with
    | some r => some (c :: r)
    | none => none
  | [], _ + 1, _ => none

/-- 'n' cells from place i on. -/
def cut : List AC → Nat → Nat → Option (List AC)
  | _, 0, 0 => some []
  | c :: cs, 0, n + 1 =>
    match cut cs 0 n with
    | some r => some (c :: r)
    | none => none
  | [], 0, _ + 1 => none
  | _ :: cs, i + 1, n => cut cs i n
  | [], _ + 1, _ => none

def at? : List AC → Nat → Option AC
  | [], _ => none
  | c :: _, 0 => some c
  | _ :: cs, i + 1 => at? cs i

def fillA (T : Tr AT) (cs : List AC) : List (Nat × Nat × AOpnd) → Option (List AC)
  | [] => some cs
  | (off, z, x) :: r =>
    match x.evV T with
    | none => none
    | some v =>
      bif Nat.beq v.cells.length z then
        match lay cs off v.cells with
        | some cs => fillA T cs r
        | none => none
      else none

def AH.new (H : AH) (o : AO) : AH := fz (Nat.succ H.n) fun n => { t := H.t.put H.n (some o), n := n, p := H.p }

def memN : List Nat → Nat → Bool
  | [], _ => false
  | x :: r, i => bif Nat.beq x i then true else memN r i

/-- Write cells into block b. -/
def AH.write (H : AH) (b off : Nat) (xs : List AC) : Option AH :=
  bif memN H.p b then none else
  match H.t.get b with
  | some (.cells cs full) =>
    match lay cs off xs with
    | some cs => some { t := H.t.put b (some (.cells cs full)), n := H.n, p := H.p }
    | none => none
  | _ => none

def AH.read (H : AH) (b off n : Nat) : Option (List AC) :=
  match H.t.get b with
  | some (.cells cs _) => cut cs off n
  | _ => none

def AH.read1 (H : AH) (b off : Nat) : Option AC :=
  match H.t.get b with
  | some (.cells cs _) => at? cs off
  | _ => none

def AH.setMap (H : AH) (b : Nat) (es : List (AV × AV)) : Option AH :=
  bif memN H.p b then none else some { t := H.t.put b (some (.map es)), n := H.n, p := H.p }

def AH.getMap (H : AH) (b : Nat) : Option (List (AV × AV)) :=
  match H.t.get b with
  | some (.map es) => some es
  | _ => none

/- #### arithmetic -/

def farith (op : BinOp) (x y : AF) : Option AF :=
  match x, y with
  | .f a, .f b =>
    match op with
    | .add => some (match FloatKind.f64.format.add a b with | some r => .f r | none => .nan)
    | .sub => some (match FloatKind.f64.format.sub a b with | some r => .f r | none => .nan)
    | .mul => some (match FloatKind.f64.format.mul a b with | some r => .f r | none => .nan)
    | .quo => some (match FloatKind.f64.format.div a b with | some r => .f r | none => .nan)
    | _ => none
  | _, _ =>
    match op with
    | .add | .sub | .mul | .quo => some .nan
    | _ => none

def ford (x y : AF) : Option Ordering :=
  match x, y with
  | .f a, .f b => FloatKind.f64.format.order a b
  | _, _ => none

def ordIs (c : Option Ordering) (o : Ordering) : Bool :=
  match c with
  | some .lt => (match o with | .lt => true | _ => false)
  | some .eq => (match o with | .eq => true | _ => false)
  | some .gt => (match o with | .gt => true | _ => false)
  | none => false

def fcmp (op : BinOp) (c : Option Ordering) : Option Bool :=
  match op with
  | .eql => some (ordIs c .eq)
  | .neq => some (!ordIs c .eq)
  | .lss => some (ordIs c .lt)
  | .leq => some (ordIs c .lt || ordIs c .eq)
  | .gtr => some (ordIs c .gt)
  | .geq => some (ordIs c .gt || ordIs c .eq)
  | _ => none

def icmp (op : BinOp) (x y : Int) : Option Bool :=
  match op with
  | .eql => some (x == y)
  | .neq => some (x != y)
  | .lss => some (decide (x < y))
  | .leq => some (decide (x ≤ y))
  | .gtr => some (decide (x > y))
  | .geq => some (decide (x ≥ y))
  | _ => none

def iarith (op : BinOp) (k : IntKind) (x y : Int) : Option Int :=
  match op with
  | .add => some (k.wrap (x + y))
  | .sub => some (k.wrap (x - y))
  | .mul => some (k.wrap (x * y))
  | .quo => if y = 0 then none else some (k.wrap (x.tdiv y))
  | .rem => if y = 0 then none else some (x.tmod y)
  | .and => some (k.wrap (BitVec.ofInt k.bits x &&& BitVec.ofInt k.bits y).toNat)
  | .or => some (k.wrap (BitVec.ofInt k.bits x ||| BitVec.ofInt k.bits y).toNat)
  | .xor => some (k.wrap (BitVec.ofInt k.bits x ^^^ BitVec.ofInt k.bits y).toNat)
  | .andNot => some (k.wrap (BitVec.ofInt k.bits x &&& ~~~BitVec.ofInt k.bits y).toNat)
  | _ => none

def binC (op : BinOp) (x y : AC) : Option AC :=
  match x, y with
  | .int k a, .int k' b =>
    match op with
    | .shl => if b < 0 then none else some (.int k (k.wrap (a * 2 ^ min b.toNat k.bits)))
    | .shr => if b < 0 then none else some (.int k (a.fdiv (2 ^ min b.toNat k.bits)))
    | _ =>
      if k = k' then
        match icmp op a b with
        | some r => some (.bool r)
        | none =>
          match iarith op k a b with
          | some r => some (.int k r)
          | none => none
      else none
  | .flt a, .flt b =>
    match fcmp op (ford a b) with
    | some r => some (.bool r)
    | none =>
      match farith op a b with
      | some r => some (.flt r)
      | none => none
  | .cpx a b, .cpx c d =>
    match op with
    | .add =>
      match farith .add a c, farith .add b d with
      | some x, some y => some (.cpx x y)
      | _, _ => none
    | .sub =>
      match farith .sub a c, farith .sub b d with
      | some x, some y => some (.cpx x y)
      | _, _ => none
    | .eql => some (.bool (ordIs (ford a c) .eq && ordIs (ford b d) .eq))
    | .neq => some (.bool (!(ordIs (ford a c) .eq && ordIs (ford b d) .eq)))
    | _ => none
  | _, _ => none

def unC (op : UnOp) (x : AC) : Option AC :=
  match op, x with
  | .neg, .int k n => some (.int k (k.wrap (0 - n)))
  | .neg, .flt (.f b) => some (.flt (.f (Op.negFloat .f64 b)))
  | .not, .bool b => some (.bool !b)
  | _, _ => none

/-- Are these whole numbers of one kind, the same ones? none: something else lies among them. -/
def sameInts : List AC → List AC → Option Bool
  | [], [] => some true
  | .int k a :: r, .int k' b :: s =>
    if k = k' then
      match sameInts r s with
      | some t => some ((a == b) && t)
      | none => none
    else none
  | _, _ => none

def max2 (x y : AC) : Option AC :=
  match x, y with
  | .int k a, .int k' b => if k = k' then some (.int k (if b > a then b else a)) else none
  | .flt (.f a), .flt (.f b) =>
    match FloatKind.f64.format.order a b with
    | none => some (.flt .nan)
    | some .lt => some (.flt (.f b))
    | some .gt => some (.flt (.f a))
    | some .eq => some (.flt (.f (if (FloatKind.f64.decode a).neg then b else a)))
  | .flt _, .flt _ => some (.flt .nan)
  | _, _ => none

def min2 (x y : AC) : Option AC :=
  match x, y with
  | .int k a, .int k' b => if k = k' then some (.int k (if b < a then b else a)) else none
  | .flt (.f a), .flt (.f b) =>
    match FloatKind.f64.format.order a b with
    | none => some (.flt .nan)
    | some .lt => some (.flt (.f a))
    | some .gt => some (.flt (.f b))
    | some .eq => some (.flt (.f (if (FloatKind.f64.decode a).neg then a else b)))
  | .flt _, .flt _ => some (.flt .nan)
  | _, _ => none

def foldC (g : AC → AC → Option AC) : AC → List AV → Option AC
  | x, [] => some x
  | x, .c y :: r =>
    match g x y with
    | some z => foldC g z r
    | none => none
  | _, _ => none

/- #### maps -/

def keyOk (key : Option Nat) (k : AV) : Bool :=
  match key, k with
  | none, .c (.int _ _) => true
  | some n, .agg xs => Nat.beq xs.length n
  | _, _ => false

/-- Is it the entry's key? -/
def sameKey (a b : AV) : Option Bool :=
  match a, b with
  | .c x, .c y => sameInts [x] [y]
  | .agg xs, .agg ys => sameInts xs ys
  | _, _ => none

def findK (k : AV) : List (AV × AV) → Nat → Option (Option (Nat × AV))
  | [], _ => some none
  | (x, v) :: r, i =>
    match sameKey k x with
    | some true => some (some (i, v))
    | some false => findK k r (Nat.succ i)
    | none => none

def setAt : List (AV × AV) → Nat → (AV × AV) → List (AV × AV)
  | [], _, _ => []
  | _ :: r, 0, e => e :: r
  | x :: r, i + 1, e => x :: setAt r i e

def atE : List (AV × AV) → Nat → Option (AV × AV)
  | [], _ => none
  | x :: _, 0 => some x
  | _ :: r, i + 1 => atE r i

/- #### slices -/

/-- A slice's base, first cell, length, and what is known of its room. -/
def lenOf : AC → Option Nat
  | .nils => some 0
  | .sl _ _ l _ => some l
  | .osl _ l _ => some l
  | _ => none

/-- The first n elements' cells. -/
def firsts (H : AH) (z n : Nat) : AC → Option (List AC)
  | .nils => bif Nat.beq n 0 then some [] else none
  | .sl b o l _ => bif Nat.ble n l then H.read b o (Nat.mul n z) else none
  | .osl b l z' => bif Nat.ble n l && Nat.beq z z' then H.read b 0 (Nat.mul n z) else none
  | _ => none

def big : Nat := 2 ^ 40

def room (bytes n : Nat) : Bool := Nat.ble n big && Nat.ble (Nat.mul (Nat.add (Nat.mul 2 n) 1000) bytes) (2 ^ 48)

def appendA (H : AH) (z : Nat) (zero : List AC) (bytes : Nat) (s x : AC) : Option (AT × AH) :=
  match lenOf x with
  | none => none
  | some n =>
    match firsts H z n x with
    | none => none
    | some new =>
      bif Nat.beq zero.length z && Nat.ble 1 z then
        match s with
        | .nils =>
          bif Nat.beq n 0 then some (mk1 .nils, H) else
          bif room bytes n then some (mk1 (.osl H.n n z), H.new (.cells new false)) else none
        | .sl b o l (some cap) =>
          bif Nat.ble (Nat.add l n) cap then
            match H.write b (Nat.add o (Nat.mul l z)) new with
            | some H => some (mk1 (.sl b o (Nat.add l n) (some cap)), H)
            | none => none
          else
            bif room bytes (Nat.add l n) && Nat.ble l cap then
              match H.read b o (Nat.mul l z) with
              | some old => some (mk1 (.osl H.n (Nat.add l n) z), H.new (.cells (old ++ new) false))
              | none => none
            else none
        | .osl b l z' =>
          bif Nat.beq z z' && room bytes (Nat.add l n) then
            bif memN H.p b then none else
            match H.t.get b with
            | some (.cells old false) =>
              bif Nat.beq old.length (Nat.mul l z) then
                some (mk1 (.osl H.n (Nat.add l n) z), ({ t := H.t.put b none, n := H.n, p := H.p } : AH).new (.cells (old ++ new) false))
              else none
            | _ => none
          else none
        | _ => none
      else none

def copyA (H : AH) (z : Nat) (d x : AC) : Option (AT × AH) :=
  match lenOf d, lenOf x with
  | some l, some m =>
    let n := Nat.min m l
    match firsts H z n x with
    | none => none
    | some new =>
      match d with
      | .nils => some (mk1 (.int .i64 n), H)
      | .sl b o _ _ =>
        match H.write b o new with
        | some H => some (mk1 (.int .i64 n), H)
        | none => none
      | .osl b _ _ =>
        match H.write b 0 new with
        | some H => some (mk1 (.int .i64 n), H)
        | none => none
      | _ => none
  | _, _ => none

/-- A bound of a slice expression: from 0 to y. -/
def bound (T : Tr AT) (y : Nat) (d : Nat) : Option AOpnd → Option Nat
  | none => some d
  | some x =>
    match x.evC T with
    | some (.int _ i) => if 0 ≤ i ∧ i ≤ y then some i.toNat else none
    | _ => none

def sliceA (T : Tr AT) (z : Nat) (arr : Option Nat) (x : AC) (lo hi : Option AOpnd) : Option AC :=
  match arr, x with
  | some n, .ptr b o =>
    match bound T n n hi with
    | none => none
    | some h =>
      match bound T h 0 lo with
      | none => none
      | some l => some (.sl b (bif Nat.beq n l then o else Nat.add o (Nat.mul l z)) (h - l) (some (n - l)))
  | none, .nils =>
    match bound T 0 0 hi, bound T 0 0 lo with
    | some _, some _ => some .nils
    | _, _ => none
  | none, .sl b o len (some cap) =>
    match bound T cap len hi with
    | none => none
    | some h =>
      match bound T h 0 lo with
      | none => none
      | some l => some (.sl b (bif Nat.beq cap l then o else Nat.add o (Nat.mul l z)) (h - l) (some (cap - l)))
  | none, .osl b len z' =>
    match bound T len len hi with
    | none => none
    | some h =>
      match bound T h 0 lo with
      | none => none
      | some l =>
        bif Nat.beq z z' then
          bif Nat.beq l 0 then some (.osl b h z)
          else bif Nat.ble (Nat.succ l) len then some (.sl b (Nat.mul l z) (h - l) none) else none
        else none
  | _, _ => none

def evCs (T : Tr AT) : List AOpnd → Option (List (Nat × Nat))
  | [] => some []
  | x :: r =>
    match x.evC T with
    | some (.ptr b o) =>
      match evCs T r with
      | some ps => some ((b, o) :: ps)
      | none => none
    | _ => none

def partA (z : Option Nat) (cs : List AC) (off : Nat) : Option AV :=
  match z with
  | none =>
    match at? cs off with
    | some x => some (.c x)
    | none => none
  | some n =>
    match cut cs off n with
    | some xs => some (.agg xs)
    | none => none

def reps (xs : List AC) : Nat → List AC
  | 0 => []
  | n + 1 => xs ++ reps xs n

def biA (T : Tr AT) (b : ABi) (args : List AOpnd) (H : AH) : Option (AT × AH) :=
  match evVs T args with
  | none => none
  | some vs =>
    match b, vs with
    | .len, [.c x] =>
      match lenOf x with
      | some n => some (mk1 (.int .i64 n), H)
      | none => none
    | .lenM, [.c .nilm] => some (mk1 (.int .i64 0), H)
    | .lenM, [.c (.map b)] =>
      match H.getMap b with
      | some es => some (mk1 (.int .i64 es.length), H)
      | none => none
    | .real, [.c (.cpx x _)] => some (mk1 (.flt x), H)
    | .imag, [.c (.cpx _ y)] => some (mk1 (.flt y), H)
    | .complex, [.c (.flt x), .c (.flt y)] => some (mk1 (.cpx x y), H)
    | .max, .c x :: r =>
      match foldC max2 x r with
      | some z => some (mk1 z, H)
      | none => none
    | .min, .c x :: r =>
      match foldC min2 x r with
      | some z => some (mk1 z, H)
      | none => none
    | .append z zero bytes, [.c s, .c x] => appendA H z zero bytes s x
    | .copy z, [.c d, .c x] => copyA H z d x
    | _, _ => none

def keepH (H : AH) : Option AT → Option (AT × AH)
  | some x => some (x, H)
  | none => none

def some1 (H : AH) : Option AC → Option (AT × AH)
  | some x => some (mk1 x, H)
  | none => none

def undefA : AT := .tup []

def evOp (callf : Nat → List AV → AH → Option (AT × AH)) (T : Tr AT) (op : AOp) (H : AH) : Option (AT × AH) :=
  match op with
  | .mov x => keepH H (x.ev T)
  | .pick c a b =>
    match c.evC T with
    | some (.bool true) => keepH H (a.ev T)
    | some (.bool false) => keepH H (b.ev T)
    | _ => none
  | .alloc cells => some (mk1 (.ptr H.n 0), H.new (.cells cells true))
  | .box x =>
    match x.evV T with
    | some v => some (mk1 (.ptr H.n 0), H.new (.cells v.cells true))
    | none => none
  | .build zero parts =>
    match fillA T zero parts with
    | some cs => some (.v (.agg cs), H)
    | none => none
  | .buildSlice zero parts len =>
    match fillA T zero parts with
    | some cs => some (mk1 (.sl H.n 0 len (some len)), H.new (.cells cs true))
    | none => none
  | .load z a =>
    match a.evC T with
    | some (.ptr b o) =>
      match z with
      | none => some1 H (H.read1 b o)
      | some n =>
        match H.read b o n with
        | some xs => some (.v (.agg xs), H)
        | none => none
    | _ => none
  | .store z a x =>
    match a.evC T, x.evV T with
    | some (.ptr b o), some v =>
      bif Nat.beq v.cells.length z then
        match H.write b o v.cells with
        | some H => some (undefA, H)
        | none => none
      else none
    | _, _ => none
  | .nilCheck x =>
    match x.evC T with
    | some (.ptr b o) => some (mk1 (.ptr b o), H)
    | some (.fn f caps) => some (mk1 (.fn f caps), H)
    | _ => none
  | .bin op x y =>
    match x.evC T, y.evC T with
    | some a, some b => some1 H (binC op a b)
    | _, _ => none
  | .eqB neg x y =>
    match x.evC T, y.evC T with
    | some (.bool a), some (.bool b) => some (mk1 (.bool (xor neg (a == b))), H)
    | _, _ => none
  | .eqA neg n x y =>
    match x.evV T, y.evV T with
    | some (.agg a), some (.agg b) =>
      bif Nat.beq a.length n then
        match sameInts a b with
        | some r => some (mk1 (.bool (xor neg r)), H)
        | none => none
      else none
    | _, _ => none
  | .isNil neg x =>
    match x.evC T with
    | some .nils => some (mk1 (.bool (xor neg true)), H)
    | some (.sl _ _ _ _) => some (mk1 (.bool (xor neg false)), H)
    | some (.osl _ _ _) => some (mk1 (.bool (xor neg false)), H)
    | _ => none
  | .strAt s i =>
    match i.evC T with
    | some (.int _ i) =>
      if 0 ≤ i then
        match s[i.toNat]? with
        | some b => some (mk1 (.int .u8 b), H)
        | none => none
      else none
    | _ => none
  | .un op x =>
    match x.evC T with
    | some a => some1 H (unC op a)
    | none => none
  | .toInt k x =>
    match x.evC T with
    | some (.int _ n) => some (mk1 (.int k (k.wrap n)), H)
    | _ => none
  | .toFlt x =>
    match x.evC T with
    | some (.int _ n) => some (mk1 (.flt (.f (FloatKind.f64.nearest n))), H)
    | some (.flt x) => some (mk1 (.flt x), H)
    | _ => none
  | .mkFn f caps =>
    match evCs T caps with
    | some ps => some (mk1 (.fn f ps), H)
    | none => none
  | .mkMap => some (mk1 (.map H.n), H.new (.map []))
  | .mkSlice z zero bytes l c =>
    match l.evC T, c.evC T with
    | some (.int _ l), some (.int _ c) =>
      if 0 ≤ l ∧ l ≤ c ∧ c ≤ big ∧ bytes * c ≤ 2 ^ 48 then
        bif Nat.beq zero.length z then
          some (mk1 (.sl H.n 0 l.toNat (some c.toNat)), H.new (.cells (reps zero c.toNat) true))
        else none
      else none
    | _, _ => none
  | .slice z arr x lo hi =>
    match x.evC T with
    | some x => some1 H (sliceA T z arr x lo hi)
    | none => none
  | .addr off x =>
    match x.evC T with
    | some (.ptr b o) => some (mk1 (.ptr b (Nat.add o off)), H)
    | _ => none
  | .field z off x =>
    match x.evV T with
    | some (.agg xs) =>
      match partA z xs off with
      | some v => some (.v v, H)
      | none => none
    | _ => none
  | .indexAddr z arr x i =>
    match x.evC T, i.evC T with
    | some x, some (.int _ i) =>
      match arr, x with
      | some n, .ptr b o => if 0 ≤ i ∧ i < n then some (mk1 (.ptr b (Nat.add o (Nat.mul i.toNat z))), H) else none
      | none, .sl b o l _ => if 0 ≤ i ∧ i < l then some (mk1 (.ptr b (Nat.add o (Nat.mul i.toNat z))), H) else none
      | none, .osl b l _ => if 0 ≤ i ∧ i < l then some (mk1 (.ptr b (Nat.mul i.toNat z)), H) else none
      | _, _ => none
    | _, _ => none
  | .index z sz n x i =>
    match x.evV T, i.evC T with
    | some (.agg xs), some (.int _ i) =>
      if 0 ≤ i ∧ i < n then
        match partA z xs (Nat.mul i.toNat sz) with
        | some v => some (.v v, H)
        | none => none
      else none
    | _, _ => none
  | .lookup key zero m k ok =>
    match m.evC T, k.evV T with
    | some m, some k =>
      bif keyOk key k then
        match (match m with | .nilm => some [] | .map b => H.getMap b | _ => none : Option (List (AV × AV))) with
        | none => none
        | some es =>
          match findK k es 0 with
          | none => none
          | some none => some (bif ok then .tup [zero, .c (.bool false)] else .v zero, H)
          | some (some (_, v)) => some (bif ok then .tup [v, .c (.bool true)] else .v v, H)
      else none
    | _, _ => none
  | .mapUpdate key m k x =>
    match m.evC T, k.evV T, x.evV T with
    | some (.map b), some k, some x =>
      bif keyOk key k then
        match H.getMap b with
        | none => none
        | some es =>
          match findK k es 0 with
          | none => none
          | some none =>
            match H.setMap b (es ++ [(k, x)]) with
            | some H => some (undefA, H)
            | none => none
          | some (some (i, _)) =>
            match H.setMap b (setAt es i (k, x)) with
            | some H => some (undefA, H)
            | none => none
      else none
    | _, _, _ => none
  | .mapEntry key zero m k =>
    match m.evC T, k.evV T with
    | some (.map b), some k =>
      bif keyOk key k then
        match H.getMap b with
        | none => none
        | some es =>
          match findK k es 0 with
          | none => none
          | some none =>
            match H.setMap b (es ++ [(k, zero)]) with
            | some H => some (.tup [zero, .c (.int .i64 es.length)], H)
            | none => none
          | some (some (i, v)) =>
            match H.setMap b (setAt es i (k, v)) with
            | some H => some (.tup [v, .c (.int .i64 i)], H)
            | none => none
      else none
    | _, _ => none
  | .entryStore m s x =>
    match m.evC T, s.evC T, x.evV T with
    | some (.map b), some (.int _ i), some x =>
      match H.getMap b with
      | none => none
      | some es =>
        if 0 ≤ i then
          match atE es i.toNat with
          | some (k, _) =>
            match H.setMap b (setAt es i.toNat (k, x)) with
            | some H => some (undefA, H)
            | none => none
          | none => none
        else none
    | _, _, _ => none
  | .extract i x =>
    match x.ev T with
    | some (.tup xs) =>
      match xs[i]? with
      | some v => some (.v v, H)
      | none => none
    | _ => none
  | .call f args =>
    match f.evC T, evVs T args with
    | some (.fn f caps), some vs => fzVs (vs ++ caps.map fun (b, o) => .c (.ptr b o)) fun vs => callf f vs H
    | _, _ => none
  | .fbits x =>
    match x.evC T with
    | some (.flt (.f b)) => some (mk1 (.int .u64 b), H)
    | _ => none
  | .ffrom x =>
    match x.evC T with
    | some (.int .u64 n) => some (mk1 (.flt (.f n.toNat)), H)
    | _ => none
  | .sqrt x =>
    match x.evC T with
    | some (.flt (.f b)) => some (mk1 (.flt (match FloatKind.f64.format.sqrt b with | some r => .f r | none => .nan)), H)
    | _ => none
  | .bi b args => biA T b args H

/- ### Code -/

inductive AE where
  | normal
  | exit (id : Nat)
  | ret

/-- A read that a region has carried out: its number, its block; a map's element that is a whole number: key and number. -/
structure LR where
  i : Nat
  b : Nat
  k : Option (AV × IntKind × Int)

/-- What is to be remembered of a read. -/
def readOf (T : Tr AT) (i : Nat) (op : AOp) (r : AT) : Option LR :=
  match op with
  | .load _ a =>
    match a.evC T with
    | some (.ptr b _) => some { i := i, b := b, k := none }
    | _ => none
  | .lookup _ _ m k ok =>
    match m.evC T with
    | some (.map b) =>
      match ok, r, k.evV T with
      | false, .v (.c (.int q n)), some k => some { i := i, b := b, k := some (k, q, n) }
      | _, _, _ => some { i := i, b := b, k := none }
    | _ => none
  | _ => none

def isRead (op : AOp) : Bool :=
  match op with
  | .load .. | .lookup .. => true
  | _ => false

/-- The map in which an entry is to be laid: a look-up of a whole number there may stand before or behind it. -/
def entryOf (T : Tr AT) (op : AOp) : Option Nat :=
  match op with
  | .mapEntry _ _ m _ =>
    match m.evC T with
    | some (.map b) => some b
    | _ => none
  | _ => none

/-- May this read be asked once more behind the operation? -/
def askAgain (e : Option Nat) (x : LR) : Bool :=
  match e, x.k with
  | some b, some _ => Nat.beq b x.b
  | _, _ => false

/-- The blocks of the reads with these numbers, ahead of what is kept already; none: one of them is gone. -/
def addP (H : AH) (e : Option Nat) (inc : List Nat) (p : List Nat) : List LR → Option (List Nat)
  | [] => some p
  | x :: r =>
    match addP H e inc p r with
    | none => none
    | some p =>
      bif memN inc x.i && !askAgain e x then
        match H.t.get x.b with
        | some _ => some (x.b :: p)
        | none => none
      else some p

/-- The reads that are asked once more answer as they did. -/
def asIs (H : AH) (e : Option Nat) (inc : List Nat) : List LR → Bool
  | [] => true
  | x :: r =>
    (bif memN inc x.i && askAgain e x then
      match x.k, H.getMap x.b with
      | some (k, q, n), some es =>
        match findK k es 0 with
        | some (some (_, .c (.int q' n'))) => decide (q = q') && decide (n = n')
        | _ => false
      | _, _ => false
    else true) && asIs H e inc r

/-- Does it leave the world alone, whatever else stands there, but for what 'readOf' names and where no NaN is drawn? -/
def quiet (op : AOp) : Bool :=
  match op with
  | .mov .. | .pick .. | .build .. | .load .. | .nilCheck .. | .bin .. | .eqB .. | .eqA .. | .isNil .. | .strAt .. | .un .. | .toInt .. | .toFlt .. | .mkFn .. | .slice .. | .addr .. | .field .. | .indexAddr .. | .index .. | .lookup .. | .extract .. | .fbits .. | .ffrom .. => true
  | .bi b _ =>
    match b with
    | .len | .real | .imag | .complex => true
    | _ => false
  | _ => false

def nanC : AC → Bool
  | .flt .nan => true
  | .cpx .nan _ => true
  | .cpx _ .nan => true
  | _ => false

/-- A NaN that a float's sum gave: its bits are drawn. -/
def drewNan (op : AOp) (r : AT) : Bool :=
  match op, r with
  | .bin .., .v (.c x) => nanC x
  | _, _ => false

def isNil {α : Type} : List α → Bool
  | [] => true
  | _ :: _ => false

def putT (T : Tr AT) (dst : Option Nat) (x : AT) : Tr AT :=
  match dst with
  | some d => T.put d (some x)
  | none => T

def evI (callf : Nat → List AV → AH → Option (AT × AH)) (x : AI) (ls : List LR) (T : Tr AT) (H : AH) : Option (AT × AH) :=
  bif x.q then
    match evOp callf T x.op H with
    | some (v, H') => bif drewNan x.op v then none else some (v, H')
    | none => none
  else bif isNil x.inc then evOp callf T x.op H
  else
    match addP H (entryOf T x.op) x.inc H.p ls with
    | none => none
    | some p =>
      match evOp callf T x.op { t := H.t, n := H.n, p := p } with
      | some (v, H') => bif asIs H' (entryOf T x.op) x.inc ls then some (v, { t := H'.t, n := H'.n, p := H.p }) else none
      | none => none

def wantedA (T : Tr AT) (g : Option (Nat × Bool)) : Option Bool :=
  match g with
  | none => some true
  | some (t, want) =>
    match T.get t with
    | none => none
    | some (.v (.c (.bool b))) => some (b == want)
    | some _ => some false

def addR (x : Option LR) (ls : List LR) : List LR :=
  match x with
  | some x => x :: ls
  | none => ls

def evIs (callf : Nat → List AV → AH → Option (AT × AH)) : List AI → List LR → Tr AT → AH → Option (Tr AT × AH)
  | [], _, T, H => some (T, H)
  | x :: r, ls, T, H =>
    match wantedA T x.guard with
    | none => none
    | some false => evIs callf r ls (putT T x.dst undefA) H
    | some true =>
      match evI callf x ls T H with
      | none => none
      | some (v, H') =>
        fzT v fun v => evIs callf r (bif x.q then addR (readOf T x.i x.op v) ls else ls) (putT T x.dst v) H'

/-- Forget what these slots hold. -/
def wipe : List Nat → Tr AT → Tr AT
  | [], T => T
  | d :: r, T => wipe r (T.put d none)

def enter (args : List AV) : Nat → Tr AT → Tr AT :=
  match args with
  | [] => fun _ T => T
  | x :: r => fun i T => enter r (Nat.succ i) (T.put i (some (.v x)))

def resA (T : Tr AT) (H : AH) : List (Nat × Option (Option Nat)) → Option (List AV)
  | [] => some []
  | (t, z) :: r =>
    match (match z with
      | none => (match T.get t with | some (.v x) => some x | _ => none)
      | some z =>
        match T.get t with
        | some (.v (.c (.ptr b o))) =>
          match z with
          | none => (match H.read1 b o with | some x => some (.c x) | none => none)
          | some n => (match H.read b o n with | some xs => some (.agg xs) | none => none)
        | _ => none : Option AV) with
    | none => none
    | some v =>
      match resA T H r with
      | some vs => some (v :: vs)
      | none => none

def one (vs : List AV) : AT :=
  match vs with
  | [x] => .v x
  | xs => .tup xs

abbrev Ans := Option (AE × Tr AT × AH)

/-- One step down: 'self' evaluates code with less fuel. -/
def evStep (env : Nat → Option AFun) (self : ACode → Tr AT → AH → Ans) (c : ACode) (T : Tr AT) (H : AH) : Ans :=
  match c with
  | .skip => some (.normal, T, H)
  | .ret => some (.ret, T, H)
  | .exit id => some (.exit id, T, H)
  | .seq a b =>
    match self a T H with
    | none => none
    | some (.normal, T, H) => self b T H
    | some r => some r
  | .cond x a b =>
    match x.evC T with
    | some (.bool true) => self a T H
    | some (.bool false) => self b T H
    | _ => none
  | .block id a =>
    match self a T H with
    | none => none
    | some (.exit id', T, H) => bif Nat.beq id' id then some (.normal, T, H) else some (.exit id', T, H)
    | some r => some r
  | .loop a =>
    match self a T H with
    | none => none
    | some (.normal, T, H) => self (.loop a) T H
    | some r => some r
  | .region er is =>
    match evIs (fun f args H =>
      match env f with
      | none => none
      | some fn =>
        match self fn.code (enter args 0 .nil) H with
        | none => none
        | some (.exit _, _, _) => none
        | some (_, T, H) =>
          match resA T H fn.res with
          | some vs => some (one vs, H)
          | none => none) is [] (wipe er T) H with
    | none => none
    | some (T, H) => some (.normal, T, H)

def ev (env : Nat → Option AFun) (n : Nat) : ACode → Tr AT → AH → Ans :=
  Nat.rec (fun _ _ _ => none) (fun _ self => evStep env self) n

def evF (env : Nat → Option AFun) (n : Nat) (f : Nat) (args : List AV) (H : AH) : Option (AT × AH) :=
  match env f with
  | none => none
  | some fn =>
    match ev env n fn.code (enter args 0 .nil) H with
    | none => none
    | some (.exit _, _, _) => none
    | some (_, T, H) =>
      match resA T H fn.res with
      | some vs => some (one vs, H)
      | none => none

end Go.Ev
