/-
  How the model's code becomes the evaluator's: definitions alone. No conditions.
-/
import Derived.Test.YtfgkhpoibfbnkaaGreatEvA
import Derived.Orders
namespace Go.Ev

def cCell : Value → Option AC
  | .bool b => some (.bool b)
  | .int k n => some (.int k n)
  | .float .f64 b => some (.flt (.f b))
  | .complex .f64 a b => some (.cpx (.f a) (.f b))
  | .pointer none => some .nilp
  | .slice none 0 0 => some .nils
  | .map none => some .nilm
  | .nilFunc => some .nilf
  | _ => none

def cCells : List Value → Option (List AC)
  | [] => some []
  | v :: r =>
    match cCell v with
    | none => none
    | some x =>
      match cCells r with
      | none => none
      | some xs => some (x :: xs)

def cVal : Value → Option AV
  | .agg cs =>
    match cCells cs.toList with
    | some xs => some (.agg xs)
    | none => none
  | v =>
    match cCell v with
    | some x => some (.c x)
    | none => none

def cO : Operand → Option AOpnd
  | .tmp t => some (.tmp t)
  | .const v =>
    match cVal v with
    | some x => some (.const (.v x))
    | none => none
  | .global _ => none
  | .func f => some (.const (mk1 (.fn f [])))

def cOs : List Operand → Option (List AOpnd)
  | [] => some []
  | v :: r =>
    match cO v with
    | none => none
    | some x =>
      match cOs r with
      | none => none
      | some xs => some (x :: xs)

def cOO : Option Operand → Option (Option AOpnd)
  | none => some none
  | some x =>
    match cO x with
    | some y => some (some y)
    | none => none

section
variable (P : Program)

/-- Cells of a type's zero value, as many as it has. -/
def cZero (t : TypeId) : Option (Nat × List AC) :=
  match P.info? t with
  | some i =>
    match i.zero with
    | some z =>
      match cCells z.cells.toList with
      | some xs => if xs.length = i.size then some (i.size, xs) else none
      | none => none
    | none => none
  | none => none

def cZeroV (t : TypeId) : Option AV :=
  match P.info? t with
  | some i =>
    match i.zero with
    | some z => cVal z
    | none => none
  | none => none

def isAggT (t : TypeId) : Option Bool :=
  match P.underlying t with
  | some (.struct _) | some (.array _ _) => some true
  | some _ => some false
  | none => none

def cSize (t : TypeId) : Option Nat :=
  match P.info? t with
  | some i => some i.size
  | none => none

/-- How a variable of a type is read: none: one cell; some n: n cells. -/
def cShape (t : TypeId) : Option (Option Nat) :=
  match isAggT P t with
  | none => none
  | some false => some none
  | some true =>
    match cSize P t with
    | some n => some (some n)
    | none => none

/-- An array of whole numbers: how many. -/
def cInts (t : TypeId) : Option Nat :=
  match P.underlying t with
  | some (.array n e) =>
    match P.underlying e with
    | some (.int _) =>
      match cSize P e with
      | some 1 => some n
      | _ => none
    | _ => none
  | _ => none

def cKey (t : TypeId) : Option (Option Nat) :=
  match P.underlying t with
  | some (.int _) => some none
  | _ =>
    match cInts P t with
    | some n => some (some n)
    | none => none

def cPlaces (place : Nat → Option (Nat × Nat)) : List (Nat × Operand) → Option (List (Nat × Nat × AOpnd))
  | [] => some []
  | (i, x) :: r =>
    match place i, cO x, cPlaces place r with
    | some (off, z), some y, some ps => some ((off, z, y) :: ps)
    | _, _, _ => none

def fieldAtA (fs : Array Field) (i : Nat) : Option (Nat × Nat) :=
  match fs[i]? with
  | some f =>
    match cSize P f.type with
    | some z => some (f.offset, z)
    | none => none
  | none => none

def sizesOk (fs : Array Field) : Bool := fs.all fun f => (cSize P f.type).isSome

def cBuiltin (b : Builtin) (ts : List TypeId) : Option ABi :=
  match b, ts with
  | .len, [t] =>
    match P.underlying t with
    | some (.slice _) => some .len
    | some (.map _ _) => some .lenM
    | _ => none
  | .real, _ => some .real
  | .imag, _ => some .imag
  | .complex, _ => some .complex
  | .max, _ => some .max
  | .min, _ => some .min
  | .append, [t, u] =>
    match P.underlying t, P.underlying u with
    | some (.slice e), some (.slice _) =>
      match cZero P e, P.info? e with
      | some (z, zero), some i => some (.append z zero i.bytes)
      | _, _ => none
    | _, _ => none
  | .copy, [t, _] =>
    match P.underlying t with
    | some (.slice e) =>
      match cSize P e with
      | some z => some (.copy z)
      | none => none
    | _ => none
  | _, _ => none

def cCall (c : Call) : Option AOp :=
  match c.callee with
  | .builtin b =>
    match cBuiltin P b c.argTypes.toList, cOs c.args.toList with
    | some b, some xs => some (.bi b xs)
    | _, _ => none
  | .invoke _ _ => none
  | .value f =>
    match f with
    | .func g =>
      match P.funcs[g]? with
      | none => none
      | some fn =>
        if fn.body.isNone then
          if (Extern.findNext fn).isSome then none else
          match c.args.toList with
          | [x] =>
            match cO x with
            | none => none
            | some y =>
              if fn.name = "math.Float64bits" then some (.fbits y)
              else if fn.name = "math.Float64frombits" then some (.ffrom y)
              else if fn.name = "math.sqrt" then some (.sqrt y)
              else none
          | _ => none
        else
          match cOs c.args.toList with
          | some xs => some (.call (.const (mk1 (.fn g []))) xs)
          | none => none
    | f =>
      match cO f, cOs c.args.toList with
      | some f, some xs => some (.call f xs)
      | _, _ => none

def cBin (op : BinOp) (t : TypeId) (x y : AOpnd) : Option AOp :=
  match P.underlying t with
  | some (.int _) | some (.float _) | some (.complex _) => some (.bin op x y)
  | some (.slice _) =>
    match y, op with
    | .const (.v (.c .nils)), .eql => some (.isNil false x)
    | .const (.v (.c .nils)), .neq => some (.isNil true x)
    | _, _ => none
  | some .bool =>
    match op with
    | .eql => some (.eqB false x y)
    | .neq => some (.eqB true x y)
    | _ => none
  | some (.array _ _) =>
    match cInts P t with
    | none => none
    | some n =>
      if P.eqGuardType P.depth t then none
      else
        match op with
        | .eql => some (.eqA false n x y)
        | .neq => some (.eqA true n x y)
        | _ => none
  | _ => none

def cOp (op : Op) : Option AOp :=
  match op with
  | .move x | .assign x =>
    match cO x with
    | some x => some (.mov x)
    | none => none
  | .pick c a b =>
    match cO c, cO a, cO b with
    | some c, some a, some b => some (.pick c a b)
    | _, _, _ => none
  | .alloc e =>
    match cZero P e with
    | some (_, xs) => some (.alloc xs)
    | none => none
  | .box _ x =>
    match cO x with
    | some x => some (.box x)
    | none => none
  | .build t ps =>
    match cZero P t, P.underlying t with
    | some (_, zero), some (.struct fs) =>
      if sizesOk P fs then
        match cPlaces (fieldAtA P fs) ps.toList with
        | some ps => some (.build zero ps)
        | none => none
      else none
    | some (_, zero), some (.array _ e) =>
      match cSize P e with
      | some z =>
        match cPlaces (fun i => some (i * z, z)) ps.toList with
        | some ps => some (.build zero ps)
        | none => none
      | none => none
    | _, _ => none
  | .buildSlice t len ps =>
    match P.underlying t with
    | some (.slice e) =>
      match cZero P e with
      | some (z, zero) =>
        if 1 ≤ z ∧ len * z ≤ 2 ^ 24 then
          match cPlaces (fun i => some (i * z, z)) ps.toList with
          | some ps => some (.buildSlice (reps zero len) ps len)
          | none => none
        else none
      | none => none
    | _ => none
  | .load t a =>
    match cShape P t, cO a with
    | some z, some a => some (.load z a)
    | _, _ => none
  | .store t a x =>
    match cSize P t, cO a, cO x with
    | some z, some a, some x => some (.store z a x)
    | _, _, _ => none
  | .nilCheck x =>
    match cO x with
    | some x => some (.nilCheck x)
    | none => none
  | .binOp op t x y _ =>
    match cO x, cO y with
    | some x, some y => cBin P op t x y
    | _, _ => none
  | .unOp op _ x =>
    match cO x with
    | some x => some (.un op x)
    | none => none
  | .convert s d x =>
    match P.underlying s, P.underlying d, cO x with
    | some _, some (.int k), some x => some (.toInt k x)
    | some _, some (.float .f64), some x => some (.toFlt x)
    | _, _, _ => none
  | .makeFunc fn first caps =>
    match fn, first.toList, cOs caps.toList with
    | .func f, [], some xs => some (.mkFn f xs)
    | _, _, _ => none
  | .makeMap _ r =>
    match r with
    | none => some .mkMap
    | some _ => none
  | .makeSlice t l c =>
    match P.underlying t with
    | some (.slice e) =>
      match cZero P e, P.info? e, cO l, cO c with
      | some (z, zero), some i, some l, some c => if 1 ≤ z then some (.mkSlice z zero i.bytes l c) else none
      | _, _, _, _ => none
    | _ => none
  | .slice t x lo hi mx =>
    match mx with
    | some _ => none
    | none =>
      match cO x, cOO lo, cOO hi with
      | some x, some lo, some hi =>
        match P.underlying t with
        | some (.array n e) =>
          match cSize P e with
          | some z => some (.slice z (some n) x lo hi)
          | none => none
        | some (.slice e) =>
          match cSize P e with
          | some z => if 1 ≤ z then some (.slice z none x lo hi) else none
          | none => none
        | _ => none
      | _, _, _ => none
  | .fieldAddr t x f =>
    match P.underlying t, cO x with
    | some (.struct fs), some x =>
      match fs[f]? with
      | some f =>
        match cSize P f.type with
        | some (_ + 1) => some (.addr f.offset x)
        | _ => none
      | none => none
    | _, _ => none
  | .field t x f =>
    match P.underlying t, cO x with
    | some (.struct fs), some x =>
      match fs[f]? with
      | some f =>
        match cShape P f.type with
        | some z => some (.field z f.offset x)
        | none => none
      | none => none
    | _, _ => none
  | .indexAddr t x i =>
    match P.underlying t, cO x, cO i with
    | some (.array n e), some x, some i =>
      match cSize P e with
      | some z => some (.indexAddr z (some n) x i)
      | none => none
    | some (.slice e), some x, some i =>
      match cSize P e with
      | some z => some (.indexAddr z none x i)
      | none => none
    | _, _, _ => none
  | .index t x i =>
    match x with
    | .const (.string s) =>
      match P.underlying t, cO i with
      | some .string, some i => some (.strAt (s.data.toList.map UInt8.toNat) i)
      | _, _ => none
    | x =>
    match P.underlying t, cO x, cO i with
    | some (.array n e), some x, some i =>
      match cShape P e, cSize P e with
      | some z, some sz => some (.index z sz n x i)
      | _, _ => none
    | _, _, _ => none
  | .lookup t m k ok =>
    match P.underlying t, cO m, cO k with
    | some (.map kt e), some m, some k =>
      match cKey P kt, cZeroV P e with
      | some key, some z => some (.lookup key z m k ok)
      | _, _ => none
    | _, _, _ => none
  | .mapUpdate t m k x =>
    match P.underlying t, cO m, cO k, cO x with
    | some (.map kt _), some m, some k, some x =>
      match cKey P kt with
      | some key => some (.mapUpdate key m k x)
      | none => none
    | _, _, _, _ => none
  | .mapEntry t m k =>
    match P.underlying t, cO m, cO k with
    | some (.map kt e), some m, some k =>
      match cKey P kt, cZeroV P e with
      | some key, some z => some (.mapEntry key z m k)
      | _, _ => none
    | _, _, _ => none
  | .entryStore _ m s x =>
    match cO m, cO s, cO x with
    | some m, some s, some x => some (.entryStore m s x)
    | _, _, _ => none
  | .extract x i =>
    match cO x with
    | some x => some (.extract i x)
    | none => none
  | .call c => cCall P c
  | _ => none

/- ### Regions -/

def cGuard (ops : Array Oper) : Option (Nat × Bool) → Option (Option (Nat × Bool))
  | none => some none
  | some (j, want) =>
    match (ops[j]?).bind (·.dst) with
    | some t => some (some (t, want))
    | none => none

def dstOk (nt : Nat) : Option Nat → Bool
  | none => true
  | some d => decide (d < nt)

def cI (nt : Nat) (ops : Array Oper) (i : Nat) (q : Bool) (inc : List Nat) : Option AI :=
  match ops[i]? with
  | none => none
  | some o =>
    match cOp P o.op, cGuard ops o.guard with
    | some op, some g => if dstOk nt o.dst then some { i := i, dst := o.dst, guard := g, op := op, q := q, inc := inc } else none
    | _, _ => none

def cText (nt : Nat) (ops : Array Oper) : List Nat → Option (List AI)
  | [] => some []
  | i :: r =>
    match cI P nt ops i false [] with
    | none => none
    | some x =>
      match cText nt ops r with
      | none => none
      | some xs => some (x :: xs)

/-- Who stands before whom, by the binding edges. -/
def ancOk (ops : Array Oper) (A : List Nat) : Bool :=
  (List.range ops.size).all fun j =>
    match ops[j]? with
    | none => true
    | some o => A.getD j 0 == o.after.toList.foldl (fun s e => if Region.binds .any e then s ||| 2 ^ e.on ||| A.getD e.on 0 else s) 0

def isAnc (A : List Nat) (j i : Nat) : Bool := (A.getD j 0).testBit i

def kindOf (ops : Array Oper) (i : Nat) : Option AOp := (ops[i]?).bind fun o => cOp P o.op

def readAt (ks : List (Option AOp)) (i : Nat) : Bool :=
  match ks.getD i none with
  | some op => isRead op
  | none => false

def quietAt (ks : List (Option AOp)) (i : Nat) : Bool :=
  match ks.getD i none with
  | some op => quiet op
  | none => false

/-- The reads that may stand before or behind operation j. -/
def incOf (A : List Nat) (ks : List (Option AOp)) (n j : Nat) : List Nat :=
  (List.range n).filter fun i => readAt ks i && !(i == j) && !isAnc A j i && !isAnc A i j

/-- A zero variable that is made: it may come up whenever it likes. -/
def lateAt (ops : Array Oper) (i : Nat) : Bool :=
  match ops[i]? with
  | some o =>
    match o.op, o.guard, o.dst with
    | .alloc _, none, some _ => o.after.all fun e => !Region.binds .any e
    | _, _, _ => false
  | none => false

/-- May number i be taken ahead of all that have not come up? -/
def freeA (ops : Array Oper) (A : List Nat) (listed : Array Bool) (i : Nat) : Bool :=
  match ops[i]? with
  | none => false
  | some oi => (List.range ops.size).all fun j => j == i || listed.getD j true || isAnc A j i ||
      match ops[j]? with
      | some oj => oi.apart ops oj
      | none => true

/-- All of these listed. -/
def listAll (listed : Array Bool) : List Nat → Array Bool
  | [] => listed
  | i :: r => listAll (listed.setIfInBounds i true) r

/-- The late ones that have not come up, but for k. -/
def lates (ops : Array Oper) (listed : Array Bool) (k : Nat) : List Nat :=
  (List.range ops.size).filter fun i => lateAt ops i && !listed.getD i true && !(i == k)

/-- With all late ones but k come up, may any come up but j and late ones? -/
def aloneA (ops : Array Oper) (listed : Array Bool) (k j : Nat) : Bool :=
  (Region.ready .any ops (listAll listed (lates ops listed k))).all fun i => i == j || lateAt ops i

def cDraw (nt : Nat) (ops : Array Oper) (A : List Nat) (ks : List (Option AOp)) : Nat → Array Bool → Option (List AI)
  | fuel, listed =>
    match Region.ready .any ops listed with
    | [] => some []
    | rs =>
      match fuel with
      | 0 => none
      | fuel + 1 =>
        match rs.find? (quietAt ks) with
        | some i =>
          if freeA ops A listed i then
            match cI P nt ops i true [], cDraw nt ops A ks fuel (listed.setIfInBounds i true) with
            | some x, some xs => some (x :: xs)
            | _, _ => none
          else none
        | none =>
          match rs.find? (fun i => !lateAt ops i) with
          | some j =>
            if aloneA ops listed ops.size j then
              match cI P nt ops j false (incOf A ks ops.size j), cDraw nt ops A ks fuel (listed.setIfInBounds j true) with
              | some x, some xs => some (x :: xs)
              | _, _ => none
            else none
          | none =>
            match rs with
            | [] => none
            | k :: _ =>
              if aloneA ops listed k k then
                match cI P nt ops k false [], cDraw nt ops A ks fuel (listed.setIfInBounds k true) with
                | some x, some xs => some (x :: xs)
                | _, _ => none
              else none

/-- Nobody but number i writes its slot. -/
def ownDst (ops : Array Oper) (i : Nat) : Bool :=
  match ops[i]? with
  | some oi => (List.range ops.size).all fun j => j == i || (match ops[j]? with | some oj => !(oj.dst == oi.dst) | none => true)
  | none => false

def erOf (ops : Array Oper) : List Nat :=
  ((List.range ops.size).filter (lateAt ops)).filterMap fun i => (ops[i]?).bind (·.dst)

def cRegion (nt : Nat) (ops : Array Oper) (draw : Bool) : Option (List Nat × List AI) :=
  if draw then
    let A := (Region.before ops).toList
    let ks := (List.range ops.size).map (kindOf P ops)
    if ancOk ops A && Region.noSelect ops && ks.all (·.isSome) && ((List.range ops.size).filter (lateAt ops)).all (ownDst ops) then
      match cDraw P nt ops A ks ops.size (Array.replicate ops.size false) with
      | some xs => some (erOf ops, xs)
      | none => none
    else none
  else
    match cText P nt ops (List.range ops.size) with
    | some xs => some ([], xs)
    | none => none

def cCode (nt : Nat) : Code → Option ACode
  | .skip => some .skip
  | .ret => some .ret
  | .exit id => some (.exit id)
  | .region _ ops draw =>
    match cRegion P nt ops draw with
    | some (er, is) => some (.region er is)
    | none => none
  | .seq a b =>
    match cCode nt a, cCode nt b with
    | some a, some b => some (.seq a b)
    | _, _ => none
  | .cond x a b =>
    match cO x, cCode nt a, cCode nt b with
    | some x, some a, some b => some (.cond x a b)
    | _, _, _ => none
  | .block id a =>
    match cCode nt a with
    | some a => some (.block id a)
    | none => none
  | .loop a =>
    match cCode nt a with
    | some a => some (.loop a)
    | none => none
  | _ => none

def cRes : List ResultVar → Option (List (Nat × Option (Option Nat)))
  | [] => some []
  | x :: r =>
    match cRes r with
    | none => none
    | some rs =>
      match x with
      | .tmp t => some ((t, none) :: rs)
      | .cell a t =>
        match cShape P t with
        | some z => some ((a, some z) :: rs)
        | none => none

def cFun (fn : Func) : Option AFun :=
  if fn.name = "runtime.NumGoroutine" then none
  else
    match fn.body with
    | none => none
    | some c =>
      match cCode P fn.ntmps c, cRes P fn.results.toList with
      | some c, some rs => some { ntmps := fn.ntmps, res := rs, code := c }
      | _, _ => none
end
end Go.Ev
