/- The evaluator as threaded code. No conditions.
-/
import Derived.Test.YtepeiijjldpcpaaGreatSvA
set_option linter.all false
namespace Go.Sv

abbrev CallF := Nat → List AV → AH → Option (AT × AH)
abbrev QRun := CallF → Tr AT → AH → Option (AT × AH)
abbrev Gt := Tr AT → Option AT
abbrev Ec := Tr AT → Option AC
abbrev Ev := Tr AT → Option AV
abbrev Out := Option (Tr AT × AH)
abbrev Pt := Option AT → Tr AT → (Tr AT → Out) → Out

/- ### Slots by their roads -/

def G.h : Gt := fun t => match t with | .nil => none | .node v _ _ => v
def G.l (g : Gt) : Gt := fun t => match t with | .nil => none | .node _ l _ => g l
def G.r (g : Gt) : Gt := fun t => match t with | .nil => none | .node _ _ r => g r
def P.h : Pt := fun x t k => match t with | .nil => k (.node x .nil .nil) | .node _ l r => k (.node x l r)
def P.l (p : Pt) : Pt := fun x t k => match t with | .nil => p x .nil (fun l => k (.node none l .nil)) | .node v l r => p x l (fun l => k (.node v l r))
def P.r (p : Pt) : Pt := fun x t k => match t with | .nil => p x .nil (fun r => k (.node none .nil r)) | .node v l r => p x r (fun r => k (.node v l r))

def pathG : Nat → Nat → Gt
  | 0, _ => fun _ => none
  | k + 1, i =>
    match i with
    | 0 => G.h
    | i + 1 => bif Nat.beq (Nat.mod i 2) 0 then G.l (pathG k (Nat.div i 2)) else G.r (pathG k (Nat.div i 2))

def pathP : Nat → Nat → Pt
  | 0, _ => fun _ t k => k t
  | k + 1, i =>
    match i with
    | 0 => P.h
    | i + 1 => bif Nat.beq (Nat.mod i 2) 0 then P.l (pathP k (Nat.div i 2)) else P.r (pathP k (Nat.div i 2))

def gOf (i : Nat) : Gt := pathG (Nat.succ i) i
def pOf (i : Nat) : Pt := pathP (Nat.succ i) i

def C.t (g : Gt) : Ec := fun T =>
  match g T with
  | some (.v (.c x)) => some x
  | _ => none
def C.k (x : AC) : Ec := fun _ => some x
def V.t (g : Gt) : Ev := fun T =>
  match g T with
  | some (.v x) => some x
  | _ => none
def V.k (x : AV) : Ev := fun _ => some x
def N.c : Ec := fun _ => none
def N.v : Ev := fun _ => none
def X.k (x : AT) : Gt := fun _ => some x

def qC (x : AOpnd) : Ec :=
  match x with
  | .tmp t => C.t (gOf t)
  | .const (.v (.c x)) => C.k x
  | .const _ => N.c

def qV (x : AOpnd) : Ev :=
  match x with
  | .tmp t => V.t (gOf t)
  | .const (.v x) => V.k x
  | .const _ => N.v

def qT (x : AOpnd) : Gt :=
  match x with
  | .tmp t => gOf t
  | .const x => X.k x

/-- Its answer, laid bare. -/
def fzQ (r : QRun) : QRun := fun callf T H =>
  match r callf T H with
  | none => none
  | some (v, H) => fzT v fun v => some (v, H)

def fzA (x : Option AC) (H : AH) : Option (AT × AH) :=
  match x with
  | some x => fzC x fun x => some (.v (.c x), H)
  | none => none

def q_mov (g : Gt) : QRun := fun _ T H =>
  match g T with
  | some x => some (x, H)
  | none => none

/-- A load that is no plain one. -/
def loadO (z : Option Nat) (x : AC) (H : AH) : Option (AT × AH) :=
  match x with
  | .fp b j i x =>
    match z, H.t.get b with
    | none, some (.raw j') => bif Nat.beq j j' && Nat.ble i 47 then some (mk1 (.si .i16 x (bif Nat.ble (Nat.add i 3) j then .el0 else .el)), H) else none
    | _, _ => none
  | _ => none

def q_addr (off : Nat) (x : Ec) : QRun := fun _ T H =>
  match x T with
  | some (.ptr b o) => fz (Nat.add o off) fun o => some (mk1 (.ptr b o), H)
  | _ => none

def fzP (b o : Nat) (H : AH) : Option (AT × AH) := fz o fun o => some (mk1 (.ptr b o), H)

/-- Where place i of n lies. -/
def at1 (b o z : Nat) (i : Int) (n : Nat) (H : AH) : Option (AT × AH) :=
  match i with
  | .ofNat i => bif Nat.ble (Nat.succ i) n then fzP b (Nat.add o (Nat.mul i z)) H else none
  | .negSucc _ => none

def at2 (z : Nat) (arr : Option Nat) (x : AC) (i : Int) (H : AH) : Option (AT × AH) :=
  match arr, x with
  | some n, .ptr b o => at1 b o z i n H
  | none, .sl b o l _ => at1 b o z i l H
  | none, .osl b l _ => at1 b 0 z i l H
  | _, _ => none

/-- A place of a slice that came in. -/
def at3 (z : Nat) (arr : Option Nat) (x i : AC) (H : AH) : Option (AT × AH) :=
  match x, i with
  | .xs b j _ e, .si _ _ (.ix j' i) =>
    match arr with
    | none => bif Nat.beq j j' && Nat.beq z 1 then some (mk1 (.fp b j i (e i)), H) else none
    | some _ => none
  | _, _ => none

def q_indexAddr (z : Nat) (arr : Option Nat) (x i : Ec) : QRun := fun _ T H =>
  match x T with
  | some x =>
    match i T with
    | some (.int _ i) => at2 z arr x i H
    | some i => at3 z arr x i H
    | none => none
  | none => none

def ltI (a b : Int) : Bool :=
  match a, b with
  | .ofNat m, .ofNat n => Nat.ble (Nat.succ m) n
  | .negSucc _, .ofNat _ => true
  | .ofNat _, .negSucc _ => false
  | .negSucc m, .negSucc n => Nat.ble (Nat.succ n) m

def eqI (a b : Int) : Bool :=
  match a, b with
  | .ofNat m, .ofNat n => Nat.beq m n
  | .negSucc m, .negSucc n => Nat.beq n m
  | _, _ => false

def sameK (a b : IntKind) : Bool :=
  match a with
  | .i64 => (match b with | .i64 => true | _ => false)
  | a => decide (a = b)

/-- What two whole numbers give. -/
/- ### Memory, by the recursors themselves -/

noncomputable def getR {α : Type} (t : Tr α) : Nat → Option α :=
  Tr.rec (fun _ => none) (fun v _ _ gl gr i => Nat.rec v (fun i _ => bif Nat.beq (Nat.mod i 2) 0 then gl (Nat.div i 2) else gr (Nat.div i 2)) i) t

noncomputable def putR {α : Type} (t : Tr α) : Nat → Option α → Tr α :=
  Tr.rec (fun i x => Tr.set (Nat.succ i) .nil i x) (fun v l r pl pr i x => Nat.rec (.node x l r) (fun i _ => bif Nat.beq (Nat.mod i 2) 0 then .node v (pl (Nat.div i 2) x) r else .node v l (pr (Nat.div i 2) x)) i) t

noncomputable def atR (cs : List AC) : Nat → Option AC :=
  List.rec (fun _ => none) (fun c _ ih i => Nat.rec (some c) (fun i _ => ih i) i) cs

def consO (c : AC) (x : Option (List AC)) : Option (List AC) :=
  match x with
  | some r => some (c :: r)
  | none => none

noncomputable def cutR (cs : List AC) : Nat → Nat → Option (List AC) :=
  List.rec (fun off n => cut [] off n) (fun c _ ih off n => Nat.rec (Nat.rec (some []) (fun n _ => consO c (ih 0 n)) n) (fun off _ => ih off n) off) cs

noncomputable def layR (cs : List AC) : Nat → List AC → Option (List AC) :=
  List.rec (fun i xs => lay [] i xs) (fun c cs ih i xs => Nat.rec (List.rec (some (c :: cs)) (fun x xs _ => consO x (ih 0 xs)) xs) (fun i _ => consO c (ih i xs)) i) cs

noncomputable def writeR (H : AH) (b off : Nat) (xs : List AC) : Option AH :=
  bif memN H.p b then none else
  match getR H.t b with
  | some (.cells cs full) =>
    match layR cs off xs with
    | some cs => some { t := putR H.t b (some (.cells cs full)), n := H.n, p := H.p }
    | none => none
  | _ => none

noncomputable def q_load1 (a : Ec) : QRun := fun callf T H =>
  match a T with
  | some (.ptr b o) =>
    match getR H.t b with
    | some (.cells cs _) =>
      match atR cs o with
      | some x => some (mk1 x, H)
      | none => none
    | _ => none
  | some x => loadO none x H
  | none => none

noncomputable def q_loadN (n : Nat) (a : Ec) : QRun := fun callf T H =>
  match a T with
  | some (.ptr b o) =>
    match getR H.t b with
    | some (.cells cs _) =>
      match cutR cs o n with
      | some xs => some (.v (.agg xs), H)
      | none => none
    | _ => none
  | some x => loadO (some n) x H
  | none => none

noncomputable def q_store (z : Nat) (a : Ec) (x : Ev) : QRun := fun callf T H =>
  match a T, x T with
  | some (.ptr b o), some v =>
    bif Nat.beq v.cells.length z then
      match writeR H b o v.cells with
      | some H => some (undefA, H)
      | none => none
    else none
  | _, _ => none

def gI (op : BinOp) (f : IntKind → Int → Int → AH → Option (AT × AH)) (x y : Ec) : QRun := fun _ T H =>
  match x T with
  | none => none
  | some a =>
    match y T with
    | none => none
    | some b =>
      match a with
      | .int k m =>
        match b with
        | .int k' n => bif sameK k k' then f k m n H else none
        | b => fzA (binC op (.int k m) b) H
      | a => fzA (binC op a b) H

def okB (b : Bool) (H : AH) : Option (AT × AH) := some (.v (.c (.bool b)), H)

/-- A whole number, in its kind. -/
def okI (k : IntKind) (n : Int) (H : AH) : Option (AT × AH) :=
  match k with
  | .i64 =>
    match n with
    | .ofNat m => bif Nat.ble m 0x7fffffffffffffff then fz m fun m => some (.v (.c (.int .i64 (.ofNat m))), H) else fzI (IntKind.i64.wrap (.ofNat m)) fun n => some (.v (.c (.int .i64 n)), H)
    | n => fzI (IntKind.i64.wrap n) fun n => some (.v (.c (.int .i64 n)), H)
  | k => fzI (k.wrap n) fun n => some (.v (.c (.int k n)), H)

def q_lss (x y : Ec) : QRun := gI .lss (fun _ m n H => okB (ltI m n) H) x y
def q_gtr (x y : Ec) : QRun := gI .gtr (fun _ m n H => okB (ltI n m) H) x y
def q_leq (x y : Ec) : QRun := gI .leq (fun _ m n H => okB (!ltI n m) H) x y
def q_geq (x y : Ec) : QRun := gI .geq (fun _ m n H => okB (!ltI m n) H) x y
def q_eql (x y : Ec) : QRun := gI .eql (fun _ m n H => okB (eqI m n) H) x y
def q_neq (x y : Ec) : QRun := gI .neq (fun _ m n H => okB (!eqI m n) H) x y
def q_add (x y : Ec) : QRun := gI .add (fun k m n H => okI k (Int.add m n) H) x y
def q_sub (x y : Ec) : QRun := gI .sub (fun k m n H => okI k (Int.sub m n) H) x y
def q_mul (x y : Ec) : QRun := gI .mul (fun k m n H => okI k (Int.mul m n) H) x y

def q_bin (op : BinOp) (x y : Ec) : QRun := fun _ T H =>
  match x T, y T with
  | some a, some b => fzA (binC op a b) H
  | _, _ => none

def qBin (op : BinOp) (x y : Ec) : QRun :=
  match op with
  | .lss => q_lss x y
  | .gtr => q_gtr x y
  | .leq => q_leq x y
  | .geq => q_geq x y
  | .eql => q_eql x y
  | .neq => q_neq x y
  | .add => q_add x y
  | .sub => q_sub x y
  | .mul => q_mul x y
  | op => q_bin op x y

def q_pick (c : Ec) (a : Gt) (b : Gt) : QRun := fun callf T H =>
 
    match c T with
    | some (.bool true) => keepH H (a T)
    | some (.bool false) => keepH H (b T)
    | some (.sb q) => keepH H (joinT q (a T) (b T))
    | _ => none

def q_alloc (cells : List AC) : QRun := fun callf T H =>
  some (mk1 (.ptr H.n 0), H.new (.cells cells true))

def q_box (x : Ev) : QRun := fun callf T H =>
 
    match x T with
    | some v => some (mk1 (.ptr H.n 0), H.new (.cells v.cells true))
    | none => none

def q_build (zero : List AC) (parts : List (Nat × Nat × AOpnd)) : QRun := fun callf T H =>
 
    match fillA T zero parts with
    | some cs => some (.v (.agg cs), H)
    | none => none

def q_buildSlice (zero : List AC) (parts : List (Nat × Nat × AOpnd)) (len : Nat) : QRun := fun callf T H =>
 
    match fillA T zero parts with
    | some cs => some (mk1 (.sl H.n 0 len (some len)), H.new (.cells cs true))
    | none => none

def q_nilCheck (x : Ec) : QRun := fun callf T H =>
 
    match x T with
    | some (.ptr b o) => some (mk1 (.ptr b o), H)
    | some (.fn f caps) => some (mk1 (.fn f caps), H)
    | _ => none

def q_eqB (neg : Bool) (x : Ec) (y : Ec) : QRun := fun callf T H =>
 
    match x T, y T with
    | some (.bool a), some (.bool b) => some (mk1 (.bool (xor neg (a == b))), H)
    | _, _ => none

def q_eqA (neg : Bool) (n : Nat) (x : Ev) (y : Ev) : QRun := fun callf T H =>
 
    match x T, y T with
    | some (.agg a), some (.agg b) =>
      bif Nat.beq a.length n then
        match sameInts a b with
        | some r => some (mk1 (.bool (xor neg r)), H)
        | none => none
      else none
    | _, _ => none

def q_isNil (neg : Bool) (x : Ec) : QRun := fun callf T H =>
 
    match x T with
    | some .nils => some (mk1 (.bool (xor neg true)), H)
    | some (.sl _ _ _ _) => some (mk1 (.bool (xor neg false)), H)
    | some (.osl _ _ _) => some (mk1 (.bool (xor neg false)), H)
    | _ => none

def q_strAt (s : List Nat) (i : Ec) : QRun := fun callf T H =>
 
    match i T with
    | some (.int _ i) =>
      if 0 ≤ i then
        match s[i.toNat]? with
        | some b => some (mk1 (.int .u8 b), H)
        | none => none
      else none
    | _ => none

def q_un (op : UnOp) (x : Ec) : QRun := fun callf T H =>
 
    match x T with
    | some a => some1 H (unC op a)
    | none => none

def q_toInt (k : IntKind) (x : Ec) : QRun := fun callf T H =>
 
    match x T with
    | some (.int _ n) => some (mk1 (.int k (k.wrap n)), H)
    | some (.si _ n (.md m r)) => if k = .i64 then some (mk1 (.si k n (.md m r)), H) else none
    | some (.si _ n .byt) => if k = .i64 then some (mk1 (.si k n .byt), H) else none
    | some (.si _ n .el) => if k = .i64 then some (mk1 (.si k n .el), H) else none
    | some (.si _ n .el0) => if k = .i64 then some (mk1 (.si k n .el0), H) else none
    | _ => none

def q_toFlt (x : Ec) : QRun := fun callf T H =>
 
    match x T with
    | some (.int _ n) => some (mk1 (.flt (.f (FloatKind.f64.nearest n))), H)
    | some (.flt x) => some (mk1 (.flt x), H)
    | some (.si _ n (.lev j)) => some (mk1 (.flt (.s (FloatKind.f64.nearest n) { id := j, np := 0, pos := false, bd := some (2 ^ 110), fm := none })), H)
    | some (.si _ n .er) => some (mk1 (.flt (.s (FloatKind.f64.nearest n) { id := 0, np := 0, pos := false, bd := some (2 ^ 106), fm := none })), H)
    | _ => none

def q_mkFn (f : Nat) (caps : List AOpnd) : QRun := fun callf T H =>
 
    match evCs T caps with
    | some ps => some (mk1 (.fn f ps), H)
    | none => none

def q_mkMap  : QRun := fun callf T H =>
  some (mk1 (.map H.n), H.new (.map []))

def q_mkSlice (z : Nat) (zero : List AC) (bytes : Nat) (l : Ec) (c : Ec) : QRun := fun callf T H =>
 
    match l T, c T with
    | some (.int _ l), some (.int _ c) =>
      if 0 ≤ l ∧ l ≤ c ∧ c ≤ big ∧ bytes * c ≤ 2 ^ 48 then
        bif Nat.beq zero.length z then
          some (mk1 (.sl H.n 0 l.toNat (some c.toNat)), H.new (.cells (reps zero c.toNat) true))
        else none
      else none
    | _, _ => none

def q_slice (z : Nat) (arr : Option Nat) (x : Ec) (lo : Option AOpnd) (hi : Option AOpnd) : QRun := fun callf T H =>
 
    match x T with
    | some x => some1 H (sliceA T z arr x lo hi)
    | none => none

def q_field (z : Option Nat) (off : Nat) (x : Ev) : QRun := fun callf T H =>
 
    match x T with
    | some (.agg xs) =>
      match partA z xs off with
      | some v => some (.v v, H)
      | none => none
    | _ => none

def q_index (z : Option Nat) (sz : Nat) (n : Nat) (x : Ev) (i : Ec) : QRun := fun callf T H =>
 
    match x T, i T with
    | some (.agg xs), some (.int _ i) =>
      if 0 ≤ i ∧ i < n then
        match partA z xs (Nat.mul i.toNat sz) with
        | some v => some (.v v, H)
        | none => none
      else none
    | _, _ => none

def q_lookup (key : Option Nat) (zero : AV) (m : Ec) (k : Ev) (ok : Bool) : QRun := fun callf T H =>
 
    match m T, k T with
    | some m, some k =>
      bif keyOk key k then
        match (match m with | .nilm => some [] | .map b => H.getMap b | _ => none : Option (List (AV × AV))) with
        | none => none
        | some es =>
          match findK k es 0 with
          | none => none
          | some none => some (bif ok then .tup [zero, .c (.bool false)] else .v zero, H)
          | some (some (_, v)) => some (bif ok then .tup [v, .c (.bool true)] else .v v, H)
      else none
    | _, _ => none

def q_mapUpdate (key : Option Nat) (m : Ec) (k : Ev) (x : Ev) : QRun := fun callf T H =>
 
    match m T, k T, x T with
    | some (.map b), some k, some x =>
      bif keyOk key k then
        match H.getMap b with
        | none => none
        | some es =>
          match findK k es 0 with
          | none => none
          | some none =>
            match H.setMap b (es ++ [(k, x)]) with
            | some H => some (undefA, H)
            | none => none
          | some (some (i, _)) =>
            match H.setMap b (setAt es i (k, x)) with
            | some H => some (undefA, H)
            | none => none
      else none
    | _, _, _ => none

def q_mapEntry (key : Option Nat) (zero : AV) (m : Ec) (k : Ev) : QRun := fun callf T H =>
 
    match m T, k T with
    | some (.map b), some k =>
      bif keyOk key k then
        match H.getMap b with
        | none => none
        | some es =>
          match findK k es 0 with
          | none => none
          | some none =>
            match H.setMap b (es ++ [(k, zero)]) with
            | some H => some (.tup [zero, .c (.int .i64 es.length)], H)
            | none => none
          | some (some (i, v)) =>
            match H.setMap b (setAt es i (k, v)) with
            | some H => some (.tup [v, .c (.int .i64 i)], H)
            | none => none
      else none
    | _, _ => none

def q_entryStore (m : Ec) (s : Ec) (x : Ev) : QRun := fun callf T H =>
 
    match m T, s T, x T with
    | some (.map b), some (.int _ i), some x =>
      match H.getMap b with
      | none => none
      | some es =>
        if 0 ≤ i then
          match atE es i.toNat with
          | some (k, _) =>
            match H.setMap b (setAt es i.toNat (k, x)) with
            | some H => some (undefA, H)
            | none => none
          | none => none
        else none
    | _, _, _ => none

def q_extract (i : Nat) (x : Gt) : QRun := fun callf T H =>
 
    match x T with
    | some (.tup xs) =>
      match xs[i]? with
      | some v => some (.v v, H)
      | none => none
    | _ => none

def q_call (f : Ec) (args : List AOpnd) : QRun := fun callf T H =>
 
    match f T, evVs T args with
    | some (.fn f caps), some vs => fzVs (vs ++ caps.map fun (b, o) => .c (.ptr b o)) fun vs => callf f vs H
    | _, _ => none

def q_fbits (x : Ec) : QRun := fun callf T H =>
 
    match x T with
    | some (.flt (.f b)) => some (mk1 (.int .u64 b), H)
    | some (.flt (.s n F)) => some (mk1 (.fb n F), H)
    | _ => none

def q_ffrom (x : Ec) : QRun := fun callf T H =>
 
    match x T with
    | some (.int .u64 n) => some (mk1 (.flt (.f n.toNat)), H)
    | some (.fb n F) => some (mk1 (.flt (.s n F)), H)
    | _ => none

def q_sqrt (x : Ec) : QRun := fun callf T H =>
 
    match x T with
    | some (.flt (.f b)) => some (mk1 (.flt (match FloatKind.f64.format.sqrt b with | some r => .f r | none => .nan)), H)
    | some (.flt (.s n F)) =>
      match F.bd with
      | some b => bif Nat.beq F.lw 2 && Nat.ble b top then some (mk1 (.flt (.s (fsqrt n) { id := 0, np := F.np, pos := true, bd := some (Nat.mul 2 b), fm := none })), H) else none
      | none => none
    | _ => none

def q_bi (b : ABi) (args : List AOpnd) : QRun := fun callf T H =>
  biA T b args H

noncomputable def qOp (op : AOp) : QRun :=
  match op with
  | .mov x => q_mov (qT x)
  | .addr off x => q_addr off (qC x)
  | .indexAddr z arr x i => q_indexAddr z arr (qC x) (qC i)
  | .bin op x y => qBin op (qC x) (qC y)
  | .load z a => (match z with | none => q_load1 (qC a) | some n => q_loadN n (qC a))
  | .store z a x => q_store z (qC a) (qV x)
  | .pick a0 a1 a2 => q_pick (qC a0) (qT a1) (qT a2)
  | .alloc a0 => q_alloc a0
  | .box a0 => q_box (qV a0)
  | .build a0 a1 => q_build a0 a1
  | .buildSlice a0 a1 a2 => fzQ (q_buildSlice a0 a1 a2)
  | .nilCheck a0 => q_nilCheck (qC a0)
  | .eqB a0 a1 a2 => q_eqB a0 (qC a1) (qC a2)
  | .eqA a0 a1 a2 a3 => q_eqA a0 a1 (qV a2) (qV a3)
  | .isNil a0 a1 => q_isNil a0 (qC a1)
  | .strAt a0 a1 => fzQ (q_strAt a0 (qC a1))
  | .un a0 a1 => fzQ (q_un a0 (qC a1))
  | .toInt a0 a1 => fzQ (q_toInt a0 (qC a1))
  | .toFlt a0 => fzQ (q_toFlt (qC a0))
  | .mkFn a0 a1 => q_mkFn a0 a1
  | .mkMap  => q_mkMap 
  | .mkSlice a0 a1 a2 a3 a4 => fzQ (q_mkSlice a0 a1 a2 (qC a3) (qC a4))
  | .slice a0 a1 a2 a3 a4 => fzQ (q_slice a0 a1 (qC a2) a3 a4)
  | .field a0 a1 a2 => q_field a0 a1 (qV a2)
  | .index a0 a1 a2 a3 a4 => q_index a0 a1 a2 (qV a3) (qC a4)
  | .lookup a0 a1 a2 a3 a4 => q_lookup a0 a1 (qC a2) (qV a3) a4
  | .mapUpdate a0 a1 a2 a3 => q_mapUpdate a0 (qC a1) (qV a2) (qV a3)
  | .mapEntry a0 a1 a2 a3 => fzQ (q_mapEntry a0 a1 (qC a2) (qV a3))
  | .entryStore a0 a1 a2 => fzQ (q_entryStore (qC a0) (qC a1) (qV a2))
  | .extract a0 a1 => q_extract a0 (qT a1)
  | .call a0 a1 => q_call (qC a0) a1
  | .fbits a0 => fzQ (q_fbits (qC a0))
  | .ffrom a0 => fzQ (q_ffrom (qC a0))
  | .sqrt a0 => fzQ (q_sqrt (qC a0))
  | .bi a0 a1 => fzQ (q_bi a0 a1)

abbrev Thr := CallF → List LR → Tr AT → AH → Out

/-- No more. -/
def I.o : Thr := fun _ _ T H => some (T, H)

/-- An operation that writes a slot. -/
def I.d (p : Pt) (run : QRun) (rest : Thr) : Thr := fun callf ls T H =>
  match run callf T H with
  | none => none
  | some (v, H) => p (some v) T (fun T => rest callf ls T H)

/-- One that writes none. -/
def I.n (run : QRun) (rest : Thr) : Thr := fun callf ls T H =>
  match run callf T H with
  | none => none
  | some (_, H) => rest callf ls T H

/-- One that is quiet and taken ahead: a read. -/
def I.q (i : Nat) (rd : Tr AT → Nat → AT → Option LR) (p : Pt) (run : QRun) (rest : Thr) : Thr := fun callf ls T H =>
  match run callf T H with
  | none => none
  | some (v, H) => p (some v) T (fun T' => rest callf (addR (rd T i v) ls) T' H)

def nanT (v : AT) : Bool :=
  match v with
  | .v (.c x) => nanC x
  | _ => false

/-- A sum, taken ahead. -/
def I.b (p : Pt) (run : QRun) (rest : Thr) : Thr := fun callf ls T H =>
  match run callf T H with
  | none => none
  | some (v, H) => bif nanT v then none else p (some v) T (fun T => rest callf ls T H)

/-- Others. -/
def I.x (x : AI) (rest : Thr) : Thr := fun callf ls T H =>
  match evI callf x ls T H with
  | none => none
  | some (v, H) => fzT v fun v => rest callf (bif x.q then addR (readOf T x.i x.op v) ls else ls) (putT T x.dst v) H

/-- A guard. -/
def I.g (g : Gt) (want : Bool) (dst : Option Nat) (a rest : Thr) : Thr := fun callf ls T H =>
  match g T with
  | none => none
  | some (.v (.c (.bool b))) => bif b == want then a callf ls T H else rest callf ls (putT T dst undefA) H
  | some (.v (.c (.sb _))) => none
  | some (.v (.c (.arg _))) => none
  | some (.v (.c .any)) => none
  | some _ => rest callf ls (putT T dst undefA) H

def rdL (a : Ec) : Tr AT → Nat → AT → Option LR := fun T i _ =>
  match a T with
  | some (.ptr b _) => some { i := i, b := b, k := none }
  | some (.fp b _ _ _) => some { i := i, b := b, k := none }
  | _ => none

def rdK (m : Ec) (k : Ev) (ok : Bool) : Tr AT → Nat → AT → Option LR := fun T i r =>
  match m T with
  | some (.map b) =>
    match ok, r, k T with
    | false, .v (.c (.int q n)), some k => some { i := i, b := b, k := some (k, q, n) }
    | _, _, _ => some { i := i, b := b, k := none }
  | _ => none

noncomputable def insN (x : AI) (rest : Thr) : Thr :=
  match x.q with
  | true =>
    match x.dst with
    | none => I.x x rest
    | some d =>
      match x.op with
      | .load z a => I.q x.i (rdL (qC a)) (pOf d) (qOp (.load z a)) rest
      | .lookup key z m k ok => I.q x.i (rdK (qC m) (qV k) ok) (pOf d) (qOp (.lookup key z m k ok)) rest
      | .bin op a b => I.b (pOf d) (qOp (.bin op a b)) rest
      | op => I.d (pOf d) (qOp op) rest
  | false =>
    match x.inc, x.dst with
    | [], some d => I.d (pOf d) (qOp x.op) rest
    | [], none => I.n (qOp x.op) rest
    | _, _ => I.x x rest

noncomputable def insQ (x : AI) (rest : Thr) : Thr :=
  match x.guard with
  | none => insN x rest
  | some (t, w) => I.g (gOf t) w x.dst (insN x rest) rest

noncomputable def toThr : List AI → Thr
  | [] => I.o
  | x :: r => insQ x (toThr r)

inductive QC where
  | skip
  | region (er : List Nat) (th : Thr)
  | seq (a b : QC)
  | cond (c : Ec) (ds : List Nat) (a b : QC)
  | block (id : Nat) (a : QC)
  | loop (a : QC)
  | exit (id : Nat)
  | ret

structure QFun where
  res : List (Nat × Option (Option Nat))
  code : QC

noncomputable def toQC : ACode → QC
  | .skip => .skip
  | .region er is => .region er (toThr is)
  | .seq a b => .seq (toQC a) (toQC b)
  | .cond c a b => .cond (qC c) (dstsC a ++ dstsC b) (toQC a) (toQC b)
  | .block id a => .block id (toQC a)
  | .loop a => .loop (toQC a)
  | .exit id => .exit id
  | .ret => .ret

noncomputable def toQF (f : AFun) : QFun := ⟨f.res, toQC f.code⟩

def callQ (env : Nat → Option QFun) (ov : CallF) (self : QC → Tr AT → AH → Ans) (f : Nat) (args : List AV) (H : AH) : Option (AT × AH) :=
  match ov f args H with
  | some r => some r
  | none =>
  match env f with
  | none => none
  | some fn =>
    match self fn.code (enter args 0 .nil) H with
    | none => none
    | some (.exit _, _, _) => none
    | some (_, T, H) =>
      match resA T H fn.res with
      | some vs => fzVs vs fun vs => some (one vs, H)
      | none => none

def stepRegion (callf : CallF) (er : List Nat) (th : Thr) (T : Tr AT) (H : AH) : Ans :=
  match th callf [] (wipe er T) H with
  | none => none
  | some (T, H) => some (.normal, T, H)

def stepSeq (self : QC → Tr AT → AH → Ans) (a b : QC) (T : Tr AT) (H : AH) : Ans :=
  match self a T H with
  | none => none
  | some (.normal, T, H) => self b T H
  | some r => some r

def stepCond (self : QC → Tr AT → AH → Ans) (x : Ec) (ds : List Nat) (a b : QC) (T : Tr AT) (H : AH) : Ans :=
  match x T with
  | some (.bool true) => self a T H
  | some (.bool false) => self b T H
  | some (.sb q) =>
    match self a T { t := .nil, n := H.n, p := [] } with
    | some (.normal, T1, H1) =>
      match self b T { t := .nil, n := H.n, p := [] } with
      | some (.normal, T2, H2) => bif Nat.beq H1.n H.n && Nat.beq H2.n H.n then some (.normal, joinTs q T1 T2 ds T, H) else none
      | _ => none
    | _ => none
  | _ => none

def stepBlock (self : QC → Tr AT → AH → Ans) (id : Nat) (a : QC) (T : Tr AT) (H : AH) : Ans :=
  match self a T H with
  | none => none
  | some (.exit id', T, H) => bif Nat.beq id' id then some (.normal, T, H) else some (.exit id', T, H)
  | some r => some r

def stepLoop (self : QC → Tr AT → AH → Ans) (a : QC) (T : Tr AT) (H : AH) : Ans :=
  match self a T H with
  | none => none
  | some (.normal, T, H) => self (.loop a) T H
  | some r => some r

def stepQ (env : Nat → Option QFun) (ov : CallF) (self : QC → Tr AT → AH → Ans) (c : QC) (T : Tr AT) (H : AH) : Ans :=
  match c with
  | .skip => some (.normal, T, H)
  | .ret => some (.ret, T, H)
  | .exit id => some (.exit id, T, H)
  | .seq a b => stepSeq self a b T H
  | .cond x ds a b => stepCond self x ds a b T H
  | .block id a => stepBlock self id a T H
  | .loop a => stepLoop self a T H
  | .region er th => stepRegion (callQ env ov self) er th T H

def evQ (env : Nat → Option QFun) (ov : CallF) (n : Nat) : QC → Tr AT → AH → Ans :=
  Nat.rec (fun _ _ _ => none) (fun _ self => stepQ env ov self) n

def evFQ (env : Nat → Option QFun) (ov : CallF) (n : Nat) (f : Nat) (args : List AV) (H : AH) : Option (AT × AH) := callQ env ov (evQ env ov n) f args H
end Go.Sv

namespace Go.Sv
def g0 : Gt := G.h
def p0 : Pt := P.h
def g1 : Gt := (G.l G.h)
def p1 : Pt := (P.l P.h)
def g2 : Gt := (G.r G.h)
def p2 : Pt := (P.r P.h)
def g3 : Gt := (G.l (G.l G.h))
def p3 : Pt := (P.l (P.l P.h))
def g4 : Gt := (G.r (G.l G.h))
def p4 : Pt := (P.r (P.l P.h))
def g5 : Gt := (G.l (G.r G.h))
def p5 : Pt := (P.l (P.r P.h))
def g6 : Gt := (G.r (G.r G.h))
def p6 : Pt := (P.r (P.r P.h))
def g7 : Gt := (G.l (G.l (G.l G.h)))
def p7 : Pt := (P.l (P.l (P.l P.h)))
def g8 : Gt := (G.r (G.l (G.l G.h)))
def p8 : Pt := (P.r (P.l (P.l P.h)))
def g9 : Gt := (G.l (G.r (G.l G.h)))
def p9 : Pt := (P.l (P.r (P.l P.h)))
def g10 : Gt := (G.r (G.r (G.l G.h)))
def p10 : Pt := (P.r (P.r (P.l P.h)))
def g11 : Gt := (G.l (G.l (G.r G.h)))
def p11 : Pt := (P.l (P.l (P.r P.h)))
def g12 : Gt := (G.r (G.l (G.r G.h)))
def p12 : Pt := (P.r (P.l (P.r P.h)))
def g13 : Gt := (G.l (G.r (G.r G.h)))
def p13 : Pt := (P.l (P.r (P.r P.h)))
def g14 : Gt := (G.r (G.r (G.r G.h)))
def p14 : Pt := (P.r (P.r (P.r P.h)))
def g15 : Gt := (G.l (G.l (G.l (G.l G.h))))
def p15 : Pt := (P.l (P.l (P.l (P.l P.h))))
def g16 : Gt := (G.r (G.l (G.l (G.l G.h))))
def p16 : Pt := (P.r (P.l (P.l (P.l P.h))))
def g17 : Gt := (G.l (G.r (G.l (G.l G.h))))
def p17 : Pt := (P.l (P.r (P.l (P.l P.h))))
def g18 : Gt := (G.r (G.r (G.l (G.l G.h))))
def p18 : Pt := (P.r (P.r (P.l (P.l P.h))))
def g19 : Gt := (G.l (G.l (G.r (G.l G.h))))
def p19 : Pt := (P.l (P.l (P.r (P.l P.h))))
def g20 : Gt := (G.r (G.l (G.r (G.l G.h))))
def p20 : Pt := (P.r (P.l (P.r (P.l P.h))))
def g21 : Gt := (G.l (G.r (G.r (G.l G.h))))
def p21 : Pt := (P.l (P.r (P.r (P.l P.h))))
def g22 : Gt := (G.r (G.r (G.r (G.l G.h))))
def p22 : Pt := (P.r (P.r (P.r (P.l P.h))))
def g23 : Gt := (G.l (G.l (G.l (G.r G.h))))
def p23 : Pt := (P.l (P.l (P.l (P.r P.h))))
def g24 : Gt := (G.r (G.l (G.l (G.r G.h))))
def p24 : Pt := (P.r (P.l (P.l (P.r P.h))))
def g25 : Gt := (G.l (G.r (G.l (G.r G.h))))
def p25 : Pt := (P.l (P.r (P.l (P.r P.h))))
def g26 : Gt := (G.r (G.r (G.l (G.r G.h))))
def p26 : Pt := (P.r (P.r (P.l (P.r P.h))))
def g27 : Gt := (G.l (G.l (G.r (G.r G.h))))
def p27 : Pt := (P.l (P.l (P.r (P.r P.h))))
def g28 : Gt := (G.r (G.l (G.r (G.r G.h))))
def p28 : Pt := (P.r (P.l (P.r (P.r P.h))))
def g29 : Gt := (G.l (G.r (G.r (G.r G.h))))
def p29 : Pt := (P.l (P.r (P.r (P.r P.h))))
def g30 : Gt := (G.r (G.r (G.r (G.r G.h))))
def p30 : Pt := (P.r (P.r (P.r (P.r P.h))))
def g31 : Gt := (G.l (G.l (G.l (G.l (G.l G.h)))))
def p31 : Pt := (P.l (P.l (P.l (P.l (P.l P.h)))))
def g32 : Gt := (G.r (G.l (G.l (G.l (G.l G.h)))))
def p32 : Pt := (P.r (P.l (P.l (P.l (P.l P.h)))))
def g33 : Gt := (G.l (G.r (G.l (G.l (G.l G.h)))))
def p33 : Pt := (P.l (P.r (P.l (P.l (P.l P.h)))))
def g34 : Gt := (G.r (G.r (G.l (G.l (G.l G.h)))))
def p34 : Pt := (P.r (P.r (P.l (P.l (P.l P.h)))))
def g35 : Gt := (G.l (G.l (G.r (G.l (G.l G.h)))))
def p35 : Pt := (P.l (P.l (P.r (P.l (P.l P.h)))))
def g36 : Gt := (G.r (G.l (G.r (G.l (G.l G.h)))))
def p36 : Pt := (P.r (P.l (P.r (P.l (P.l P.h)))))
def g37 : Gt := (G.l (G.r (G.r (G.l (G.l G.h)))))
def p37 : Pt := (P.l (P.r (P.r (P.l (P.l P.h)))))
def g38 : Gt := (G.r (G.r (G.r (G.l (G.l G.h)))))
def p38 : Pt := (P.r (P.r (P.r (P.l (P.l P.h)))))
def g39 : Gt := (G.l (G.l (G.l (G.r (G.l G.h)))))
def p39 : Pt := (P.l (P.l (P.l (P.r (P.l P.h)))))
def g40 : Gt := (G.r (G.l (G.l (G.r (G.l G.h)))))
def p40 : Pt := (P.r (P.l (P.l (P.r (P.l P.h)))))
def g41 : Gt := (G.l (G.r (G.l (G.r (G.l G.h)))))
def p41 : Pt := (P.l (P.r (P.l (P.r (P.l P.h)))))
def g42 : Gt := (G.r (G.r (G.l (G.r (G.l G.h)))))
def p42 : Pt := (P.r (P.r (P.l (P.r (P.l P.h)))))
def g43 : Gt := (G.l (G.l (G.r (G.r (G.l G.h)))))
def p43 : Pt := (P.l (P.l (P.r (P.r (P.l P.h)))))
def g44 : Gt := (G.r (G.l (G.r (G.r (G.l G.h)))))
def p44 : Pt := (P.r (P.l (P.r (P.r (P.l P.h)))))
def g45 : Gt := (G.l (G.r (G.r (G.r (G.l G.h)))))
def p45 : Pt := (P.l (P.r (P.r (P.r (P.l P.h)))))
def g46 : Gt := (G.r (G.r (G.r (G.r (G.l G.h)))))
def p46 : Pt := (P.r (P.r (P.r (P.r (P.l P.h)))))
def g47 : Gt := (G.l (G.l (G.l (G.l (G.r G.h)))))
def p47 : Pt := (P.l (P.l (P.l (P.l (P.r P.h)))))
def g48 : Gt := (G.r (G.l (G.l (G.l (G.r G.h)))))
def p48 : Pt := (P.r (P.l (P.l (P.l (P.r P.h)))))
def g49 : Gt := (G.l (G.r (G.l (G.l (G.r G.h)))))
def p49 : Pt := (P.l (P.r (P.l (P.l (P.r P.h)))))
def g50 : Gt := (G.r (G.r (G.l (G.l (G.r G.h)))))
def p50 : Pt := (P.r (P.r (P.l (P.l (P.r P.h)))))
def g51 : Gt := (G.l (G.l (G.r (G.l (G.r G.h)))))
def p51 : Pt := (P.l (P.l (P.r (P.l (P.r P.h)))))
def g52 : Gt := (G.r (G.l (G.r (G.l (G.r G.h)))))
def p52 : Pt := (P.r (P.l (P.r (P.l (P.r P.h)))))
def g53 : Gt := (G.l (G.r (G.r (G.l (G.r G.h)))))
def p53 : Pt := (P.l (P.r (P.r (P.l (P.r P.h)))))
def g54 : Gt := (G.r (G.r (G.r (G.l (G.r G.h)))))
def p54 : Pt := (P.r (P.r (P.r (P.l (P.r P.h)))))
def g55 : Gt := (G.l (G.l (G.l (G.r (G.r G.h)))))
def p55 : Pt := (P.l (P.l (P.l (P.r (P.r P.h)))))
def g56 : Gt := (G.r (G.l (G.l (G.r (G.r G.h)))))
def p56 : Pt := (P.r (P.l (P.l (P.r (P.r P.h)))))
def g57 : Gt := (G.l (G.r (G.l (G.r (G.r G.h)))))
def p57 : Pt := (P.l (P.r (P.l (P.r (P.r P.h)))))
def g58 : Gt := (G.r (G.r (G.l (G.r (G.r G.h)))))
def p58 : Pt := (P.r (P.r (P.l (P.r (P.r P.h)))))
def g59 : Gt := (G.l (G.l (G.r (G.r (G.r G.h)))))
def p59 : Pt := (P.l (P.l (P.r (P.r (P.r P.h)))))
def g60 : Gt := (G.r (G.l (G.r (G.r (G.r G.h)))))
def p60 : Pt := (P.r (P.l (P.r (P.r (P.r P.h)))))
def g61 : Gt := (G.l (G.r (G.r (G.r (G.r G.h)))))
def p61 : Pt := (P.l (P.r (P.r (P.r (P.r P.h)))))
def g62 : Gt := (G.r (G.r (G.r (G.r (G.r G.h)))))
def p62 : Pt := (P.r (P.r (P.r (P.r (P.r P.h)))))
def g63 : Gt := (G.l (G.l (G.l (G.l (G.l (G.l G.h))))))
def p63 : Pt := (P.l (P.l (P.l (P.l (P.l (P.l P.h))))))
def g64 : Gt := (G.r (G.l (G.l (G.l (G.l (G.l G.h))))))
def p64 : Pt := (P.r (P.l (P.l (P.l (P.l (P.l P.h))))))
def g65 : Gt := (G.l (G.r (G.l (G.l (G.l (G.l G.h))))))
def p65 : Pt := (P.l (P.r (P.l (P.l (P.l (P.l P.h))))))
def g66 : Gt := (G.r (G.r (G.l (G.l (G.l (G.l G.h))))))
def p66 : Pt := (P.r (P.r (P.l (P.l (P.l (P.l P.h))))))
def g67 : Gt := (G.l (G.l (G.r (G.l (G.l (G.l G.h))))))
def p67 : Pt := (P.l (P.l (P.r (P.l (P.l (P.l P.h))))))
def g68 : Gt := (G.r (G.l (G.r (G.l (G.l (G.l G.h))))))
def p68 : Pt := (P.r (P.l (P.r (P.l (P.l (P.l P.h))))))
def g69 : Gt := (G.l (G.r (G.r (G.l (G.l (G.l G.h))))))
def p69 : Pt := (P.l (P.r (P.r (P.l (P.l (P.l P.h))))))
def g70 : Gt := (G.r (G.r (G.r (G.l (G.l (G.l G.h))))))
def p70 : Pt := (P.r (P.r (P.r (P.l (P.l (P.l P.h))))))
def g71 : Gt := (G.l (G.l (G.l (G.r (G.l (G.l G.h))))))
def p71 : Pt := (P.l (P.l (P.l (P.r (P.l (P.l P.h))))))
def g72 : Gt := (G.r (G.l (G.l (G.r (G.l (G.l G.h))))))
def p72 : Pt := (P.r (P.l (P.l (P.r (P.l (P.l P.h))))))
def g73 : Gt := (G.l (G.r (G.l (G.r (G.l (G.l G.h))))))
def p73 : Pt := (P.l (P.r (P.l (P.r (P.l (P.l P.h))))))
def g74 : Gt := (G.r (G.r (G.l (G.r (G.l (G.l G.h))))))
def p74 : Pt := (P.r (P.r (P.l (P.r (P.l (P.l P.h))))))
def g75 : Gt := (G.l (G.l (G.r (G.r (G.l (G.l G.h))))))
def p75 : Pt := (P.l (P.l (P.r (P.r (P.l (P.l P.h))))))
def g76 : Gt := (G.r (G.l (G.r (G.r (G.l (G.l G.h))))))
def p76 : Pt := (P.r (P.l (P.r (P.r (P.l (P.l P.h))))))
def g77 : Gt := (G.l (G.r (G.r (G.r (G.l (G.l G.h))))))
def p77 : Pt := (P.l (P.r (P.r (P.r (P.l (P.l P.h))))))
def g78 : Gt := (G.r (G.r (G.r (G.r (G.l (G.l G.h))))))
def p78 : Pt := (P.r (P.r (P.r (P.r (P.l (P.l P.h))))))
def g79 : Gt := (G.l (G.l (G.l (G.l (G.r (G.l G.h))))))
def p79 : Pt := (P.l (P.l (P.l (P.l (P.r (P.l P.h))))))
def g80 : Gt := (G.r (G.l (G.l (G.l (G.r (G.l G.h))))))
def p80 : Pt := (P.r (P.l (P.l (P.l (P.r (P.l P.h))))))
def g81 : Gt := (G.l (G.r (G.l (G.l (G.r (G.l G.h))))))
def p81 : Pt := (P.l (P.r (P.l (P.l (P.r (P.l P.h))))))
def g82 : Gt := (G.r (G.r (G.l (G.l (G.r (G.l G.h))))))
def p82 : Pt := (P.r (P.r (P.l (P.l (P.r (P.l P.h))))))
def g83 : Gt := (G.l (G.l (G.r (G.l (G.r (G.l G.h))))))
def p83 : Pt := (P.l (P.l (P.r (P.l (P.r (P.l P.h))))))
def g84 : Gt := (G.r (G.l (G.r (G.l (G.r (G.l G.h))))))
def p84 : Pt := (P.r (P.l (P.r (P.l (P.r (P.l P.h))))))
def g85 : Gt := (G.l (G.r (G.r (G.l (G.r (G.l G.h))))))
def p85 : Pt := (P.l (P.r (P.r (P.l (P.r (P.l P.h))))))
def g86 : Gt := (G.r (G.r (G.r (G.l (G.r (G.l G.h))))))
def p86 : Pt := (P.r (P.r (P.r (P.l (P.r (P.l P.h))))))
def g87 : Gt := (G.l (G.l (G.l (G.r (G.r (G.l G.h))))))
def p87 : Pt := (P.l (P.l (P.l (P.r (P.r (P.l P.h))))))
def g88 : Gt := (G.r (G.l (G.l (G.r (G.r (G.l G.h))))))
def p88 : Pt := (P.r (P.l (P.l (P.r (P.r (P.l P.h))))))
def g89 : Gt := (G.l (G.r (G.l (G.r (G.r (G.l G.h))))))
def p89 : Pt := (P.l (P.r (P.l (P.r (P.r (P.l P.h))))))
def g90 : Gt := (G.r (G.r (G.l (G.r (G.r (G.l G.h))))))
def p90 : Pt := (P.r (P.r (P.l (P.r (P.r (P.l P.h))))))
def g91 : Gt := (G.l (G.l (G.r (G.r (G.r (G.l G.h))))))
def p91 : Pt := (P.l (P.l (P.r (P.r (P.r (P.l P.h))))))
def g92 : Gt := (G.r (G.l (G.r (G.r (G.r (G.l G.h))))))
def p92 : Pt := (P.r (P.l (P.r (P.r (P.r (P.l P.h))))))
def g93 : Gt := (G.l (G.r (G.r (G.r (G.r (G.l G.h))))))
def p93 : Pt := (P.l (P.r (P.r (P.r (P.r (P.l P.h))))))
def g94 : Gt := (G.r (G.r (G.r (G.r (G.r (G.l G.h))))))
def p94 : Pt := (P.r (P.r (P.r (P.r (P.r (P.l P.h))))))
def g95 : Gt := (G.l (G.l (G.l (G.l (G.l (G.r G.h))))))
def p95 : Pt := (P.l (P.l (P.l (P.l (P.l (P.r P.h))))))
def g96 : Gt := (G.r (G.l (G.l (G.l (G.l (G.r G.h))))))
def p96 : Pt := (P.r (P.l (P.l (P.l (P.l (P.r P.h))))))
def g97 : Gt := (G.l (G.r (G.l (G.l (G.l (G.r G.h))))))
def p97 : Pt := (P.l (P.r (P.l (P.l (P.l (P.r P.h))))))
def g98 : Gt := (G.r (G.r (G.l (G.l (G.l (G.r G.h))))))
def p98 : Pt := (P.r (P.r (P.l (P.l (P.l (P.r P.h))))))
def g99 : Gt := (G.l (G.l (G.r (G.l (G.l (G.r G.h))))))
def p99 : Pt := (P.l (P.l (P.r (P.l (P.l (P.r P.h))))))
def g100 : Gt := (G.r (G.l (G.r (G.l (G.l (G.r G.h))))))
def p100 : Pt := (P.r (P.l (P.r (P.l (P.l (P.r P.h))))))
def g101 : Gt := (G.l (G.r (G.r (G.l (G.l (G.r G.h))))))
def p101 : Pt := (P.l (P.r (P.r (P.l (P.l (P.r P.h))))))
def g102 : Gt := (G.r (G.r (G.r (G.l (G.l (G.r G.h))))))
def p102 : Pt := (P.r (P.r (P.r (P.l (P.l (P.r P.h))))))
def g103 : Gt := (G.l (G.l (G.l (G.r (G.l (G.r G.h))))))
def p103 : Pt := (P.l (P.l (P.l (P.r (P.l (P.r P.h))))))
def g104 : Gt := (G.r (G.l (G.l (G.r (G.l (G.r G.h))))))
def p104 : Pt := (P.r (P.l (P.l (P.r (P.l (P.r P.h))))))
def g105 : Gt := (G.l (G.r (G.l (G.r (G.l (G.r G.h))))))
def p105 : Pt := (P.l (P.r (P.l (P.r (P.l (P.r P.h))))))
def g106 : Gt := (G.r (G.r (G.l (G.r (G.l (G.r G.h))))))
def p106 : Pt := (P.r (P.r (P.l (P.r (P.l (P.r P.h))))))
def g107 : Gt := (G.l (G.l (G.r (G.r (G.l (G.r G.h))))))
def p107 : Pt := (P.l (P.l (P.r (P.r (P.l (P.r P.h))))))
def g108 : Gt := (G.r (G.l (G.r (G.r (G.l (G.r G.h))))))
def p108 : Pt := (P.r (P.l (P.r (P.r (P.l (P.r P.h))))))
def g109 : Gt := (G.l (G.r (G.r (G.r (G.l (G.r G.h))))))
def p109 : Pt := (P.l (P.r (P.r (P.r (P.l (P.r P.h))))))
def g110 : Gt := (G.r (G.r (G.r (G.r (G.l (G.r G.h))))))
def p110 : Pt := (P.r (P.r (P.r (P.r (P.l (P.r P.h))))))
def g111 : Gt := (G.l (G.l (G.l (G.l (G.r (G.r G.h))))))
def p111 : Pt := (P.l (P.l (P.l (P.l (P.r (P.r P.h))))))
def g112 : Gt := (G.r (G.l (G.l (G.l (G.r (G.r G.h))))))
def p112 : Pt := (P.r (P.l (P.l (P.l (P.r (P.r P.h))))))
def g113 : Gt := (G.l (G.r (G.l (G.l (G.r (G.r G.h))))))
def p113 : Pt := (P.l (P.r (P.l (P.l (P.r (P.r P.h))))))
def g114 : Gt := (G.r (G.r (G.l (G.l (G.r (G.r G.h))))))
def p114 : Pt := (P.r (P.r (P.l (P.l (P.r (P.r P.h))))))
def g115 : Gt := (G.l (G.l (G.r (G.l (G.r (G.r G.h))))))
def p115 : Pt := (P.l (P.l (P.r (P.l (P.r (P.r P.h))))))
def g116 : Gt := (G.r (G.l (G.r (G.l (G.r (G.r G.h))))))
def p116 : Pt := (P.r (P.l (P.r (P.l (P.r (P.r P.h))))))
def g117 : Gt := (G.l (G.r (G.r (G.l (G.r (G.r G.h))))))
def p117 : Pt := (P.l (P.r (P.r (P.l (P.r (P.r P.h))))))
def g118 : Gt := (G.r (G.r (G.r (G.l (G.r (G.r G.h))))))
def p118 : Pt := (P.r (P.r (P.r (P.l (P.r (P.r P.h))))))
def g119 : Gt := (G.l (G.l (G.l (G.r (G.r (G.r G.h))))))
def p119 : Pt := (P.l (P.l (P.l (P.r (P.r (P.r P.h))))))
def g120 : Gt := (G.r (G.l (G.l (G.r (G.r (G.r G.h))))))
def p120 : Pt := (P.r (P.l (P.l (P.r (P.r (P.r P.h))))))
def g121 : Gt := (G.l (G.r (G.l (G.r (G.r (G.r G.h))))))
def p121 : Pt := (P.l (P.r (P.l (P.r (P.r (P.r P.h))))))
def g122 : Gt := (G.r (G.r (G.l (G.r (G.r (G.r G.h))))))
def p122 : Pt := (P.r (P.r (P.l (P.r (P.r (P.r P.h))))))
def g123 : Gt := (G.l (G.l (G.r (G.r (G.r (G.r G.h))))))
def p123 : Pt := (P.l (P.l (P.r (P.r (P.r (P.r P.h))))))
def g124 : Gt := (G.r (G.l (G.r (G.r (G.r (G.r G.h))))))
def p124 : Pt := (P.r (P.l (P.r (P.r (P.r (P.r P.h))))))
def g125 : Gt := (G.l (G.r (G.r (G.r (G.r (G.r G.h))))))
def p125 : Pt := (P.l (P.r (P.r (P.r (P.r (P.r P.h))))))
def g126 : Gt := (G.r (G.r (G.r (G.r (G.r (G.r G.h))))))
def p126 : Pt := (P.r (P.r (P.r (P.r (P.r (P.r P.h))))))
def g127 : Gt := (G.l (G.l (G.l (G.l (G.l (G.l (G.l G.h)))))))
def p127 : Pt := (P.l (P.l (P.l (P.l (P.l (P.l (P.l P.h)))))))
def g128 : Gt := (G.r (G.l (G.l (G.l (G.l (G.l (G.l G.h)))))))
def p128 : Pt := (P.r (P.l (P.l (P.l (P.l (P.l (P.l P.h)))))))
def g129 : Gt := (G.l (G.r (G.l (G.l (G.l (G.l (G.l G.h)))))))
def p129 : Pt := (P.l (P.r (P.l (P.l (P.l (P.l (P.l P.h)))))))
def g130 : Gt := (G.r (G.r (G.l (G.l (G.l (G.l (G.l G.h)))))))
def p130 : Pt := (P.r (P.r (P.l (P.l (P.l (P.l (P.l P.h)))))))
def g131 : Gt := (G.l (G.l (G.r (G.l (G.l (G.l (G.l G.h)))))))
def p131 : Pt := (P.l (P.l (P.r (P.l (P.l (P.l (P.l P.h)))))))
def g132 : Gt := (G.r (G.l (G.r (G.l (G.l (G.l (G.l G.h)))))))
def p132 : Pt := (P.r (P.l (P.r (P.l (P.l (P.l (P.l P.h)))))))
def g133 : Gt := (G.l (G.r (G.r (G.l (G.l (G.l (G.l G.h)))))))
def p133 : Pt := (P.l (P.r (P.r (P.l (P.l (P.l (P.l P.h)))))))
def g134 : Gt := (G.r (G.r (G.r (G.l (G.l (G.l (G.l G.h)))))))
def p134 : Pt := (P.r (P.r (P.r (P.l (P.l (P.l (P.l P.h)))))))
def g135 : Gt := (G.l (G.l (G.l (G.r (G.l (G.l (G.l G.h)))))))
def p135 : Pt := (P.l (P.l (P.l (P.r (P.l (P.l (P.l P.h)))))))
def g136 : Gt := (G.r (G.l (G.l (G.r (G.l (G.l (G.l G.h)))))))
def p136 : Pt := (P.r (P.l (P.l (P.r (P.l (P.l (P.l P.h)))))))
def g137 : Gt := (G.l (G.r (G.l (G.r (G.l (G.l (G.l G.h)))))))
def p137 : Pt := (P.l (P.r (P.l (P.r (P.l (P.l (P.l P.h)))))))
def g138 : Gt := (G.r (G.r (G.l (G.r (G.l (G.l (G.l G.h)))))))
def p138 : Pt := (P.r (P.r (P.l (P.r (P.l (P.l (P.l P.h)))))))
def g139 : Gt := (G.l (G.l (G.r (G.r (G.l (G.l (G.l G.h)))))))
def p139 : Pt := (P.l (P.l (P.r (P.r (P.l (P.l (P.l P.h)))))))
def g140 : Gt := (G.r (G.l (G.r (G.r (G.l (G.l (G.l G.h)))))))
def p140 : Pt := (P.r (P.l (P.r (P.r (P.l (P.l (P.l P.h)))))))
def g141 : Gt := (G.l (G.r (G.r (G.r (G.l (G.l (G.l G.h)))))))
def p141 : Pt := (P.l (P.r (P.r (P.r (P.l (P.l (P.l P.h)))))))
def g142 : Gt := (G.r (G.r (G.r (G.r (G.l (G.l (G.l G.h)))))))
def p142 : Pt := (P.r (P.r (P.r (P.r (P.l (P.l (P.l P.h)))))))
def g143 : Gt := (G.l (G.l (G.l (G.l (G.r (G.l (G.l G.h)))))))
def p143 : Pt := (P.l (P.l (P.l (P.l (P.r (P.l (P.l P.h)))))))
def g144 : Gt := (G.r (G.l (G.l (G.l (G.r (G.l (G.l G.h)))))))
def p144 : Pt := (P.r (P.l (P.l (P.l (P.r (P.l (P.l P.h)))))))
def g145 : Gt := (G.l (G.r (G.l (G.l (G.r (G.l (G.l G.h)))))))
def p145 : Pt := (P.l (P.r (P.l (P.l (P.r (P.l (P.l P.h)))))))
def g146 : Gt := (G.r (G.r (G.l (G.l (G.r (G.l (G.l G.h)))))))
def p146 : Pt := (P.r (P.r (P.l (P.l (P.r (P.l (P.l P.h)))))))
def g147 : Gt := (G.l (G.l (G.r (G.l (G.r (G.l (G.l G.h)))))))
def p147 : Pt := (P.l (P.l (P.r (P.l (P.r (P.l (P.l P.h)))))))
def g148 : Gt := (G.r (G.l (G.r (G.l (G.r (G.l (G.l G.h)))))))
def p148 : Pt := (P.r (P.l (P.r (P.l (P.r (P.l (P.l P.h)))))))
def g149 : Gt := (G.l (G.r (G.r (G.l (G.r (G.l (G.l G.h)))))))
def p149 : Pt := (P.l (P.r (P.r (P.l (P.r (P.l (P.l P.h)))))))
def g150 : Gt := (G.r (G.r (G.r (G.l (G.r (G.l (G.l G.h)))))))
def p150 : Pt := (P.r (P.r (P.r (P.l (P.r (P.l (P.l P.h)))))))
def g151 : Gt := (G.l (G.l (G.l (G.r (G.r (G.l (G.l G.h)))))))
def p151 : Pt := (P.l (P.l (P.l (P.r (P.r (P.l (P.l P.h)))))))
def g152 : Gt := (G.r (G.l (G.l (G.r (G.r (G.l (G.l G.h)))))))
def p152 : Pt := (P.r (P.l (P.l (P.r (P.r (P.l (P.l P.h)))))))
def g153 : Gt := (G.l (G.r (G.l (G.r (G.r (G.l (G.l G.h)))))))
def p153 : Pt := (P.l (P.r (P.l (P.r (P.r (P.l (P.l P.h)))))))
def g154 : Gt := (G.r (G.r (G.l (G.r (G.r (G.l (G.l G.h)))))))
def p154 : Pt := (P.r (P.r (P.l (P.r (P.r (P.l (P.l P.h)))))))
def g155 : Gt := (G.l (G.l (G.r (G.r (G.r (G.l (G.l G.h)))))))
def p155 : Pt := (P.l (P.l (P.r (P.r (P.r (P.l (P.l P.h)))))))
def g156 : Gt := (G.r (G.l (G.r (G.r (G.r (G.l (G.l G.h)))))))
def p156 : Pt := (P.r (P.l (P.r (P.r (P.r (P.l (P.l P.h)))))))
def g157 : Gt := (G.l (G.r (G.r (G.r (G.r (G.l (G.l G.h)))))))
def p157 : Pt := (P.l (P.r (P.r (P.r (P.r (P.l (P.l P.h)))))))
def g158 : Gt := (G.r (G.r (G.r (G.r (G.r (G.l (G.l G.h)))))))
def p158 : Pt := (P.r (P.r (P.r (P.r (P.r (P.l (P.l P.h)))))))
def g159 : Gt := (G.l (G.l (G.l (G.l (G.l (G.r (G.l G.h)))))))
def p159 : Pt := (P.l (P.l (P.l (P.l (P.l (P.r (P.l P.h)))))))
def g160 : Gt := (G.r (G.l (G.l (G.l (G.l (G.r (G.l G.h)))))))
def p160 : Pt := (P.r (P.l (P.l (P.l (P.l (P.r (P.l P.h)))))))
def g161 : Gt := (G.l (G.r (G.l (G.l (G.l (G.r (G.l G.h)))))))
def p161 : Pt := (P.l (P.r (P.l (P.l (P.l (P.r (P.l P.h)))))))
def g162 : Gt := (G.r (G.r (G.l (G.l (G.l (G.r (G.l G.h)))))))
def p162 : Pt := (P.r (P.r (P.l (P.l (P.l (P.r (P.l P.h)))))))
def g163 : Gt := (G.l (G.l (G.r (G.l (G.l (G.r (G.l G.h)))))))
def p163 : Pt := (P.l (P.l (P.r (P.l (P.l (P.r (P.l P.h)))))))
def g164 : Gt := (G.r (G.l (G.r (G.l (G.l (G.r (G.l G.h)))))))
def p164 : Pt := (P.r (P.l (P.r (P.l (P.l (P.r (P.l P.h)))))))
def g165 : Gt := (G.l (G.r (G.r (G.l (G.l (G.r (G.l G.h)))))))
def p165 : Pt := (P.l (P.r (P.r (P.l (P.l (P.r (P.l P.h)))))))
def g166 : Gt := (G.r (G.r (G.r (G.l (G.l (G.r (G.l G.h)))))))
def p166 : Pt := (P.r (P.r (P.r (P.l (P.l (P.r (P.l P.h)))))))
def g167 : Gt := (G.l (G.l (G.l (G.r (G.l (G.r (G.l G.h)))))))
def p167 : Pt := (P.l (P.l (P.l (P.r (P.l (P.r (P.l P.h)))))))
def g168 : Gt := (G.r (G.l (G.l (G.r (G.l (G.r (G.l G.h)))))))
def p168 : Pt := (P.r (P.l (P.l (P.r (P.l (P.r (P.l P.h)))))))
def g169 : Gt := (G.l (G.r (G.l (G.r (G.l (G.r (G.l G.h)))))))
def p169 : Pt := (P.l (P.r (P.l (P.r (P.l (P.r (P.l P.h)))))))
def g170 : Gt := (G.r (G.r (G.l (G.r (G.l (G.r (G.l G.h)))))))
def p170 : Pt := (P.r (P.r (P.l (P.r (P.l (P.r (P.l P.h)))))))
def g171 : Gt := (G.l (G.l (G.r (G.r (G.l (G.r (G.l G.h)))))))
def p171 : Pt := (P.l (P.l (P.r (P.r (P.l (P.r (P.l P.h)))))))
def g172 : Gt := (G.r (G.l (G.r (G.r (G.l (G.r (G.l G.h)))))))
def p172 : Pt := (P.r (P.l (P.r (P.r (P.l (P.r (P.l P.h)))))))
def g173 : Gt := (G.l (G.r (G.r (G.r (G.l (G.r (G.l G.h)))))))
def p173 : Pt := (P.l (P.r (P.r (P.r (P.l (P.r (P.l P.h)))))))
def g174 : Gt := (G.r (G.r (G.r (G.r (G.l (G.r (G.l G.h)))))))
def p174 : Pt := (P.r (P.r (P.r (P.r (P.l (P.r (P.l P.h)))))))
def g175 : Gt := (G.l (G.l (G.l (G.l (G.r (G.r (G.l G.h)))))))
def p175 : Pt := (P.l (P.l (P.l (P.l (P.r (P.r (P.l P.h)))))))
def g176 : Gt := (G.r (G.l (G.l (G.l (G.r (G.r (G.l G.h)))))))
def p176 : Pt := (P.r (P.l (P.l (P.l (P.r (P.r (P.l P.h)))))))
def g177 : Gt := (G.l (G.r (G.l (G.l (G.r (G.r (G.l G.h)))))))
def p177 : Pt := (P.l (P.r (P.l (P.l (P.r (P.r (P.l P.h)))))))
def g178 : Gt := (G.r (G.r (G.l (G.l (G.r (G.r (G.l G.h)))))))
def p178 : Pt := (P.r (P.r (P.l (P.l (P.r (P.r (P.l P.h)))))))
def g179 : Gt := (G.l (G.l (G.r (G.l (G.r (G.r (G.l G.h)))))))
def p179 : Pt := (P.l (P.l (P.r (P.l (P.r (P.r (P.l P.h)))))))
def g180 : Gt := (G.r (G.l (G.r (G.l (G.r (G.r (G.l G.h)))))))
def p180 : Pt := (P.r (P.l (P.r (P.l (P.r (P.r (P.l P.h)))))))
def g181 : Gt := (G.l (G.r (G.r (G.l (G.r (G.r (G.l G.h)))))))
def p181 : Pt := (P.l (P.r (P.r (P.l (P.r (P.r (P.l P.h)))))))
def g182 : Gt := (G.r (G.r (G.r (G.l (G.r (G.r (G.l G.h)))))))
def p182 : Pt := (P.r (P.r (P.r (P.l (P.r (P.r (P.l P.h)))))))
def g183 : Gt := (G.l (G.l (G.l (G.r (G.r (G.r (G.l G.h)))))))
def p183 : Pt := (P.l (P.l (P.l (P.r (P.r (P.r (P.l P.h)))))))
def g184 : Gt := (G.r (G.l (G.l (G.r (G.r (G.r (G.l G.h)))))))
def p184 : Pt := (P.r (P.l (P.l (P.r (P.r (P.r (P.l P.h)))))))
def g185 : Gt := (G.l (G.r (G.l (G.r (G.r (G.r (G.l G.h)))))))
def p185 : Pt := (P.l (P.r (P.l (P.r (P.r (P.r (P.l P.h)))))))
def g186 : Gt := (G.r (G.r (G.l (G.r (G.r (G.r (G.l G.h)))))))
def p186 : Pt := (P.r (P.r (P.l (P.r (P.r (P.r (P.l P.h)))))))
def g187 : Gt := (G.l (G.l (G.r (G.r (G.r (G.r (G.l G.h)))))))
def p187 : Pt := (P.l (P.l (P.r (P.r (P.r (P.r (P.l P.h)))))))
def g188 : Gt := (G.r (G.l (G.r (G.r (G.r (G.r (G.l G.h)))))))
def p188 : Pt := (P.r (P.l (P.r (P.r (P.r (P.r (P.l P.h)))))))
def g189 : Gt := (G.l (G.r (G.r (G.r (G.r (G.r (G.l G.h)))))))
def p189 : Pt := (P.l (P.r (P.r (P.r (P.r (P.r (P.l P.h)))))))
def g190 : Gt := (G.r (G.r (G.r (G.r (G.r (G.r (G.l G.h)))))))
def p190 : Pt := (P.r (P.r (P.r (P.r (P.r (P.r (P.l P.h)))))))
def g191 : Gt := (G.l (G.l (G.l (G.l (G.l (G.l (G.r G.h)))))))
def p191 : Pt := (P.l (P.l (P.l (P.l (P.l (P.l (P.r P.h)))))))
def g192 : Gt := (G.r (G.l (G.l (G.l (G.l (G.l (G.r G.h)))))))
def p192 : Pt := (P.r (P.l (P.l (P.l (P.l (P.l (P.r P.h)))))))
def g193 : Gt := (G.l (G.r (G.l (G.l (G.l (G.l (G.r G.h)))))))
def p193 : Pt := (P.l (P.r (P.l (P.l (P.l (P.l (P.r P.h)))))))
def g194 : Gt := (G.r (G.r (G.l (G.l (G.l (G.l (G.r G.h)))))))
def p194 : Pt := (P.r (P.r (P.l (P.l (P.l (P.l (P.r P.h)))))))
def g195 : Gt := (G.l (G.l (G.r (G.l (G.l (G.l (G.r G.h)))))))
def p195 : Pt := (P.l (P.l (P.r (P.l (P.l (P.l (P.r P.h)))))))
def g196 : Gt := (G.r (G.l (G.r (G.l (G.l (G.l (G.r G.h)))))))
def p196 : Pt := (P.r (P.l (P.r (P.l (P.l (P.l (P.r P.h)))))))
def g197 : Gt := (G.l (G.r (G.r (G.l (G.l (G.l (G.r G.h)))))))
def p197 : Pt := (P.l (P.r (P.r (P.l (P.l (P.l (P.r P.h)))))))
def g198 : Gt := (G.r (G.r (G.r (G.l (G.l (G.l (G.r G.h)))))))
def p198 : Pt := (P.r (P.r (P.r (P.l (P.l (P.l (P.r P.h)))))))
def g199 : Gt := (G.l (G.l (G.l (G.r (G.l (G.l (G.r G.h)))))))
def p199 : Pt := (P.l (P.l (P.l (P.r (P.l (P.l (P.r P.h)))))))
def g200 : Gt := (G.r (G.l (G.l (G.r (G.l (G.l (G.r G.h)))))))
def p200 : Pt := (P.r (P.l (P.l (P.r (P.l (P.l (P.r P.h)))))))
def g201 : Gt := (G.l (G.r (G.l (G.r (G.l (G.l (G.r G.h)))))))
def p201 : Pt := (P.l (P.r (P.l (P.r (P.l (P.l (P.r P.h)))))))
def g202 : Gt := (G.r (G.r (G.l (G.r (G.l (G.l (G.r G.h)))))))
def p202 : Pt := (P.r (P.r (P.l (P.r (P.l (P.l (P.r P.h)))))))
def g203 : Gt := (G.l (G.l (G.r (G.r (G.l (G.l (G.r G.h)))))))
def p203 : Pt := (P.l (P.l (P.r (P.r (P.l (P.l (P.r P.h)))))))
def g204 : Gt := (G.r (G.l (G.r (G.r (G.l (G.l (G.r G.h)))))))
def p204 : Pt := (P.r (P.l (P.r (P.r (P.l (P.l (P.r P.h)))))))
def g205 : Gt := (G.l (G.r (G.r (G.r (G.l (G.l (G.r G.h)))))))
def p205 : Pt := (P.l (P.r (P.r (P.r (P.l (P.l (P.r P.h)))))))
def g206 : Gt := (G.r (G.r (G.r (G.r (G.l (G.l (G.r G.h)))))))
def p206 : Pt := (P.r (P.r (P.r (P.r (P.l (P.l (P.r P.h)))))))
def g207 : Gt := (G.l (G.l (G.l (G.l (G.r (G.l (G.r G.h)))))))
def p207 : Pt := (P.l (P.l (P.l (P.l (P.r (P.l (P.r P.h)))))))
def g208 : Gt := (G.r (G.l (G.l (G.l (G.r (G.l (G.r G.h)))))))
def p208 : Pt := (P.r (P.l (P.l (P.l (P.r (P.l (P.r P.h)))))))
def g209 : Gt := (G.l (G.r (G.l (G.l (G.r (G.l (G.r G.h)))))))
def p209 : Pt := (P.l (P.r (P.l (P.l (P.r (P.l (P.r P.h)))))))
def g210 : Gt := (G.r (G.r (G.l (G.l (G.r (G.l (G.r G.h)))))))
def p210 : Pt := (P.r (P.r (P.l (P.l (P.r (P.l (P.r P.h)))))))
def g211 : Gt := (G.l (G.l (G.r (G.l (G.r (G.l (G.r G.h)))))))
def p211 : Pt := (P.l (P.l (P.r (P.l (P.r (P.l (P.r P.h)))))))
def g212 : Gt := (G.r (G.l (G.r (G.l (G.r (G.l (G.r G.h)))))))
def p212 : Pt := (P.r (P.l (P.r (P.l (P.r (P.l (P.r P.h)))))))
def g213 : Gt := (G.l (G.r (G.r (G.l (G.r (G.l (G.r G.h)))))))
def p213 : Pt := (P.l (P.r (P.r (P.l (P.r (P.l (P.r P.h)))))))
def g214 : Gt := (G.r (G.r (G.r (G.l (G.r (G.l (G.r G.h)))))))
def p214 : Pt := (P.r (P.r (P.r (P.l (P.r (P.l (P.r P.h)))))))
def g215 : Gt := (G.l (G.l (G.l (G.r (G.r (G.l (G.r G.h)))))))
def p215 : Pt := (P.l (P.l (P.l (P.r (P.r (P.l (P.r P.h)))))))
def g216 : Gt := (G.r (G.l (G.l (G.r (G.r (G.l (G.r G.h)))))))
def p216 : Pt := (P.r (P.l (P.l (P.r (P.r (P.l (P.r P.h)))))))
def g217 : Gt := (G.l (G.r (G.l (G.r (G.r (G.l (G.r G.h)))))))
def p217 : Pt := (P.l (P.r (P.l (P.r (P.r (P.l (P.r P.h)))))))
def g218 : Gt := (G.r (G.r (G.l (G.r (G.r (G.l (G.r G.h)))))))
def p218 : Pt := (P.r (P.r (P.l (P.r (P.r (P.l (P.r P.h)))))))
def g219 : Gt := (G.l (G.l (G.r (G.r (G.r (G.l (G.r G.h)))))))
def p219 : Pt := (P.l (P.l (P.r (P.r (P.r (P.l (P.r P.h)))))))
def g220 : Gt := (G.r (G.l (G.r (G.r (G.r (G.l (G.r G.h)))))))
def p220 : Pt := (P.r (P.l (P.r (P.r (P.r (P.l (P.r P.h)))))))
def g221 : Gt := (G.l (G.r (G.r (G.r (G.r (G.l (G.r G.h)))))))
def p221 : Pt := (P.l (P.r (P.r (P.r (P.r (P.l (P.r P.h)))))))
def g222 : Gt := (G.r (G.r (G.r (G.r (G.r (G.l (G.r G.h)))))))
def p222 : Pt := (P.r (P.r (P.r (P.r (P.r (P.l (P.r P.h)))))))
def g223 : Gt := (G.l (G.l (G.l (G.l (G.l (G.r (G.r G.h)))))))
def p223 : Pt := (P.l (P.l (P.l (P.l (P.l (P.r (P.r P.h)))))))
def g224 : Gt := (G.r (G.l (G.l (G.l (G.l (G.r (G.r G.h)))))))
def p224 : Pt := (P.r (P.l (P.l (P.l (P.l (P.r (P.r P.h)))))))
def g225 : Gt := (G.l (G.r (G.l (G.l (G.l (G.r (G.r G.h)))))))
def p225 : Pt := (P.l (P.r (P.l (P.l (P.l (P.r (P.r P.h)))))))
def g226 : Gt := (G.r (G.r (G.l (G.l (G.l (G.r (G.r G.h)))))))
def p226 : Pt := (P.r (P.r (P.l (P.l (P.l (P.r (P.r P.h)))))))
def g227 : Gt := (G.l (G.l (G.r (G.l (G.l (G.r (G.r G.h)))))))
def p227 : Pt := (P.l (P.l (P.r (P.l (P.l (P.r (P.r P.h)))))))
def g228 : Gt := (G.r (G.l (G.r (G.l (G.l (G.r (G.r G.h)))))))
def p228 : Pt := (P.r (P.l (P.r (P.l (P.l (P.r (P.r P.h)))))))
def g229 : Gt := (G.l (G.r (G.r (G.l (G.l (G.r (G.r G.h)))))))
def p229 : Pt := (P.l (P.r (P.r (P.l (P.l (P.r (P.r P.h)))))))
def g230 : Gt := (G.r (G.r (G.r (G.l (G.l (G.r (G.r G.h)))))))
def p230 : Pt := (P.r (P.r (P.r (P.l (P.l (P.r (P.r P.h)))))))
def g231 : Gt := (G.l (G.l (G.l (G.r (G.l (G.r (G.r G.h)))))))
def p231 : Pt := (P.l (P.l (P.l (P.r (P.l (P.r (P.r P.h)))))))
def g232 : Gt := (G.r (G.l (G.l (G.r (G.l (G.r (G.r G.h)))))))
def p232 : Pt := (P.r (P.l (P.l (P.r (P.l (P.r (P.r P.h)))))))
def g233 : Gt := (G.l (G.r (G.l (G.r (G.l (G.r (G.r G.h)))))))
def p233 : Pt := (P.l (P.r (P.l (P.r (P.l (P.r (P.r P.h)))))))
def g234 : Gt := (G.r (G.r (G.l (G.r (G.l (G.r (G.r G.h)))))))
def p234 : Pt := (P.r (P.r (P.l (P.r (P.l (P.r (P.r P.h)))))))
def g235 : Gt := (G.l (G.l (G.r (G.r (G.l (G.r (G.r G.h)))))))
def p235 : Pt := (P.l (P.l (P.r (P.r (P.l (P.r (P.r P.h)))))))
def g236 : Gt := (G.r (G.l (G.r (G.r (G.l (G.r (G.r G.h)))))))
def p236 : Pt := (P.r (P.l (P.r (P.r (P.l (P.r (P.r P.h)))))))
def g237 : Gt := (G.l (G.r (G.r (G.r (G.l (G.r (G.r G.h)))))))
def p237 : Pt := (P.l (P.r (P.r (P.r (P.l (P.r (P.r P.h)))))))
def g238 : Gt := (G.r (G.r (G.r (G.r (G.l (G.r (G.r G.h)))))))
def p238 : Pt := (P.r (P.r (P.r (P.r (P.l (P.r (P.r P.h)))))))
def g239 : Gt := (G.l (G.l (G.l (G.l (G.r (G.r (G.r G.h)))))))
def p239 : Pt := (P.l (P.l (P.l (P.l (P.r (P.r (P.r P.h)))))))
def g240 : Gt := (G.r (G.l (G.l (G.l (G.r (G.r (G.r G.h)))))))
def p240 : Pt := (P.r (P.l (P.l (P.l (P.r (P.r (P.r P.h)))))))
def g241 : Gt := (G.l (G.r (G.l (G.l (G.r (G.r (G.r G.h)))))))
def p241 : Pt := (P.l (P.r (P.l (P.l (P.r (P.r (P.r P.h)))))))
def g242 : Gt := (G.r (G.r (G.l (G.l (G.r (G.r (G.r G.h)))))))
def p242 : Pt := (P.r (P.r (P.l (P.l (P.r (P.r (P.r P.h)))))))
def g243 : Gt := (G.l (G.l (G.r (G.l (G.r (G.r (G.r G.h)))))))
def p243 : Pt := (P.l (P.l (P.r (P.l (P.r (P.r (P.r P.h)))))))
def g244 : Gt := (G.r (G.l (G.r (G.l (G.r (G.r (G.r G.h)))))))
def p244 : Pt := (P.r (P.l (P.r (P.l (P.r (P.r (P.r P.h)))))))
def g245 : Gt := (G.l (G.r (G.r (G.l (G.r (G.r (G.r G.h)))))))
def p245 : Pt := (P.l (P.r (P.r (P.l (P.r (P.r (P.r P.h)))))))
def g246 : Gt := (G.r (G.r (G.r (G.l (G.r (G.r (G.r G.h)))))))
def p246 : Pt := (P.r (P.r (P.r (P.l (P.r (P.r (P.r P.h)))))))
def g247 : Gt := (G.l (G.l (G.l (G.r (G.r (G.r (G.r G.h)))))))
def p247 : Pt := (P.l (P.l (P.l (P.r (P.r (P.r (P.r P.h)))))))
def g248 : Gt := (G.r (G.l (G.l (G.r (G.r (G.r (G.r G.h)))))))
def p248 : Pt := (P.r (P.l (P.l (P.r (P.r (P.r (P.r P.h)))))))
def g249 : Gt := (G.l (G.r (G.l (G.r (G.r (G.r (G.r G.h)))))))
def p249 : Pt := (P.l (P.r (P.l (P.r (P.r (P.r (P.r P.h)))))))
def g250 : Gt := (G.r (G.r (G.l (G.r (G.r (G.r (G.r G.h)))))))
def p250 : Pt := (P.r (P.r (P.l (P.r (P.r (P.r (P.r P.h)))))))
def g251 : Gt := (G.l (G.l (G.r (G.r (G.r (G.r (G.r G.h)))))))
def p251 : Pt := (P.l (P.l (P.r (P.r (P.r (P.r (P.r P.h)))))))
def g252 : Gt := (G.r (G.l (G.r (G.r (G.r (G.r (G.r G.h)))))))
def p252 : Pt := (P.r (P.l (P.r (P.r (P.r (P.r (P.r P.h)))))))
def g253 : Gt := (G.l (G.r (G.r (G.r (G.r (G.r (G.r G.h)))))))
def p253 : Pt := (P.l (P.r (P.r (P.r (P.r (P.r (P.r P.h)))))))
def g254 : Gt := (G.r (G.r (G.r (G.r (G.r (G.r (G.r G.h)))))))
def p254 : Pt := (P.r (P.r (P.r (P.r (P.r (P.r (P.r P.h)))))))
def g255 : Gt := (G.l (G.l (G.l (G.l (G.l (G.l (G.l (G.l G.h))))))))
def p255 : Pt := (P.l (P.l (P.l (P.l (P.l (P.l (P.l (P.l P.h))))))))
def g256 : Gt := (G.r (G.l (G.l (G.l (G.l (G.l (G.l (G.l G.h))))))))
def p256 : Pt := (P.r (P.l (P.l (P.l (P.l (P.l (P.l (P.l P.h))))))))
def g257 : Gt := (G.l (G.r (G.l (G.l (G.l (G.l (G.l (G.l G.h))))))))
def p257 : Pt := (P.l (P.r (P.l (P.l (P.l (P.l (P.l (P.l P.h))))))))
def g258 : Gt := (G.r (G.r (G.l (G.l (G.l (G.l (G.l (G.l G.h))))))))
def p258 : Pt := (P.r (P.r (P.l (P.l (P.l (P.l (P.l (P.l P.h))))))))
def g259 : Gt := (G.l (G.l (G.r (G.l (G.l (G.l (G.l (G.l G.h))))))))
def p259 : Pt := (P.l (P.l (P.r (P.l (P.l (P.l (P.l (P.l P.h))))))))
def g260 : Gt := (G.r (G.l (G.r (G.l (G.l (G.l (G.l (G.l G.h))))))))
def p260 : Pt := (P.r (P.l (P.r (P.l (P.l (P.l (P.l (P.l P.h))))))))
def g261 : Gt := (G.l (G.r (G.r (G.l (G.l (G.l (G.l (G.l G.h))))))))
def p261 : Pt := (P.l (P.r (P.r (P.l (P.l (P.l (P.l (P.l P.h))))))))
def g262 : Gt := (G.r (G.r (G.r (G.l (G.l (G.l (G.l (G.l G.h))))))))
def p262 : Pt := (P.r (P.r (P.r (P.l (P.l (P.l (P.l (P.l P.h))))))))
def g263 : Gt := (G.l (G.l (G.l (G.r (G.l (G.l (G.l (G.l G.h))))))))
def p263 : Pt := (P.l (P.l (P.l (P.r (P.l (P.l (P.l (P.l P.h))))))))
def g264 : Gt := (G.r (G.l (G.l (G.r (G.l (G.l (G.l (G.l G.h))))))))
def p264 : Pt := (P.r (P.l (P.l (P.r (P.l (P.l (P.l (P.l P.h))))))))
def g265 : Gt := (G.l (G.r (G.l (G.r (G.l (G.l (G.l (G.l G.h))))))))
def p265 : Pt := (P.l (P.r (P.l (P.r (P.l (P.l (P.l (P.l P.h))))))))
def g266 : Gt := (G.r (G.r (G.l (G.r (G.l (G.l (G.l (G.l G.h))))))))
def p266 : Pt := (P.r (P.r (P.l (P.r (P.l (P.l (P.l (P.l P.h))))))))
def g267 : Gt := (G.l (G.l (G.r (G.r (G.l (G.l (G.l (G.l G.h))))))))
def p267 : Pt := (P.l (P.l (P.r (P.r (P.l (P.l (P.l (P.l P.h))))))))
def g268 : Gt := (G.r (G.l (G.r (G.r (G.l (G.l (G.l (G.l G.h))))))))
def p268 : Pt := (P.r (P.l (P.r (P.r (P.l (P.l (P.l (P.l P.h))))))))
def g269 : Gt := (G.l (G.r (G.r (G.r (G.l (G.l (G.l (G.l G.h))))))))
def p269 : Pt := (P.l (P.r (P.r (P.r (P.l (P.l (P.l (P.l P.h))))))))
def g270 : Gt := (G.r (G.r (G.r (G.r (G.l (G.l (G.l (G.l G.h))))))))
def p270 : Pt := (P.r (P.r (P.r (P.r (P.l (P.l (P.l (P.l P.h))))))))
def g271 : Gt := (G.l (G.l (G.l (G.l (G.r (G.l (G.l (G.l G.h))))))))
def p271 : Pt := (P.l (P.l (P.l (P.l (P.r (P.l (P.l (P.l P.h))))))))
def g272 : Gt := (G.r (G.l (G.l (G.l (G.r (G.l (G.l (G.l G.h))))))))
def p272 : Pt := (P.r (P.l (P.l (P.l (P.r (P.l (P.l (P.l P.h))))))))
def g273 : Gt := (G.l (G.r (G.l (G.l (G.r (G.l (G.l (G.l G.h))))))))
def p273 : Pt := (P.l (P.r (P.l (P.l (P.r (P.l (P.l (P.l P.h))))))))
def g274 : Gt := (G.r (G.r (G.l (G.l (G.r (G.l (G.l (G.l G.h))))))))
def p274 : Pt := (P.r (P.r (P.l (P.l (P.r (P.l (P.l (P.l P.h))))))))
def g275 : Gt := (G.l (G.l (G.r (G.l (G.r (G.l (G.l (G.l G.h))))))))
def p275 : Pt := (P.l (P.l (P.r (P.l (P.r (P.l (P.l (P.l P.h))))))))
def g276 : Gt := (G.r (G.l (G.r (G.l (G.r (G.l (G.l (G.l G.h))))))))
def p276 : Pt := (P.r (P.l (P.r (P.l (P.r (P.l (P.l (P.l P.h))))))))
def g277 : Gt := (G.l (G.r (G.r (G.l (G.r (G.l (G.l (G.l G.h))))))))
def p277 : Pt := (P.l (P.r (P.r (P.l (P.r (P.l (P.l (P.l P.h))))))))
def g278 : Gt := (G.r (G.r (G.r (G.l (G.r (G.l (G.l (G.l G.h))))))))
def p278 : Pt := (P.r (P.r (P.r (P.l (P.r (P.l (P.l (P.l P.h))))))))
def g279 : Gt := (G.l (G.l (G.l (G.r (G.r (G.l (G.l (G.l G.h))))))))
def p279 : Pt := (P.l (P.l (P.l (P.r (P.r (P.l (P.l (P.l P.h))))))))
def g280 : Gt := (G.r (G.l (G.l (G.r (G.r (G.l (G.l (G.l G.h))))))))
def p280 : Pt := (P.r (P.l (P.l (P.r (P.r (P.l (P.l (P.l P.h))))))))
def g281 : Gt := (G.l (G.r (G.l (G.r (G.r (G.l (G.l (G.l G.h))))))))
def p281 : Pt := (P.l (P.r (P.l (P.r (P.r (P.l (P.l (P.l P.h))))))))
def g282 : Gt := (G.r (G.r (G.l (G.r (G.r (G.l (G.l (G.l G.h))))))))
def p282 : Pt := (P.r (P.r (P.l (P.r (P.r (P.l (P.l (P.l P.h))))))))
def g283 : Gt := (G.l (G.l (G.r (G.r (G.r (G.l (G.l (G.l G.h))))))))
def p283 : Pt := (P.l (P.l (P.r (P.r (P.r (P.l (P.l (P.l P.h))))))))
def g284 : Gt := (G.r (G.l (G.r (G.r (G.r (G.l (G.l (G.l G.h))))))))
def p284 : Pt := (P.r (P.l (P.r (P.r (P.r (P.l (P.l (P.l P.h))))))))
def g285 : Gt := (G.l (G.r (G.r (G.r (G.r (G.l (G.l (G.l G.h))))))))
def p285 : Pt := (P.l (P.r (P.r (P.r (P.r (P.l (P.l (P.l P.h))))))))
def g286 : Gt := (G.r (G.r (G.r (G.r (G.r (G.l (G.l (G.l G.h))))))))
def p286 : Pt := (P.r (P.r (P.r (P.r (P.r (P.l (P.l (P.l P.h))))))))
def g287 : Gt := (G.l (G.l (G.l (G.l (G.l (G.r (G.l (G.l G.h))))))))
def p287 : Pt := (P.l (P.l (P.l (P.l (P.l (P.r (P.l (P.l P.h))))))))
def g288 : Gt := (G.r (G.l (G.l (G.l (G.l (G.r (G.l (G.l G.h))))))))
def p288 : Pt := (P.r (P.l (P.l (P.l (P.l (P.r (P.l (P.l P.h))))))))
def g289 : Gt := (G.l (G.r (G.l (G.l (G.l (G.r (G.l (G.l G.h))))))))
def p289 : Pt := (P.l (P.r (P.l (P.l (P.l (P.r (P.l (P.l P.h))))))))
def g290 : Gt := (G.r (G.r (G.l (G.l (G.l (G.r (G.l (G.l G.h))))))))
def p290 : Pt := (P.r (P.r (P.l (P.l (P.l (P.r (P.l (P.l P.h))))))))
def g291 : Gt := (G.l (G.l (G.r (G.l (G.l (G.r (G.l (G.l G.h))))))))
def p291 : Pt := (P.l (P.l (P.r (P.l (P.l (P.r (P.l (P.l P.h))))))))
def g292 : Gt := (G.r (G.l (G.r (G.l (G.l (G.r (G.l (G.l G.h))))))))
def p292 : Pt := (P.r (P.l (P.r (P.l (P.l (P.r (P.l (P.l P.h))))))))
def g293 : Gt := (G.l (G.r (G.r (G.l (G.l (G.r (G.l (G.l G.h))))))))
def p293 : Pt := (P.l (P.r (P.r (P.l (P.l (P.r (P.l (P.l P.h))))))))
def g294 : Gt := (G.r (G.r (G.r (G.l (G.l (G.r (G.l (G.l G.h))))))))
def p294 : Pt := (P.r (P.r (P.r (P.l (P.l (P.r (P.l (P.l P.h))))))))
def g295 : Gt := (G.l (G.l (G.l (G.r (G.l (G.r (G.l (G.l G.h))))))))
def p295 : Pt := (P.l (P.l (P.l (P.r (P.l (P.r (P.l (P.l P.h))))))))
def g296 : Gt := (G.r (G.l (G.l (G.r (G.l (G.r (G.l (G.l G.h))))))))
def p296 : Pt := (P.r (P.l (P.l (P.r (P.l (P.r (P.l (P.l P.h))))))))
def g297 : Gt := (G.l (G.r (G.l (G.r (G.l (G.r (G.l (G.l G.h))))))))
def p297 : Pt := (P.l (P.r (P.l (P.r (P.l (P.r (P.l (P.l P.h))))))))
def g298 : Gt := (G.r (G.r (G.l (G.r (G.l (G.r (G.l (G.l G.h))))))))
def p298 : Pt := (P.r (P.r (P.l (P.r (P.l (P.r (P.l (P.l P.h))))))))
def g299 : Gt := (G.l (G.l (G.r (G.r (G.l (G.r (G.l (G.l G.h))))))))
def p299 : Pt := (P.l (P.l (P.r (P.r (P.l (P.r (P.l (P.l P.h))))))))
def g300 : Gt := (G.r (G.l (G.r (G.r (G.l (G.r (G.l (G.l G.h))))))))
def p300 : Pt := (P.r (P.l (P.r (P.r (P.l (P.r (P.l (P.l P.h))))))))
def g301 : Gt := (G.l (G.r (G.r (G.r (G.l (G.r (G.l (G.l G.h))))))))
def p301 : Pt := (P.l (P.r (P.r (P.r (P.l (P.r (P.l (P.l P.h))))))))
def g302 : Gt := (G.r (G.r (G.r (G.r (G.l (G.r (G.l (G.l G.h))))))))
def p302 : Pt := (P.r (P.r (P.r (P.r (P.l (P.r (P.l (P.l P.h))))))))
def g303 : Gt := (G.l (G.l (G.l (G.l (G.r (G.r (G.l (G.l G.h))))))))
def p303 : Pt := (P.l (P.l (P.l (P.l (P.r (P.r (P.l (P.l P.h))))))))
def g304 : Gt := (G.r (G.l (G.l (G.l (G.r (G.r (G.l (G.l G.h))))))))
def p304 : Pt := (P.r (P.l (P.l (P.l (P.r (P.r (P.l (P.l P.h))))))))
def g305 : Gt := (G.l (G.r (G.l (G.l (G.r (G.r (G.l (G.l G.h))))))))
def p305 : Pt := (P.l (P.r (P.l (P.l (P.r (P.r (P.l (P.l P.h))))))))
def g306 : Gt := (G.r (G.r (G.l (G.l (G.r (G.r (G.l (G.l G.h))))))))
def p306 : Pt := (P.r (P.r (P.l (P.l (P.r (P.r (P.l (P.l P.h))))))))
def g307 : Gt := (G.l (G.l (G.r (G.l (G.r (G.r (G.l (G.l G.h))))))))
def p307 : Pt := (P.l (P.l (P.r (P.l (P.r (P.r (P.l (P.l P.h))))))))
def g308 : Gt := (G.r (G.l (G.r (G.l (G.r (G.r (G.l (G.l G.h))))))))
def p308 : Pt := (P.r (P.l (P.r (P.l (P.r (P.r (P.l (P.l P.h))))))))
def g309 : Gt := (G.l (G.r (G.r (G.l (G.r (G.r (G.l (G.l G.h))))))))
def p309 : Pt := (P.l (P.r (P.r (P.l (P.r (P.r (P.l (P.l P.h))))))))
def g310 : Gt := (G.r (G.r (G.r (G.l (G.r (G.r (G.l (G.l G.h))))))))
def p310 : Pt := (P.r (P.r (P.r (P.l (P.r (P.r (P.l (P.l P.h))))))))
def g311 : Gt := (G.l (G.l (G.l (G.r (G.r (G.r (G.l (G.l G.h))))))))
def p311 : Pt := (P.l (P.l (P.l (P.r (P.r (P.r (P.l (P.l P.h))))))))
def g312 : Gt := (G.r (G.l (G.l (G.r (G.r (G.r (G.l (G.l G.h))))))))
def p312 : Pt := (P.r (P.l (P.l (P.r (P.r (P.r (P.l (P.l P.h))))))))
def g313 : Gt := (G.l (G.r (G.l (G.r (G.r (G.r (G.l (G.l G.h))))))))
def p313 : Pt := (P.l (P.r (P.l (P.r (P.r (P.r (P.l (P.l P.h))))))))
def g314 : Gt := (G.r (G.r (G.l (G.r (G.r (G.r (G.l (G.l G.h))))))))
def p314 : Pt := (P.r (P.r (P.l (P.r (P.r (P.r (P.l (P.l P.h))))))))
def g315 : Gt := (G.l (G.l (G.r (G.r (G.r (G.r (G.l (G.l G.h))))))))
def p315 : Pt := (P.l (P.l (P.r (P.r (P.r (P.r (P.l (P.l P.h))))))))
def g316 : Gt := (G.r (G.l (G.r (G.r (G.r (G.r (G.l (G.l G.h))))))))
def p316 : Pt := (P.r (P.l (P.r (P.r (P.r (P.r (P.l (P.l P.h))))))))
def g317 : Gt := (G.l (G.r (G.r (G.r (G.r (G.r (G.l (G.l G.h))))))))
def p317 : Pt := (P.l (P.r (P.r (P.r (P.r (P.r (P.l (P.l P.h))))))))
def g318 : Gt := (G.r (G.r (G.r (G.r (G.r (G.r (G.l (G.l G.h))))))))
def p318 : Pt := (P.r (P.r (P.r (P.r (P.r (P.r (P.l (P.l P.h))))))))
def g319 : Gt := (G.l (G.l (G.l (G.l (G.l (G.l (G.r (G.l G.h))))))))
def p319 : Pt := (P.l (P.l (P.l (P.l (P.l (P.l (P.r (P.l P.h))))))))
def g320 : Gt := (G.r (G.l (G.l (G.l (G.l (G.l (G.r (G.l G.h))))))))
def p320 : Pt := (P.r (P.l (P.l (P.l (P.l (P.l (P.r (P.l P.h))))))))
def g321 : Gt := (G.l (G.r (G.l (G.l (G.l (G.l (G.r (G.l G.h))))))))
def p321 : Pt := (P.l (P.r (P.l (P.l (P.l (P.l (P.r (P.l P.h))))))))
def g322 : Gt := (G.r (G.r (G.l (G.l (G.l (G.l (G.r (G.l G.h))))))))
def p322 : Pt := (P.r (P.r (P.l (P.l (P.l (P.l (P.r (P.l P.h))))))))
def g323 : Gt := (G.l (G.l (G.r (G.l (G.l (G.l (G.r (G.l G.h))))))))
def p323 : Pt := (P.l (P.l (P.r (P.l (P.l (P.l (P.r (P.l P.h))))))))
def g324 : Gt := (G.r (G.l (G.r (G.l (G.l (G.l (G.r (G.l G.h))))))))
def p324 : Pt := (P.r (P.l (P.r (P.l (P.l (P.l (P.r (P.l P.h))))))))
def g325 : Gt := (G.l (G.r (G.r (G.l (G.l (G.l (G.r (G.l G.h))))))))
def p325 : Pt := (P.l (P.r (P.r (P.l (P.l (P.l (P.r (P.l P.h))))))))
def g326 : Gt := (G.r (G.r (G.r (G.l (G.l (G.l (G.r (G.l G.h))))))))
def p326 : Pt := (P.r (P.r (P.r (P.l (P.l (P.l (P.r (P.l P.h))))))))
def g327 : Gt := (G.l (G.l (G.l (G.r (G.l (G.l (G.r (G.l G.h))))))))
def p327 : Pt := (P.l (P.l (P.l (P.r (P.l (P.l (P.r (P.l P.h))))))))
def g328 : Gt := (G.r (G.l (G.l (G.r (G.l (G.l (G.r (G.l G.h))))))))
def p328 : Pt := (P.r (P.l (P.l (P.r (P.l (P.l (P.r (P.l P.h))))))))
def g329 : Gt := (G.l (G.r (G.l (G.r (G.l (G.l (G.r (G.l G.h))))))))
def p329 : Pt := (P.l (P.r (P.l (P.r (P.l (P.l (P.r (P.l P.h))))))))
def g330 : Gt := (G.r (G.r (G.l (G.r (G.l (G.l (G.r (G.l G.h))))))))
def p330 : Pt := (P.r (P.r (P.l (P.r (P.l (P.l (P.r (P.l P.h))))))))
def g331 : Gt := (G.l (G.l (G.r (G.r (G.l (G.l (G.r (G.l G.h))))))))
def p331 : Pt := (P.l (P.l (P.r (P.r (P.l (P.l (P.r (P.l P.h))))))))
def g332 : Gt := (G.r (G.l (G.r (G.r (G.l (G.l (G.r (G.l G.h))))))))
def p332 : Pt := (P.r (P.l (P.r (P.r (P.l (P.l (P.r (P.l P.h))))))))
def g333 : Gt := (G.l (G.r (G.r (G.r (G.l (G.l (G.r (G.l G.h))))))))
def p333 : Pt := (P.l (P.r (P.r (P.r (P.l (P.l (P.r (P.l P.h))))))))
def g334 : Gt := (G.r (G.r (G.r (G.r (G.l (G.l (G.r (G.l G.h))))))))
def p334 : Pt := (P.r (P.r (P.r (P.r (P.l (P.l (P.r (P.l P.h))))))))
def g335 : Gt := (G.l (G.l (G.l (G.l (G.r (G.l (G.r (G.l G.h))))))))
def p335 : Pt := (P.l (P.l (P.l (P.l (P.r (P.l (P.r (P.l P.h))))))))
def g336 : Gt := (G.r (G.l (G.l (G.l (G.r (G.l (G.r (G.l G.h))))))))
def p336 : Pt := (P.r (P.l (P.l (P.l (P.r (P.l (P.r (P.l P.h))))))))
def g337 : Gt := (G.l (G.r (G.l (G.l (G.r (G.l (G.r (G.l G.h))))))))
def p337 : Pt := (P.l (P.r (P.l (P.l (P.r (P.l (P.r (P.l P.h))))))))
def g338 : Gt := (G.r (G.r (G.l (G.l (G.r (G.l (G.r (G.l G.h))))))))
def p338 : Pt := (P.r (P.r (P.l (P.l (P.r (P.l (P.r (P.l P.h))))))))
def g339 : Gt := (G.l (G.l (G.r (G.l (G.r (G.l (G.r (G.l G.h))))))))
def p339 : Pt := (P.l (P.l (P.r (P.l (P.r (P.l (P.r (P.l P.h))))))))
def g340 : Gt := (G.r (G.l (G.r (G.l (G.r (G.l (G.r (G.l G.h))))))))
def p340 : Pt := (P.r (P.l (P.r (P.l (P.r (P.l (P.r (P.l P.h))))))))
def g341 : Gt := (G.l (G.r (G.r (G.l (G.r (G.l (G.r (G.l G.h))))))))
def p341 : Pt := (P.l (P.r (P.r (P.l (P.r (P.l (P.r (P.l P.h))))))))
def g342 : Gt := (G.r (G.r (G.r (G.l (G.r (G.l (G.r (G.l G.h))))))))
def p342 : Pt := (P.r (P.r (P.r (P.l (P.r (P.l (P.r (P.l P.h))))))))
def g343 : Gt := (G.l (G.l (G.l (G.r (G.r (G.l (G.r (G.l G.h))))))))
def p343 : Pt := (P.l (P.l (P.l (P.r (P.r (P.l (P.r (P.l P.h))))))))
def g344 : Gt := (G.r (G.l (G.l (G.r (G.r (G.l (G.r (G.l G.h))))))))
def p344 : Pt := (P.r (P.l (P.l (P.r (P.r (P.l (P.r (P.l P.h))))))))
def g345 : Gt := (G.l (G.r (G.l (G.r (G.r (G.l (G.r (G.l G.h))))))))
def p345 : Pt := (P.l (P.r (P.l (P.r (P.r (P.l (P.r (P.l P.h))))))))
def g346 : Gt := (G.r (G.r (G.l (G.r (G.r (G.l (G.r (G.l G.h))))))))
def p346 : Pt := (P.r (P.r (P.l (P.r (P.r (P.l (P.r (P.l P.h))))))))
def g347 : Gt := (G.l (G.l (G.r (G.r (G.r (G.l (G.r (G.l G.h))))))))
def p347 : Pt := (P.l (P.l (P.r (P.r (P.r (P.l (P.r (P.l P.h))))))))
def g348 : Gt := (G.r (G.l (G.r (G.r (G.r (G.l (G.r (G.l G.h))))))))
def p348 : Pt := (P.r (P.l (P.r (P.r (P.r (P.l (P.r (P.l P.h))))))))
def g349 : Gt := (G.l (G.r (G.r (G.r (G.r (G.l (G.r (G.l G.h))))))))
def p349 : Pt := (P.l (P.r (P.r (P.r (P.r (P.l (P.r (P.l P.h))))))))
def g350 : Gt := (G.r (G.r (G.r (G.r (G.r (G.l (G.r (G.l G.h))))))))
def p350 : Pt := (P.r (P.r (P.r (P.r (P.r (P.l (P.r (P.l P.h))))))))
def g351 : Gt := (G.l (G.l (G.l (G.l (G.l (G.r (G.r (G.l G.h))))))))
def p351 : Pt := (P.l (P.l (P.l (P.l (P.l (P.r (P.r (P.l P.h))))))))
def g352 : Gt := (G.r (G.l (G.l (G.l (G.l (G.r (G.r (G.l G.h))))))))
def p352 : Pt := (P.r (P.l (P.l (P.l (P.l (P.r (P.r (P.l P.h))))))))
def g353 : Gt := (G.l (G.r (G.l (G.l (G.l (G.r (G.r (G.l G.h))))))))
def p353 : Pt := (P.l (P.r (P.l (P.l (P.l (P.r (P.r (P.l P.h))))))))
def g354 : Gt := (G.r (G.r (G.l (G.l (G.l (G.r (G.r (G.l G.h))))))))
def p354 : Pt := (P.r (P.r (P.l (P.l (P.l (P.r (P.r (P.l P.h))))))))
def g355 : Gt := (G.l (G.l (G.r (G.l (G.l (G.r (G.r (G.l G.h))))))))
def p355 : Pt := (P.l (P.l (P.r (P.l (P.l (P.r (P.r (P.l P.h))))))))
def g356 : Gt := (G.r (G.l (G.r (G.l (G.l (G.r (G.r (G.l G.h))))))))
def p356 : Pt := (P.r (P.l (P.r (P.l (P.l (P.r (P.r (P.l P.h))))))))
def g357 : Gt := (G.l (G.r (G.r (G.l (G.l (G.r (G.r (G.l G.h))))))))
def p357 : Pt := (P.l (P.r (P.r (P.l (P.l (P.r (P.r (P.l P.h))))))))
def g358 : Gt := (G.r (G.r (G.r (G.l (G.l (G.r (G.r (G.l G.h))))))))
def p358 : Pt := (P.r (P.r (P.r (P.l (P.l (P.r (P.r (P.l P.h))))))))
def g359 : Gt := (G.l (G.l (G.l (G.r (G.l (G.r (G.r (G.l G.h))))))))
def p359 : Pt := (P.l (P.l (P.l (P.r (P.l (P.r (P.r (P.l P.h))))))))
def g360 : Gt := (G.r (G.l (G.l (G.r (G.l (G.r (G.r (G.l G.h))))))))
def p360 : Pt := (P.r (P.l (P.l (P.r (P.l (P.r (P.r (P.l P.h))))))))
def g361 : Gt := (G.l (G.r (G.l (G.r (G.l (G.r (G.r (G.l G.h))))))))
def p361 : Pt := (P.l (P.r (P.l (P.r (P.l (P.r (P.r (P.l P.h))))))))
def g362 : Gt := (G.r (G.r (G.l (G.r (G.l (G.r (G.r (G.l G.h))))))))
def p362 : Pt := (P.r (P.r (P.l (P.r (P.l (P.r (P.r (P.l P.h))))))))
def g363 : Gt := (G.l (G.l (G.r (G.r (G.l (G.r (G.r (G.l G.h))))))))
def p363 : Pt := (P.l (P.l (P.r (P.r (P.l (P.r (P.r (P.l P.h))))))))
def g364 : Gt := (G.r (G.l (G.r (G.r (G.l (G.r (G.r (G.l G.h))))))))
def p364 : Pt := (P.r (P.l (P.r (P.r (P.l (P.r (P.r (P.l P.h))))))))
def g365 : Gt := (G.l (G.r (G.r (G.r (G.l (G.r (G.r (G.l G.h))))))))
def p365 : Pt := (P.l (P.r (P.r (P.r (P.l (P.r (P.r (P.l P.h))))))))
def g366 : Gt := (G.r (G.r (G.r (G.r (G.l (G.r (G.r (G.l G.h))))))))
def p366 : Pt := (P.r (P.r (P.r (P.r (P.l (P.r (P.r (P.l P.h))))))))
def g367 : Gt := (G.l (G.l (G.l (G.l (G.r (G.r (G.r (G.l G.h))))))))
def p367 : Pt := (P.l (P.l (P.l (P.l (P.r (P.r (P.r (P.l P.h))))))))
def g368 : Gt := (G.r (G.l (G.l (G.l (G.r (G.r (G.r (G.l G.h))))))))
def p368 : Pt := (P.r (P.l (P.l (P.l (P.r (P.r (P.r (P.l P.h))))))))
def g369 : Gt := (G.l (G.r (G.l (G.l (G.r (G.r (G.r (G.l G.h))))))))
def p369 : Pt := (P.l (P.r (P.l (P.l (P.r (P.r (P.r (P.l P.h))))))))
def g370 : Gt := (G.r (G.r (G.l (G.l (G.r (G.r (G.r (G.l G.h))))))))
def p370 : Pt := (P.r (P.r (P.l (P.l (P.r (P.r (P.r (P.l P.h))))))))
def g371 : Gt := (G.l (G.l (G.r (G.l (G.r (G.r (G.r (G.l G.h))))))))
def p371 : Pt := (P.l (P.l (P.r (P.l (P.r (P.r (P.r (P.l P.h))))))))
def g372 : Gt := (G.r (G.l (G.r (G.l (G.r (G.r (G.r (G.l G.h))))))))
def p372 : Pt := (P.r (P.l (P.r (P.l (P.r (P.r (P.r (P.l P.h))))))))
def g373 : Gt := (G.l (G.r (G.r (G.l (G.r (G.r (G.r (G.l G.h))))))))
def p373 : Pt := (P.l (P.r (P.r (P.l (P.r (P.r (P.r (P.l P.h))))))))
def g374 : Gt := (G.r (G.r (G.r (G.l (G.r (G.r (G.r (G.l G.h))))))))
def p374 : Pt := (P.r (P.r (P.r (P.l (P.r (P.r (P.r (P.l P.h))))))))
def g375 : Gt := (G.l (G.l (G.l (G.r (G.r (G.r (G.r (G.l G.h))))))))
def p375 : Pt := (P.l (P.l (P.l (P.r (P.r (P.r (P.r (P.l P.h))))))))
def g376 : Gt := (G.r (G.l (G.l (G.r (G.r (G.r (G.r (G.l G.h))))))))
def p376 : Pt := (P.r (P.l (P.l (P.r (P.r (P.r (P.r (P.l P.h))))))))
def g377 : Gt := (G.l (G.r (G.l (G.r (G.r (G.r (G.r (G.l G.h))))))))
def p377 : Pt := (P.l (P.r (P.l (P.r (P.r (P.r (P.r (P.l P.h))))))))
def g378 : Gt := (G.r (G.r (G.l (G.r (G.r (G.r (G.r (G.l G.h))))))))
def p378 : Pt := (P.r (P.r (P.l (P.r (P.r (P.r (P.r (P.l P.h))))))))
def g379 : Gt := (G.l (G.l (G.r (G.r (G.r (G.r (G.r (G.l G.h))))))))
def p379 : Pt := (P.l (P.l (P.r (P.r (P.r (P.r (P.r (P.l P.h))))))))
def g380 : Gt := (G.r (G.l (G.r (G.r (G.r (G.r (G.r (G.l G.h))))))))
def p380 : Pt := (P.r (P.l (P.r (P.r (P.r (P.r (P.r (P.l P.h))))))))
def g381 : Gt := (G.l (G.r (G.r (G.r (G.r (G.r (G.r (G.l G.h))))))))
def p381 : Pt := (P.l (P.r (P.r (P.r (P.r (P.r (P.r (P.l P.h))))))))
def g382 : Gt := (G.r (G.r (G.r (G.r (G.r (G.r (G.r (G.l G.h))))))))
def p382 : Pt := (P.r (P.r (P.r (P.r (P.r (P.r (P.r (P.l P.h))))))))
def g383 : Gt := (G.l (G.l (G.l (G.l (G.l (G.l (G.l (G.r G.h))))))))
def p383 : Pt := (P.l (P.l (P.l (P.l (P.l (P.l (P.l (P.r P.h))))))))
def g384 : Gt := (G.r (G.l (G.l (G.l (G.l (G.l (G.l (G.r G.h))))))))
def p384 : Pt := (P.r (P.l (P.l (P.l (P.l (P.l (P.l (P.r P.h))))))))
def g385 : Gt := (G.l (G.r (G.l (G.l (G.l (G.l (G.l (G.r G.h))))))))
def p385 : Pt := (P.l (P.r (P.l (P.l (P.l (P.l (P.l (P.r P.h))))))))
def g386 : Gt := (G.r (G.r (G.l (G.l (G.l (G.l (G.l (G.r G.h))))))))
def p386 : Pt := (P.r (P.r (P.l (P.l (P.l (P.l (P.l (P.r P.h))))))))
def g387 : Gt := (G.l (G.l (G.r (G.l (G.l (G.l (G.l (G.r G.h))))))))
def p387 : Pt := (P.l (P.l (P.r (P.l (P.l (P.l (P.l (P.r P.h))))))))
def g388 : Gt := (G.r (G.l (G.r (G.l (G.l (G.l (G.l (G.r G.h))))))))
def p388 : Pt := (P.r (P.l (P.r (P.l (P.l (P.l (P.l (P.r P.h))))))))
def g389 : Gt := (G.l (G.r (G.r (G.l (G.l (G.l (G.l (G.r G.h))))))))
def p389 : Pt := (P.l (P.r (P.r (P.l (P.l (P.l (P.l (P.r P.h))))))))
def g390 : Gt := (G.r (G.r (G.r (G.l (G.l (G.l (G.l (G.r G.h))))))))
def p390 : Pt := (P.r (P.r (P.r (P.l (P.l (P.l (P.l (P.r P.h))))))))
def g391 : Gt := (G.l (G.l (G.l (G.r (G.l (G.l (G.l (G.r G.h))))))))
def p391 : Pt := (P.l (P.l (P.l (P.r (P.l (P.l (P.l (P.r P.h))))))))
def g392 : Gt := (G.r (G.l (G.l (G.r (G.l (G.l (G.l (G.r G.h))))))))
def p392 : Pt := (P.r (P.l (P.l (P.r (P.l (P.l (P.l (P.r P.h))))))))
def g393 : Gt := (G.l (G.r (G.l (G.r (G.l (G.l (G.l (G.r G.h))))))))
def p393 : Pt := (P.l (P.r (P.l (P.r (P.l (P.l (P.l (P.r P.h))))))))
def g394 : Gt := (G.r (G.r (G.l (G.r (G.l (G.l (G.l (G.r G.h))))))))
def p394 : Pt := (P.r (P.r (P.l (P.r (P.l (P.l (P.l (P.r P.h))))))))
def g395 : Gt := (G.l (G.l (G.r (G.r (G.l (G.l (G.l (G.r G.h))))))))
def p395 : Pt := (P.l (P.l (P.r (P.r (P.l (P.l (P.l (P.r P.h))))))))
def g396 : Gt := (G.r (G.l (G.r (G.r (G.l (G.l (G.l (G.r G.h))))))))
def p396 : Pt := (P.r (P.l (P.r (P.r (P.l (P.l (P.l (P.r P.h))))))))
def g397 : Gt := (G.l (G.r (G.r (G.r (G.l (G.l (G.l (G.r G.h))))))))
def p397 : Pt := (P.l (P.r (P.r (P.r (P.l (P.l (P.l (P.r P.h))))))))
def g398 : Gt := (G.r (G.r (G.r (G.r (G.l (G.l (G.l (G.r G.h))))))))
def p398 : Pt := (P.r (P.r (P.r (P.r (P.l (P.l (P.l (P.r P.h))))))))
def g399 : Gt := (G.l (G.l (G.l (G.l (G.r (G.l (G.l (G.r G.h))))))))
def p399 : Pt := (P.l (P.l (P.l (P.l (P.r (P.l (P.l (P.r P.h))))))))
end Go.Sv
