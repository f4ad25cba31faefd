/- The law's run. No conditions.
-/
import Derived.Test.YtepeiijjldpcpaaGreatSvYn
set_option linter.all false
namespace Go.Sv.C
open Go.Sv Go.Proofs Go.Fl

/-- Behind no step nothing is asked. -/
def nowk (kk : Nat) : Nat :=
  match kk with
  | 0 => 1
  | k + 1 => Nat.succ k

noncomputable def ovLaw (nm : Nat → Nat) (a b c kk : Nat) : CallF :=
  ovAdd 4 (rowLen a b c) (ovAdd 5 (rowWaved false nm a b c) (ovAdd 22 (rowCheck a b c) (ovElse 23 (rowStay a b c) (ovAdd 23 (rowCharge a b c) (ovAdd 11 (rowNow a b c (nowk kk)) (ovAdd 7 (rowAbsL (mul3 a b c)) (ovAdd 10 rowPart (ovAdd 12 (rowList a b c [.agg [z64 0, z64 0, z64 0]]) ov1))))))))

noncomputable def ovLawZ (nm : Nat → Nat) (a b c : Nat) : CallF :=
  ovAdd 4 (rowLen a b c) (ovAdd 5 (rowWaved true nm a b c) (ovAdd 38 (rowList a b c []) ov1))

noncomputable def lawRun (nm : Nat → Nat) (a b c kk : Nat) (x y z st lv : Int) : Option (AT × AH) :=
  evFQ envQ (ovLaw nm a b c kk) 2000 3 [.agg [.si .u8 x (.at 0), .si .u8 y (.at 1), .si .u8 z (.at 2)], .c (.arg 0), .c (.arg 1), .c (.si .u8 st (.md 6 kk)), .c (.si .i8 lv (.lev 150))] bare

noncomputable def lawZRun (nm : Nat → Nat) (a b c : Nat) (x y z st lv : Int) : Option (AT × AH) :=
  evFQ envQ (ovLawZ nm a b c) 2000 3 [.agg [.si .u8 x (.at 0), .si .u8 y (.at 1), .si .u8 z (.at 2)], .c (.arg 0), .c (.arg 1), .c (.si .u8 st .byt), .c (.si .i8 lv (.lev 150))] bare

/-- What the runs of the law tell. -/
structure LawOKs (a b c : Nat) : Prop where
  run : ∀ kk, kk < 6 → ∀ nm x y z st lv, isTrue (lawRun nm a b c kk x y z st lv) = true
  zero : ∀ nm x y z st lv, isTrue (lawZRun nm a b c x y z st lv) = true

end Go.Sv.C

namespace Go.Sv.C

/-- All runs of a shape. -/
structure AllOK (a b c : Nat) : Prop where
  base : Base a b c
  check : CheckOK a b c
  waved : WavedOK a b c
  law : LawOKs a b c

theorem six {p : Nat → Prop} (h0 : p 0) (h1 : p 1) (h2 : p 2) (h3 : p 3) (h4 : p 4) (h5 : p 5) : ∀ k, k < 6 → p k := fun k h =>
  match k, h with
  | 0, _ => h0
  | 1, _ => h1
  | 2, _ => h2
  | 3, _ => h3
  | 4, _ => h4
  | 5, _ => h5

end Go.Sv.C

namespace Go.Sv.C
section
variable (a b c : Nat)
abbrev RuF : Prop := ∀ v u, chainF a b c v u = true
abbrev RuG : Prop := ∀ v u, chainG a b c v u = true
abbrev RuZ : Prop := ∀ x y, fine (friedelRun a b c x y 5) = true
abbrev RuP : Prop := ∀ x y, fine (friedelRun a b c x y 7) = true
abbrev RuN : Prop := ∀ x y, fine (friedelRun a b c x y 8) = true
abbrev RuO : Prop := fine (listRun a b c 38 []) = true
abbrev RuI : Prop := fine (listRun a b c 12 [.agg [z64 0, z64 0, z64 0]]) = true
abbrev RuS : Prop := ∀ wv dv, stayOut a b c (stayRun a b c wv dv) = some (upto (nth (stayL a b c wv dv)) (mul3 a b c) 0)
abbrev RuC : Prop := ∀ wv gv lv, (chargeOut a b c (chargeRun a b c wv gv lv)).map (·.1) = some (upto (nth (stepL a b c wv gv lv)) (mul3 a b c) 0)
abbrev RuK : Prop := ∀ wv lv n, isInt0 (checkRun a b c wv (.s lv KL) n) = true
abbrev RuL : Prop := ∀ wv n, isInt0 (checkRun a b c wv (.f low) n) = true
abbrev RuW : Prop := zeroChk a b c (zeroRun a b c) = true
abbrev RuX : Prop := ∀ n e, wavedOut a b c (wavedRun a b c (.xs 0 0 n e) (rawH 0)) = some (elBits e (mul3 a b c) 0, upto (nth (wavesL a b c (reals (elB e) (mul3 a b c) 0))) (mul3 a b c) 0)
abbrev RuY : Prop := ∀ n e, wavedZ a b c (wavedRun a b c (.xs 0 (Nat.add 2 (mul3 a b c)) n e) (rawH (Nat.add 2 (mul3 a b c)))) = true
abbrev RuU : Prop := wavedZ a b c (wavedRun a b c .nils bare) = true
abbrev RuV : Prop := ∀ o, wavedZ a b c (wavedRun a b c (.sl 0 o 0 none) noneH) = true
abbrev RuT (kk : Nat) : Prop := ∀ nm x y z st lv, isTrue (lawRun nm a b c kk x y z st lv) = true
abbrev RuQ : Prop := ∀ nm x y z st lv, isTrue (lawZRun nm a b c x y z st lv) = true
end

theorem all_of {a b c : Nat} (f : RuF a b c) (g : RuG a b c) (z : RuZ a b c) (p : RuP a b c) (n : RuN a b c) (o : RuO a b c) (i : RuI a b c) (s : RuS a b c) (q : RuC a b c) (k : RuK a b c) (l : RuL a b c) (w : RuW a b c) (x : RuX a b c) (y : RuY a b c) (u : RuU a b c) (v : RuV a b c)
    (t0 : RuT a b c 0) (t1 : RuT a b c 1) (t2 : RuT a b c 2) (t3 : RuT a b c 3) (t4 : RuT a b c 4) (t5 : RuT a b c 5) (e : RuQ a b c) : AllOK a b c :=
  ⟨⟨⟨f, g⟩, ⟨z, p, n⟩, o, i, ⟨s, q⟩⟩, ⟨k, l⟩, ⟨w, x, y, u, v⟩, ⟨six t0 t1 t2 t3 t4 t5, e⟩⟩

end Go.Sv.C
