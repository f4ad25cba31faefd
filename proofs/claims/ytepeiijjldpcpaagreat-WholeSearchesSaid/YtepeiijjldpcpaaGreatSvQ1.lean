/- The threaded code is the evaluator; small memories. No conditions.
-/
import Derived.Test.YtepeiijjldpcpaaGreatSvQg
import Derived.Test.YtepeiijjldpcpaaGreatSvS
set_option linter.all false
namespace Go.Sv
variable [gi : GoodC]

theorem pathG_eq : ∀ (k i : Nat) (T : Tr AT), i < k → pathG k i T = T.get i
  | 0, _, _, h => absurd h (Nat.not_lt_zero _)
  | k + 1, 0, T, _ => by cases T <;> rfl
  | k + 1, i + 1, T, h => by
    have hi : Nat.div i 2 < k := by have : Nat.div i 2 = i / 2 := rfl; omega
    simp only [pathG]
    cases hb : Nat.beq (Nat.mod i 2) 0
    · rw [cond_false]
      cases T with
      | nil => rfl
      | node v l r => simp only [G.r, Tr.get, hb, cond_false]; exact pathG_eq k _ r hi
    · rw [cond_true]
      cases T with
      | nil => rfl
      | node v l r => simp only [G.l, Tr.get, hb, cond_true]; exact pathG_eq k _ l hi

theorem gOf_eq (i : Nat) (T : Tr AT) : gOf i T = T.get i := pathG_eq _ _ _ (Nat.lt_succ_self i)

theorem pathP_eq (x : Option AT) : ∀ (k i : Nat) (T : Tr AT) (K : Tr AT → Out), pathP k i x T K = K (Tr.set k T i x)
  | 0, _, _, _ => rfl
  | k + 1, 0, T, K => by cases T <;> rfl
  | k + 1, i + 1, T, K => by
    simp only [pathP]
    cases hb : Nat.beq (Nat.mod i 2) 0
    · rw [cond_false]
      cases T with
      | nil => simp only [P.r, Tr.set, hb, cond_false]; exact pathP_eq x k _ _ _
      | node v l r => simp only [P.r, Tr.set, hb, cond_false]; exact pathP_eq x k _ _ _
    · rw [cond_true]
      cases T with
      | nil => simp only [P.l, Tr.set, hb, cond_true]; exact pathP_eq x k _ _ _
      | node v l r => simp only [P.l, Tr.set, hb, cond_true]; exact pathP_eq x k _ _ _

theorem pOf_eq (i : Nat) (x : Option AT) (T : Tr AT) (K : Tr AT → Out) : pOf i x T K = K (T.put i x) := pathP_eq x _ _ _ _

theorem qC_eq (x : AOpnd) : qC x = fun T => x.evC T := by
  funext T
  cases x with
  | tmp t => simp only [qC, C.t, AOpnd.evC, AOpnd.ev, gOf_eq]; rfl
  | const x =>
    cases x with
    | tup xs => rfl
    | v x => cases x <;> rfl

theorem qV_eq (x : AOpnd) : qV x = fun T => x.evV T := by
  funext T
  cases x with
  | tmp t => simp only [qV, V.t, AOpnd.evV, AOpnd.ev, gOf_eq]; rfl
  | const x => cases x <;> rfl

theorem qT_eq (x : AOpnd) : qT x = fun T => x.ev T := by
  funext T
  cases x with
  | tmp t => simp only [qT, AOpnd.ev, gOf_eq]
  | const x => rfl

theorem fzQ_eq (r : QRun) : fzQ r = r := by
  funext callf T H
  unfold fzQ
  cases r callf T H with
  | none => rfl
  | some p => simp only [fzT_eq]

theorem fzA_eq (x : Option AC) (H : AH) : fzA x H = some1 H x := by
  cases x <;> simp [fzA, some1, fzC_eq, mk1]

theorem ltI_eq (a b : Int) : ltI a b = decide (a < b) := by
  cases a with
  | ofNat m =>
    cases b with
    | ofNat n =>
      have h : ((Int.ofNat m < Int.ofNat n) ↔ Nat.succ m ≤ n) := Int.ofNat_lt
      show Nat.ble (Nat.succ m) n = _
      by_cases hh : Nat.succ m ≤ n
      · rw [Nat.ble_eq_true_of_le hh, decide_eq_true (h.2 hh)]
      · rw [decide_eq_false (fun g => hh (h.1 g))]
        cases hb : Nat.ble (Nat.succ m) n
        · rfl
        · exact absurd (Nat.le_of_ble_eq_true hb) hh
    | negSucc n => exact (decide_eq_false (by have : (Int.ofNat m : Int) = (m : Int) := rfl; omega)).symm
  | negSucc m =>
    cases b with
    | ofNat n => exact (decide_eq_true (by have : (Int.ofNat n : Int) = (n : Int) := rfl; omega)).symm
    | negSucc n =>
      show Nat.ble (Nat.succ n) m = _
      by_cases hh : Nat.succ n ≤ m
      · rw [Nat.ble_eq_true_of_le hh, decide_eq_true (by omega)]
      · rw [decide_eq_false (by omega)]
        cases hb : Nat.ble (Nat.succ n) m
        · rfl
        · exact absurd (Nat.le_of_ble_eq_true hb) hh

theorem eqI_eq (a b : Int) : eqI a b = (a == b) := by
  have key : ∀ (m n : Nat) (x : Bool), (m = n ↔ x = true) → Nat.beq m n = x := fun m n x h => by
    cases hb : Nat.beq m n
    · cases x
      · rfl
      · have := h.2 rfl; subst this; simp at hb
    · exact (h.1 (Nat.eq_of_beq_eq_true hb)).symm
  cases a with
  | ofNat m =>
    cases b with
    | ofNat n => exact key m n _ ⟨fun h => by subst h; exact beq_self_eq_true _, fun h => Int.ofNat.inj (eq_of_beq h)⟩
    | negSucc n => rfl
  | negSucc m =>
    cases b with
    | ofNat n => rfl
    | negSucc n => exact key n m _ ⟨fun h => by subst h; exact beq_self_eq_true _, fun h => (Int.negSucc.inj (eq_of_beq h)).symm⟩

theorem sameK_eq (a b : IntKind) : sameK a b = decide (a = b) := by
  cases a <;> first | rfl | (cases b <;> rfl)

theorem okI_eq (k : IntKind) (n : Int) (H : AH) : okI k n H = some (mk1 (.int k (k.wrap n)), H) := by
  unfold okI
  split
  · split
    · rename_i m
      cases hb : Nat.ble m 0x7fffffffffffffff
      · rw [cond_false, fzI_eq]; rfl
      · have hle := Nat.le_of_ble_eq_true hb
        have hw : IntKind.i64.wrap (Int.ofNat m) = Int.ofNat m := by
          have h0 : (0 : Int) ≤ Int.ofNat m := Int.natCast_nonneg m
          have h1 : Int.ofNat m < 2 ^ 63 := by
            have : (Int.ofNat m : Int) = (m : Int) := rfl
            omega
          simp only [IntKind.wrap, IntKind.signed, IntKind.bits]
          have h2 : Int.ofNat m % (2 ^ 64 : Int) = Int.ofNat m := Int.emod_eq_of_lt h0 (by omega)
          have h3 : ¬ Int.ofNat m ≥ (2 ^ (64 - 1) : Int) := by omega
          simp only [h2, h3, decide_false, Bool.and_false]
          rfl
        rw [cond_true, fz_eq, hw]; rfl
    · rw [fzI_eq]; rfl
  · rw [fzI_eq]; rfl

theorem gI_eq {op : BinOp} {f : IntKind → Int → Int → AH → Option (AT × AH)} (hf : ∀ k m n H, f k m n H = some1 H (binC op (.int k m) (.int k n)))
    (hne : ∀ k k' m n, k ≠ k' → binC op (.int k m) (.int k' n) = none) (x y : Ec) : gI op f x y = q_bin op x y := by
  funext callf T H
  unfold gI q_bin
  cases hx : x T with
  | none => rfl
  | some a =>
    cases hy : y T with
    | none => rfl
    | some b =>
      simp only [fzA_eq]
      cases a <;> first | rfl | skip
      cases b <;> first | rfl | skip
      rename_i k m k' n
      simp only [sameK_eq]
      by_cases h : k = k'
      · subst h
        simp only [decide_true, cond_true]
        exact hf k m n H
      · simp only [h, decide_false, cond_false, hne k k' m n h, some1]

theorem binC_int (op : BinOp) (h : (match op with | .shl | .shr => False | _ => True)) (k k' : IntKind) (m n : Int) : binC op (.int k m) (.int k' n) = if k = k' then (match icmp op m n with | some r => some (.bool r) | none => (match iarith op k m n with | some r => some (.int k r) | none => none)) else none := by
  cases op <;> first | (exact absurd h id) | rfl

theorem qBin_eq (op : BinOp) (x y : Ec) : qBin op x y = q_bin op x y := by
  have ne : ∀ op, (match op with | .shl | .shr => False | _ => True) → ∀ k k' m n, k ≠ k' → binC op (.int k m) (.int k' n) = none := fun op h k k' m n hk => by rw [binC_int op h, if_neg hk]
  have self : ∀ op, (match op with | .shl | .shr => False | _ => True) → ∀ k m n, binC op (.int k m) (.int k n) = (match icmp op m n with | some r => some (.bool r) | none => (match iarith op k m n with | some r => some (.int k r) | none => none)) := fun op h k m n => by rw [binC_int op h, if_pos rfl]
  cases op <;> first | rfl | skip
  · exact gI_eq (fun k m n H => by rw [self _ trivial, okI_eq]; rfl) (ne _ trivial) x y
  · exact gI_eq (fun k m n H => by rw [self _ trivial, okI_eq]; rfl) (ne _ trivial) x y
  · exact gI_eq (fun k m n H => by rw [self _ trivial, okI_eq]; rfl) (ne _ trivial) x y
  · exact gI_eq (fun k m n H => by rw [self _ trivial, eqI_eq]; rfl) (ne _ trivial) x y
  · exact gI_eq (fun k m n H => by rw [self _ trivial, eqI_eq]; rfl) (ne _ trivial) x y
  · exact gI_eq (fun k m n H => by rw [self _ trivial, ltI_eq]; rfl) (ne _ trivial) x y
  · exact gI_eq (fun k m n H => by
      rw [self _ trivial, ltI_eq]
      have : (!decide (n < m)) = decide (m ≤ n) := by by_cases h : n < m <;> simp [h] <;> omega
      rw [this]; rfl) (ne _ trivial) x y
  · exact gI_eq (fun k m n H => by rw [self _ trivial, ltI_eq]; rfl) (ne _ trivial) x y
  · exact gI_eq (fun k m n H => by
      rw [self _ trivial, ltI_eq]
      have : (!decide (m < n)) = decide (m ≥ n) := by by_cases h : m < n <;> simp [h] <;> omega
      rw [this]; rfl) (ne _ trivial) x y

theorem at1_eq (b o z : Nat) (i : Int) (n : Nat) (H : AH) : at1 b o z i n H = if 0 ≤ i ∧ i < n then some (mk1 (.ptr b (Nat.add o (Nat.mul i.toNat z))), H) else none := by
  cases i with
  | ofNat i =>
    simp only [at1, fzP, fz_eq]
    by_cases h : Nat.succ i ≤ n
    · rw [Nat.ble_eq_true_of_le h, cond_true, if_pos ⟨Int.natCast_nonneg i, by have : (Int.ofNat i : Int) = (i : Int) := rfl; omega⟩]
      rfl
    · rw [if_neg (fun g => h (by have := g.2; have e : (Int.ofNat i : Int) = (i : Int) := rfl; omega))]
      cases hb : Nat.ble (Nat.succ i) n
      · rfl
      · exact absurd (Nat.le_of_ble_eq_true hb) h
  | negSucc i =>
    rw [if_neg (fun g => by have := g.1; omega)]
    rfl

theorem at2_eq (z : Nat) (arr : Option Nat) (x : AC) (i : Int) (H : AH) : at2 z arr x i H = (match arr, x with
      | some n, .ptr b o => if 0 ≤ i ∧ i < n then some (mk1 (.ptr b (Nat.add o (Nat.mul i.toNat z))), H) else none
      | none, .sl b o l _ => if 0 ≤ i ∧ i < l then some (mk1 (.ptr b (Nat.add o (Nat.mul i.toNat z))), H) else none
      | none, .osl b l _ => if 0 ≤ i ∧ i < l then some (mk1 (.ptr b (Nat.mul i.toNat z)), H) else none
      | _, _ => none) := by
  unfold at2
  cases arr <;> cases x <;> first | rfl | exact at1_eq _ _ _ _ _ _ | skip
  rename_i b l z'
  show at1 b 0 z i l H = if 0 ≤ i ∧ i < l then some (mk1 (.ptr b (Nat.mul i.toNat z)), H) else none
  rw [at1_eq]
  have e : Nat.add 0 (Nat.mul i.toNat z) = Nat.mul i.toNat z := Nat.zero_add _
  rw [e]

theorem getR_eq {α : Type} : ∀ (t : Tr α) (i : Nat), getR t i = t.get i
  | .nil, _ => rfl
  | .node v l r, 0 => rfl
  | .node v l r, i + 1 => by
    show (bif Nat.beq (Nat.mod i 2) 0 then getR l (Nat.div i 2) else getR r (Nat.div i 2)) = _
    rw [getR_eq l, getR_eq r]
    rfl

theorem set_fuel {α : Type} (x : Option α) : ∀ (k m : Nat) (t : Tr α) (i : Nat), i < k → i < m → Tr.set k t i x = Tr.set m t i x
  | 0, _, _, _, h, _ => absurd h (Nat.not_lt_zero _)
  | _ + 1, 0, _, _, _, h => absurd h (Nat.not_lt_zero _)
  | k + 1, m + 1, t, 0, _, _ => by cases t <;> rfl
  | k + 1, m + 1, t, i + 1, h1, h2 => by
    have e : Nat.div i 2 = i / 2 := rfl
    have hk : Nat.div i 2 < k := by omega
    have hm : Nat.div i 2 < m := by omega
    cases t with
    | nil => simp only [Tr.set, set_fuel x k m .nil _ hk hm]
    | node v l r => simp only [Tr.set, set_fuel x k m l _ hk hm, set_fuel x k m r _ hk hm]

theorem putR_set {α : Type} (x : Option α) : ∀ (t : Tr α) (i k : Nat), i < k → putR t i x = Tr.set k t i x
  | .nil, i, k, h => set_fuel x _ _ .nil i (Nat.lt_succ_self i) h
  | .node v l r, 0, k + 1, _ => rfl
  | .node v l r, i + 1, k + 1, h => by
    have e : Nat.div i 2 = i / 2 := rfl
    have hk : Nat.div i 2 < k := by omega
    show (bif Nat.beq (Nat.mod i 2) 0 then Tr.node v (putR l (Nat.div i 2) x) r else Tr.node v l (putR r (Nat.div i 2) x)) = _
    rw [putR_set x l _ k hk, putR_set x r _ k hk]
    rfl

theorem putR_eq {α : Type} (t : Tr α) (i : Nat) (x : Option α) : putR t i x = t.put i x := putR_set x t i _ (Nat.lt_succ_self i)

theorem atR_eq : ∀ (cs : List AC) (i : Nat), atR cs i = at? cs i
  | [], _ => rfl
  | c :: cs, 0 => rfl
  | c :: cs, i + 1 => atR_eq cs i

theorem cutR_eq : ∀ (cs : List AC) (off n : Nat), cutR cs off n = cut cs off n
  | [], _, _ => rfl
  | c :: cs, 0, 0 => rfl
  | c :: cs, 0, n + 1 => by
    show consO c (cutR cs 0 n) = _
    rw [cutR_eq cs 0 n]
    simp only [cut]
    cases cut cs 0 n <;> rfl
  | c :: cs, off + 1, n => by
    show cutR cs off n = _
    rw [cutR_eq cs off n]
    rfl

theorem layR_eq : ∀ (cs : List AC) (i : Nat) (xs : List AC), layR cs i xs = lay cs i xs
  | [], _, _ => rfl
  | c :: cs, 0, [] => rfl
  | c :: cs, 0, x :: xs => by
    show consO x (layR cs 0 xs) = _
    rw [layR_eq cs 0 xs]
    simp only [lay]
    cases lay cs 0 xs <;> rfl
  | c :: cs, i + 1, xs => by
    show consO c (layR cs i xs) = _
    rw [layR_eq cs i xs]
    simp only [lay]
    cases lay cs i xs <;> rfl

theorem writeR_eq (H : AH) (b off : Nat) (xs : List AC) : writeR H b off xs = H.write b off xs := by
  unfold writeR AH.write
  simp only [getR_eq, layR_eq, putR_eq]
  rfl

theorem qOp_eq (op : AOp) (callf : CallF) (T : Tr AT) (H : AH) : qOp op callf T H = evOp callf T op H := by
  cases op <;> simp only [qOp, qC_eq, qV_eq, qT_eq, fzQ_eq, qBin_eq] <;> first | rfl | skip
  case load z a =>
    cases z with
    | none =>
      simp only [q_load1, evOp, getR_eq, atR_eq]
      cases a.evC T with
      | none => rfl
      | some x =>
        cases x <;> try rfl
        rename_i b o
        simp only [AH.read1, some1]
        cases H.t.get b with
        | none => rfl
        | some o' =>
          cases o' <;> rfl
    | some n =>
      simp only [q_loadN, evOp, getR_eq, cutR_eq]
      cases a.evC T with
      | none => rfl
      | some x =>
        cases x <;> try rfl
        rename_i b o
        simp only [AH.read]
        cases H.t.get b with
        | none => rfl
        | some o' =>
          cases o' <;> rfl
  case store z a x =>
    simp only [q_store, evOp, writeR_eq]
    rfl
  case bin op x y => simp only [q_bin, evOp, fzA_eq]; rfl
  case addr off x => simp only [q_addr, evOp, fz_eq]; rfl
  case indexAddr z arr x i =>
    simp only [q_indexAddr, evOp, at2_eq]
    cases x.evC T <;> first | rfl | skip
    cases i.evC T <;> first | rfl | skip
    rename_i a b
    cases b with
    | si k n t => cases a <;> cases t <;> first | rfl | (cases arr <;> rfl)
    | _ => cases a <;> rfl

theorem I_d_eq (d : Nat) (op : AOp) (rest : Thr) (callf : CallF) (ls : List LR) (T : Tr AT) (H : AH) : I.d (pOf d) (qOp op) rest callf ls T H = (match evOp callf T op H with | none => none | some (v, H') => rest callf ls (T.put d (some v)) H') := by
  unfold I.d
  rw [qOp_eq]
  cases evOp callf T op H with
  | none => rfl
  | some p => simp only [pOf_eq]

theorem thr_eq (callf : CallF) : ∀ (is : List AI) (ls : List LR) (T : Tr AT) (H : AH), toThr is callf ls T H = evIs callf is ls T H
  | [], _, _, _ => rfl
  | x :: r, ls, T, H => by
    have ih := thr_eq callf r
    have body : ∀ (ls : List LR) (T : Tr AT) (H : AH), insN x (toThr r) callf ls T H = (match evI callf x ls T H with | none => none | some (v, H') => evIs callf r (bif x.q then addR (readOf T x.i x.op v) ls else ls) (putT T x.dst v) H') := by
      intro ls T H
      have gen : I.x x (toThr r) callf ls T H = (match evI callf x ls T H with | none => none | some (v, H') => evIs callf r (bif x.q then addR (readOf T x.i x.op v) ls else ls) (putT T x.dst v) H') := by
        unfold I.x
        cases evI callf x ls T H with
        | none => rfl
        | some p => simp only [fzT_eq, ih]
      obtain ⟨i, dst, guard, op, q, inc⟩ := x
      cases q with
      | true =>
        cases dst with
        | none => exact gen
        | some d =>
          have plain : ∀ (op : AOp), (∀ v, drewNan op v = false) → (∀ T i v, readOf T i op v = none) → I.d (pOf d) (qOp op) (toThr r) callf ls T H = (match evI callf ⟨i, some d, guard, op, true, inc⟩ ls T H with | none => none | some (v, H') => evIs callf r (bif true then addR (readOf T i op v) ls else ls) (putT T (some d) v) H') := fun op h1 h2 => by
            rw [I_d_eq]
            unfold evI
            simp only [cond_true]
            cases evOp callf T op H with
            | none => rfl
            | some p => simp only [h1, cond_false, h2, addR, ih, putT]
          cases op
          case load z a =>
            show I.q i (rdL (qC a)) (pOf d) (qOp (.load z a)) (toThr r) callf ls T H = _
            unfold I.q evI
            rw [qOp_eq]
            simp only [cond_true]
            cases evOp callf T (.load z a) H with
            | none => rfl
            | some p =>
              simp only [pOf_eq, ih, qC_eq, putT]
              rfl
          case bin o a b =>
            show I.b (pOf d) (qOp (.bin o a b)) (toThr r) callf ls T H = _
            unfold I.b evI
            rw [qOp_eq]
            simp only [cond_true]
            cases evOp callf T (.bin o a b) H with
            | none => rfl
            | some p =>
              obtain ⟨v, H'⟩ := p
              have e : nanT v = drewNan (.bin o a b) v := by
                cases v with
                | tup xs => rfl
                | v y => cases y <;> rfl
              simp only [pOf_eq, ih, putT]
              rw [e]
              cases drewNan (.bin o a b) v <;> rfl
          case lookup key z m k ok =>
            show I.q i (rdK (qC m) (qV k) ok) (pOf d) (qOp (.lookup key z m k ok)) (toThr r) callf ls T H = _
            unfold I.q evI
            rw [qOp_eq]
            simp only [cond_true]
            cases evOp callf T (.lookup key z m k ok) H with
            | none => rfl
            | some p =>
              simp only [pOf_eq, ih, qC_eq, qV_eq, putT]
              rfl
          case alloc cs => exact plain (.alloc cs) (fun _ => rfl) (fun _ _ _ => rfl)
          case mkMap => exact plain .mkMap (fun _ => rfl) (fun _ _ _ => rfl)
          all_goals exact plain _ (fun _ => rfl) (fun _ _ _ => rfl)
      | false =>
        cases inc with
        | cons a l => cases dst <;> exact gen
        | nil =>
          cases dst with
          | some d =>
            show I.d (pOf d) (qOp op) (toThr r) callf ls T H = _
            rw [I_d_eq]
            unfold evI
            simp only [cond_false, isNil, cond_true]
            cases evOp callf T op H with
            | none => rfl
            | some p => simp only [ih, putT]
          | none =>
            show I.n (qOp op) (toThr r) callf ls T H = _
            unfold I.n evI
            rw [qOp_eq]
            simp only [cond_false, isNil, cond_true]
            cases evOp callf T op H with
            | none => rfl
            | some p => simp only [ih, putT]
    show insQ x (toThr r) callf ls T H = _
    unfold insQ evIs
    simp only [fzT_eq]
    cases hg : x.guard with
    | none =>
      simp only [wantedA, body]
      rfl
    | some g =>
      obtain ⟨t, w⟩ := g
      simp only [I.g, wantedA, gOf_eq]
      cases T.get t with
      | none => rfl
      | some y =>
        cases y with
        | tup xs => simp only [ih]
        | v y =>
          cases y with
          | agg xs => simp only [ih]
          | c y =>
            cases y <;> simp only [ih] <;> try rfl
            rename_i b
            cases b <;> cases w <;> simp only [beq_self_eq_true, cond_true, body] <;> rfl

section
variable {env : Nat → Option AFun} {ov : CallF}

theorem stepQ_eq {envQ : Nat → Option QFun} (he : ∀ f, envQ f = (env f).map toQF) {selfQ : QC → Tr AT → AH → Ans} {self : ACode → Tr AT → AH → Ans} (hs : ∀ c T H, selfQ (toQC c) T H = self c T H) (c : ACode) (T : Tr AT) (H : AH) :
    stepQ envQ ov selfQ (toQC c) T H = evStep env ov self c T H := by
  have hc : callQ envQ ov selfQ = callE env ov self := by
    funext f args H
    unfold callQ callE
    rw [he]
    cases ov f args H with
    | some r => rfl
    | none =>
      cases env f with
      | none => rfl
      | some fn =>
        simp only [Option.map_some, toQF, hs]
        cases self fn.code (enter args 0 .nil) H with
        | none => rfl
        | some p =>
          obtain ⟨e, T, H⟩ := p
          cases e <;> first | rfl | (simp only []; cases resA T H fn.res <;> simp [fzVs_eq])
  cases c with
  | skip => rfl
  | ret => rfl
  | exit id => rfl
  | region er is =>
    simp only [toQC, stepQ, stepRegion, evStep, thr_eq, hc]
    rfl
  | seq a b =>
    simp only [toQC, stepQ, stepSeq, evStep, hs]
    rfl
  | cond x a b =>
    simp only [toQC, stepQ, stepCond, evStep, hs, qC_eq]
    rfl
  | block id a =>
    simp only [toQC, stepQ, stepBlock, evStep, hs]
    rfl
  | loop a =>
    have h2 : ∀ T H, selfQ (.loop (toQC a)) T H = self (.loop a) T H := fun T H => hs (.loop a) T H
    simp only [toQC, stepQ, stepLoop, evStep, hs, h2]
    rfl

theorem evQ_eq {envQ : Nat → Option QFun} (he : ∀ f, envQ f = (env f).map toQF) : ∀ (n : Nat) (c : ACode) (T : Tr AT) (H : AH), evQ envQ ov n (toQC c) T H = ev env ov n c T H
  | 0, _, _, _ => rfl
  | n + 1, c, T, H => stepQ_eq he (evQ_eq he n) c T H

theorem evFQ_eq {envQ : Nat → Option QFun} (he : ∀ f, envQ f = (env f).map toQF) (n : Nat) : evFQ envQ ov n = callE env ov (ev env ov n) := by
  funext f args H
  unfold evFQ callQ callE
  rw [he]
  cases ov f args H with
  | some r => rfl
  | none =>
    cases env f with
    | none => rfl
    | some fn =>
      simp only [Option.map_some, toQF, evQ_eq he]
      cases ev env ov n fn.code (enter args 0 .nil) H with
      | none => rfl
      | some p =>
        obtain ⟨e, T, H⟩ := p
        cases e <;> first | rfl | (simp only []; cases resA T H fn.res <;> simp [fzVs_eq])
end

/-- What the threaded code says of a call is what the call does. -/
theorem evFQ_ok {P : Program} {env : Nat → Option AFun} {ov : CallF} {envQ : Nat → Option QFun} (he : ∀ f, envQ f = (env f).map toQF) (henv : EnvOK P env) (hov : CallsOK P ov) (hm : P.follows .mixedOrders = true) (n : Nat) : CallsOK P (evFQ envQ ov n) := by
  rw [evFQ_eq he]
  exact evF_ok henv hov hm n

end Go.Sv

namespace Go.Sv
variable [gi : GoodC]

/-- What stood there stands there still. -/
structure Kept (w w' : World) : Prop where
  frame : ∀ c, c < w.heap.size → w'.heap[c]? = w.heap[c]?
  os : w'.os = w.os
  tape : w'.tape = w.tape
  output : w'.output = w.output
  size : w.heap.size ≤ w'.heap.size

/-- Nothing may be written. -/
def Barred (H : AH) : Prop := ∀ i o, H.t.get i = some o → i ∈ H.p

theorem Barred.wr {ρ : Rho} {H : AH} (h : Barred H) (c : Nat) : ¬ Wr ρ H c := fun ⟨i, o, _, g1, g2, _⟩ => g2 (h i o g1)

theorem St.kept_all {ρ ρ' : Rho} {H H' : AH} {w w' : World} (h : St ρ H w ρ' H' w') (hs : Barred H) : Kept w w' :=
  ⟨fun c hc => h.frame c hc (hs.wr c), h.os, h.tape, h.output, h.size⟩

theorem Kept.st {ρ : Rho} {H : AH} {w w' : World} (h : Kept w w') (hH : RH ρ H w) : St ρ H w ρ H w' := by
  refine ⟨Ext.refl ρ, ⟨fun i o hi => ?_, hH.inj, hH.fresh, hH.lo, Nat.le_trans hH.lim h.size, fun c hc => ?_⟩, rfl, fun c hc _ => h.frame c hc, fun _ hc => .inr hc, fun _ hc => .inr hc, h.os, h.tape, h.output, h.size⟩
  · obtain ⟨c, m, obj, h1, h2, h3⟩ := hH.blk i o hi
    exact ⟨c, m, obj, h1, by rw [h.frame c (hH.lt hi h1)]; exact h2, h3⟩
  · rw [h.frame c (Nat.lt_of_lt_of_le hc hH.lim)]
    exact hH.old c hc

/-- One block more that was made on the way. -/
theorem St.add {ρ ρ1 : Rho} {H H1 : AH} {w w' : World} (h : St ρ H w ρ1 H1 w') (hl : ρ.X.lim ≤ w.heap.size) {o : AO} {c m : Nat} {obj : Obj} (hc : w'.heap[c]? = some obj) (hw : w.heap.size ≤ c) (ho : RO ρ1 m o obj)
    (hfree : ∀ i o m, H1.t.get i = some o → ρ1 i ≠ some (c, m)) : St ρ H w (up ρ1 H1.n (c, m)) (H1.new o) w' := by
  have hn : ρ1 H1.n = none := h.rh.fresh _ (Nat.le_refl _)
  refine ⟨h.ext.trans (up_ext hn), h.rh.bind hc (by rw [h.ext.X]; omega) ho hfree, by rw [AH.new_eq]; exact h.p, h.frame, fun k hk => ?_, fun k hk => ?_, h.os, h.tape, h.output, h.size⟩
  · obtain ⟨i, o', m', hi, hp, hci⟩ := hk
    rw [AH.new_eq] at hi hp
    simp only [Tr.get_put] at hi
    rw [up_r] at hci
    by_cases e : i = H1.n
    · rw [if_pos e] at hci
      simp only [Option.some.injEq, Prod.mk.injEq] at hci
      exact .inl (hci.1 ▸ hw)
    · rw [if_neg e] at hci
      rw [if_neg (Ne.symm e)] at hi
      exact h.own k ⟨i, o', m', hi, hp, hci⟩
  · obtain ⟨i, o', m', hi, hci⟩ := hk
    rw [AH.new_eq] at hi
    simp only [Tr.get_put] at hi
    rw [up_r] at hci
    by_cases e : i = H1.n
    · rw [if_pos e] at hci
      simp only [Option.some.injEq, Prod.mk.injEq] at hci
      exact .inl (hci.1 ▸ hw)
    · rw [if_neg e] at hci
      rw [if_neg (Ne.symm e)] at hi
      exact h.live k ⟨i, o', m', hi, hci⟩

/-- A block that was made in the small memory: where it lies. -/
theorem St.made {ρ0 ρ0' : Rho} {H0 H0' : AH} {w w' : World} (h : St ρ0 H0 w ρ0' H0' w') (hs : Barred H0) {b : Nat} {o : AO} (hb : H0'.t.get b = some o) (hp : b ∉ H0.p) :
    ∃ c m obj, ρ0' b = some (c, m) ∧ w'.heap[c]? = some obj ∧ RO ρ0' m o obj ∧ w.heap.size ≤ c := by
  obtain ⟨c, m, obj, h1, h2, h3⟩ := h.rh.blk b o hb
  refine ⟨c, m, obj, h1, h2, h3, ?_⟩
  rcases h.own c ⟨b, o, m, hb, by rw [h.p]; exact hp, h1⟩ with g | g
  · exact g
  · exact absurd g (hs.wr c)

/-- No memory. -/
def bare : AH := { t := .nil, n := 0, p := [] }

theorem bare_shut : Barred bare := fun i o h => by simp [bare, Tr.get] at h

/-- A small world's map, where nothing is. -/
def rho0 (X : Ctx) : @Rho triv := Rho.mk (gi := triv) (fun _ => none) X trivial

theorem rho0_rh {X : Ctx} {w : World} (h1 : X.lim = 0) : RH (gi := triv) (rho0 X) bare w :=
  @RH.mk triv _ _ _ (fun i o h => (by simp [bare, Tr.get] at h)) (fun i j o o' c m m' h => (by simp [bare, Tr.get] at h)) (fun _ _ => rfl) (fun i c m h => (by cases h)) (by show X.lim ≤ _; omega) (fun c h => by have : c < X.lim := h; omega)

/-- Values that speak of no memory. -/
def flatC : AC → Bool
  | .bool _ | .int _ _ | .flt _ | .cpx _ _ | .nilp | .nils | .nilm | .nilf | .sb _ | .si _ _ _ | .fb _ _ | .arg _ | .any => true
  | _ => false

def flatCs : List AC → Bool
  | [] => true
  | x :: r => flatC x && flatCs r

def flatV : AV → Bool
  | .c x => flatC x
  | .agg xs => flatCs xs

def flatVs : List AV → Bool
  | [] => true
  | x :: r => flatV x && flatVs r

def flatT : AT → Bool
  | .v x => flatV x
  | .tup xs => flatVs xs

theorem flatC_rel {i j : GoodC} {ρ : @Rho i} {ρ' : @Rho j} (hX : @Rho.X j ρ' = @Rho.X i ρ) {x : AC} (h : flatC x = true) {v : Value} (hv : RC (gi := i) ρ x v) : RC (gi := j) ρ' x v := by
  cases x <;> simp only [RC] at hv ⊢ <;> first | (cases h; done) | skip
  all_goals first | exact hv | (rw [hX]; exact hv)

theorem flatCs_rel {i j : GoodC} {ρ : @Rho i} {ρ' : @Rho j} (hX : @Rho.X j ρ' = @Rho.X i ρ) {xs : List AC} {vs : List Value} (hv : RCs (gi := i) ρ xs vs) : flatCs xs = true → RCs (gi := j) ρ' xs vs := by
  induction hv with
  | nil => exact fun _ => .nil
  | cons h0 _ ih =>
    intro h
    simp only [flatCs, Bool.and_eq_true] at h
    exact .cons (flatC_rel hX h.1 h0) (ih h.2)

theorem flatV_rel {i j : GoodC} {ρ : @Rho i} {ρ' : @Rho j} (hX : @Rho.X j ρ' = @Rho.X i ρ) {x : AV} (h : flatV x = true) {v : Value} (hv : RV (gi := i) ρ x v) : RV (gi := j) ρ' x v := by
  cases x with
  | c x => exact flatC_rel hX h hv
  | agg xs => obtain ⟨vs, rfl, hvs⟩ := hv; exact ⟨vs, rfl, flatCs_rel hX hvs h⟩

theorem flatVs_rel {i j : GoodC} {ρ : @Rho i} {ρ' : @Rho j} (hX : @Rho.X j ρ' = @Rho.X i ρ) {xs : List AV} {vs : List Value} (hv : All2 (RV (gi := i) ρ) xs vs) : flatVs xs = true → All2 (RV (gi := j) ρ') xs vs := by
  induction hv with
  | nil => exact fun _ => .nil
  | cons h0 _ ih =>
    intro h
    simp only [flatVs, Bool.and_eq_true] at h
    exact .cons (flatV_rel hX h.1 h0) (ih h.2)

theorem flatT_rel {i j : GoodC} {ρ : @Rho i} {ρ' : @Rho j} (hX : @Rho.X j ρ' = @Rho.X i ρ) {x : AT} (h : flatT x = true) {v : Value} (hv : R1 (gi := i) ρ x v) : R1 (gi := j) ρ' x v := by
  cases x with
  | v x => exact flatV_rel hX h hv
  | tup xs => obtain ⟨vs, rfl, hvs⟩ := hv; exact ⟨vs, rfl, flatVs_rel hX hvs h⟩

/-- What is asked of one row: that its answer is right. -/
def RowOK (P : Program) (f : Nat) (args : List AV) (H : AH) (r : AT) (H' : AH) : Prop :=
  (∃ fn, P.funcs[f]? = some fn ∧ fn.name ≠ "runtime.NumGoroutine" ∧ fn.body.isSome = true) ∧
  ∀ (ρ : Rho) (w : World) (vs : List Value), RH ρ H w → All2 (RV ρ) args vs → Calls P f vs.toArray w fun e w' => ∃ v ρ', e = .returned v ∧ St ρ H w ρ' H' w' ∧ R1 ρ' r v

theorem calls_iff {P : Program} {callf : Nat → List AV → AH → Option (AT × AH)} : CallsOK P callf ↔ ∀ f args H r H', callf f args H = some (r, H') → RowOK P f args H r H' := Iff.rfl

/-- A row that is right because a small run is. -/
theorem small_row {P : Program} {callf : CallF} (hc : CallsOK (gi := triv) P callf) {f : Nat} {args : List AV} {H : AH} {r : AT} {H' : AH}
    (hf : ∃ fn, P.funcs[f]? = some fn ∧ fn.name ≠ "runtime.NumGoroutine" ∧ fn.body.isSome = true)
    (h : ∀ (ρ : Rho) (w : World) (vs : List Value), RH ρ H w → All2 (RV ρ) args vs → ∃ (ρ0 : @Rho triv) (H0 : AH) (args0 : List AV) (r0 : AT) (H0' : AH),
      RH (gi := triv) ρ0 H0 w ∧ Barred H0 ∧ All2 (RV (gi := triv) ρ0) args0 vs ∧ callf f args0 H0 = some (r0, H0') ∧
      ∀ (v : Value) (ρ0' : @Rho triv) (w' : World), Kept w w' → St (gi := triv) ρ0 H0 w ρ0' H0' w' → R1 (gi := triv) ρ0' r0 v → ∃ ρ', St ρ H w ρ' H' w' ∧ R1 ρ' r v) : RowOK P f args H r H' := by
  refine ⟨hf, fun ρ w vs hH hargs => ?_⟩
  obtain ⟨ρ0, H0, args0, r0, H0', h1, h2, h3, h4, h5⟩ := h ρ w vs hH hargs
  have hcall := (hc f args0 H0 r0 H0' h4).2 ρ0 w vs h1 h3
  refine hcall.mono fun e w' ⟨v, ρ', g1, g2, g3⟩ => ?_
  obtain ⟨ρ1, k1, k2⟩ := h5 v ρ' w' (St.kept_all (gi := triv) g2 h2) g2 g3
  exact ⟨v, ρ1, g1, k1, k2⟩

/-- A call without memory, whatever the answer is shown to be. -/
theorem flat_row {P : Program} {callf : CallF} (hc : CallsOK (gi := triv) P callf) {f : Nat} {args : List AV} {H : AH} {r : AT}
    (h : ∀ (ρ : Rho) (vs : List Value), All2 (RV ρ) args vs → ∃ (X0 : Ctx) (args0 : List AV) (r0 : AT) (H0 : AH), X0.lim = 0 ∧ All2 (RV (gi := triv) (rho0 X0)) args0 vs ∧ callf f args0 bare = some (r0, H0) ∧ flatT r0 = true ∧
      ∀ v, R1 (gi := triv) (rho0 X0) r0 v → R1 ρ r v)
    (hf : ∃ fn, P.funcs[f]? = some fn ∧ fn.name ≠ "runtime.NumGoroutine" ∧ fn.body.isSome = true) : RowOK P f args H r H := by
  refine small_row hc hf fun ρ w vs hH hargs => ?_
  obtain ⟨X0, args0, r0, H0, h1, h3, h4, h5, h6⟩ := h ρ vs hargs
  refine ⟨rho0 X0, bare, args0, r0, H0, rho0_rh h1, bare_shut, h3, h4, fun v ρ0' w' hk hst hr => ⟨ρ, hk.st hH, h6 v (flatT_rel ?_ h5 hr)⟩⟩
  exact (Ext.X (gi := triv) (St.ext (gi := triv) hst)).symm

/- ### A small memory with some of a great one's blocks -/

def layO : List AO → Nat → Tr AO → Tr AO
  | [], _, t => t
  | o :: r, i, t => layO r (Nat.succ i) (t.put i (some o))

def iota : Nat → Nat → List Nat
  | 0, _ => []
  | n + 1, i => i :: iota n (Nat.succ i)

def heapL (os : List AO) : AH := fz os.length fun n => { t := layO os 0 .nil, n := n, p := iota n 0 }

theorem layO_get : ∀ (os : List AO) (k : Nat) (t : Tr AO) (i : Nat), (layO os k t).get i = if k ≤ i ∧ i < k + os.length then os[i - k]? else t.get i
  | [], k, t, i => by
    have : ¬ (k ≤ i ∧ i < k + ([] : List AO).length) := by simp only [List.length_nil]; omega
    rw [if_neg this]; rfl
  | o :: r, k, t, i => by
    show (layO r (k + 1) (t.put k (some o))).get i = _
    rw [layO_get r (k + 1) _ i]
    simp only [List.length_cons]
    by_cases h : i = k
    · subst h
      rw [if_neg (by omega), if_pos (by omega), Tr.get_put, if_pos rfl]
      simp
    · by_cases h1 : k + 1 ≤ i ∧ i < k + 1 + r.length
      · rw [if_pos h1, if_pos (by omega)]
        have : i - k = (i - (k + 1)) + 1 := by omega
        rw [this]
        simp
      · rw [if_neg h1, if_neg (by omega), Tr.get_put, if_neg (Ne.symm h)]

theorem heapL_get (os : List AO) (i : Nat) : (heapL os).t.get i = os[i]? := by
  unfold heapL
  rw [fz_eq, layO_get]
  by_cases h : i < os.length
  · rw [if_pos (by omega)]; simp
  · rw [if_neg (by omega)]
    simp only [Tr.get]
    rw [List.getElem?_eq_none (by omega)]

theorem heapL_n (os : List AO) : (heapL os).n = os.length := by unfold heapL; rw [fz_eq]

theorem mem_iota : ∀ (n i k : Nat), k ∈ iota n i ↔ i ≤ k ∧ k < i + n
  | 0, i, k => by simp [iota]
  | n + 1, i, k => by
    simp only [iota, List.mem_cons]
    rw [mem_iota n (Nat.succ i) k]
    have : Nat.succ i = i + 1 := rfl
    omega

theorem heapL_p (os : List AO) (k : Nat) : k ∈ (heapL os).p ↔ k < os.length := by
  unfold heapL
  rw [fz_eq]
  show k ∈ iota _ 0 ↔ _
  rw [mem_iota]; omega

theorem heapL_shut (os : List AO) : Barred (heapL os) := fun i o h => by
  rw [heapL_get] at h
  rw [heapL_p]
  exact (List.getElem?_eq_some_iff.1 h).1

/-- The map of the blocks that are taken over. -/
def sub (ρ : Rho) (X0 : Ctx) (bs : List Nat) : @Rho triv := Rho.mk (gi := triv) (fun i => (bs[i]?).bind ρ.r) X0 trivial

theorem sub_X (ρ : Rho) (X0 : Ctx) (bs : List Nat) : Rho.X (gi := triv) (sub ρ X0 bs) = X0 := rfl

theorem sub_r (ρ : Rho) (X0 : Ctx) (bs : List Nat) {i b : Nat} (h : bs[i]? = some b) : Rho.r (gi := triv) (sub ρ X0 bs) i = ρ b := by
  show (bs[i]?).bind ρ.r = _
  rw [h]; rfl

def distinct : List Nat → Bool
  | [] => true
  | b :: r => !memN r b && distinct r

theorem distinct_inj : ∀ {bs : List Nat}, distinct bs = true → ∀ {i j b : Nat}, bs[i]? = some b → bs[j]? = some b → i = j
  | [], _, i, j, b, h, _ => by simp at h
  | x :: r, hd, i, j, b, hi, hj => by
    simp only [distinct, Bool.and_eq_true, Bool.not_eq_true'] at hd
    have hx := memN_false.1 hd.1
    cases i with
    | zero =>
      simp at hi; subst hi
      cases j with
      | zero => rfl
      | succ j => simp at hj; exact absurd (List.mem_of_getElem? hj) hx
    | succ i =>
      simp at hi
      cases j with
      | zero => simp at hj; subst hj; exact absurd (List.mem_of_getElem? hi) hx
      | succ j => simp at hj; rw [distinct_inj hd.2 hi hj]

theorem small_rh {ρ : Rho} {H : AH} {w : World} (hH : RH ρ H w) (X0 : Ctx) (h0 : X0.lim = 0) (bs : List Nat) (os : List AO) (hd : distinct bs = true)
    (hb : All2 (fun b o0 => ∃ o, H.t.get b = some o ∧ ∀ m obj, RO ρ m o obj → RO (gi := triv) (sub ρ X0 bs) m o0 obj) bs os) : RH (gi := triv) (sub ρ X0 bs) (heapL os) w := by
  have hlen := hb.length
  have key : ∀ i o0, (heapL os).t.get i = some o0 → ∃ b o, bs[i]? = some b ∧ H.t.get b = some o ∧ ∀ m obj, RO ρ m o obj → RO (gi := triv) (sub ρ X0 bs) m o0 obj := fun i o0 h => by
    rw [heapL_get] at h
    obtain ⟨b, h1, o, h2, h3⟩ := hb.get' h
    exact ⟨b, o, h1, h2, h3⟩
  refine @RH.mk triv _ _ _ (fun i o0 h => ?_) (fun i j o o' c m m' hi hj hci hcj => ?_) (fun i hi => ?_) (fun i c m _ => ?_) ?_ (fun c h => ?_)
  · obtain ⟨b, o, h1, h2, h3⟩ := key i o0 h
    obtain ⟨c, m, obj, g1, g2, g3⟩ := hH.blk b o h2
    exact ⟨c, m, obj, (sub_r ρ X0 bs h1).trans g1, g2, h3 m obj g3⟩
  · obtain ⟨b, o1, h1, h2, _⟩ := key i o hi
    obtain ⟨b', o2, h1', h2', _⟩ := key j o' hj
    have e := hH.inj b b' o1 o2 c m m' h2 h2' ((sub_r ρ X0 bs h1).symm.trans hci) ((sub_r ρ X0 bs h1').symm.trans hcj)
    subst e
    exact distinct_inj hd h1 h1'
  · rw [heapL_n] at hi
    show (bs[i]?).bind ρ.r = none
    rw [List.getElem?_eq_none (by omega)]
    rfl
  · show X0.lim ≤ c; omega
  · show X0.lim ≤ _; omega
  · have : c < X0.lim := h; omega

end Go.Sv
