/- Part of the proof: an interpreter of the program, and that the machine meets it. -/
import Derived.Test.YtglhnodmpifjhaaA1
set_option linter.all false

set_option linter.unusedVariables false
set_option linter.unusedSimpArgs false
namespace Go.LH
inductive RV where
  | t (i : Nat)
  | c (v : LV)
def RV.ev (t : List LV) : RV → LV
  | .t i => t.getD i .un
  | .c v => v
inductive XO where
  | nck
  | bsl (s : Nat) (z : List LV) (len et : Nat) (ix : List Nat) (rw : Bool)
  | app (s et : Nat)
  | cal
  | mkm (kt : Nat)
  | mup (kt : Nat) (agg : Bool) (ks : List EK)
  | lku (kt : Nat) (agg : Bool) (ks : List EK) (z : LV) (ok : Bool)
  | rng
  | nxt
  | ent
  | isnil (neg : Bool) (k : TK)
  | msl (s et : Nat) (z : List LV)
  | clr (s : Nat) (z : List LV)
  | lenM
  | mki (t : Nat)
inductive RO where
  | x (o : XO) (args : List RV)
  | mv (x : RV)
  | pick (c a b : RV)
  | new (cs : List LV) (ty : Nat)
  | box (ty : Nat) (x : RV)
  | bld (z : List LV) (ps : List (Nat × Nat × RV))
  | ld (m : Option Nat) (a : RV)
  | st (n ty : Nat) (a x : Operand)
  | fa (off : Nat) (x : RV)
  | fd (m : Option Nat) (off : Nat) (x : RV)
  | ixs (s : Nat) (x i : RV)
  | ixa (n s : Nat) (x i : RV)
  | iva (m : Option Nat) (n s : Nat) (x i : RV)
  | ivs (x i : RV)
  | bin (op : BinOp) (x y : RV)
  | binB (op : BinOp) (x y : RV)
  | eqs (neg : Bool) (ks : List EK) (x y : RV)
  | un (op : UnOp) (x : RV)
  | cv (k : IntKind) (x : RV)
  | ext (x : RV) (i : Nat)
  | lenS (x : RV)
  | lenT (x : RV)
  | mx (x : RV) (xs : List RV)
  | mn (x : RV) (xs : List RV)
  | slc (s : Nat) (x : RV) (lo hi mx : Option RV)
  | mkf (f : Nat) (first caps : List RV)
  | call (f : Nat) (args : List RV)
  | gen (o : Op)
def pkV (m : Option Nat) (off : Nat) (cs : List LV) : Option LV :=
  match m with
  | some n => (getAt cs off n).map .agg
  | none => cs[off]?
def packN (K : Ctx) (t : Nat) : Option (Option Nat) :=
  match (K.ti t).k with
  | .other => none
  | .struct _ | .arr _ _ => some (some (K.ti t).sz)
  | _ => some none
theorem pack_eq {K : Ctx} {t : Nat} {m : Option Nat} (h : packN K t = some m) (off : Nat) (cs : List LV) : loadV.pack K t off cs = pkV m off cs := by
  unfold packN at h
  unfold loadV.pack
  cases hk : (K.ti t).k <;> rw [hk] at h <;> cases h <;> rfl
theorem part_eq {K : Ctx} {t : Nat} {m : Option Nat} (h : packN K t = some m) (off : Nat) (cs : List LV) : fieldV.partV K off t cs = pkV m off cs := by
  unfold packN at h
  unfold fieldV.partV
  cases hk : (K.ti t).k <;> rw [hk] at h <;> cases h <;> rfl
def ldV (m : Option Nat) (h : Heap) : LV → Option LV
  | .ptr b off => match h.getD b none with
    | some (.cells cs _) => pkV m off cs
    | _ => none
  | .rptr b i s off => match h.getD b none with
    | some (.row _ _ es s' _) => bif s == s' then (es[i]?).bind (pkV m off) else none
    | _ => none
  | .eptr cs off => pkV m off cs
  | _ => none
theorem ld_eq {K : Ctx} {t : Nat} {m : Option Nat} (h : packN K t = some m) (hp : Heap) (a : LV) : loadV K hp t a = ldV m hp a := by
  have e : loadV.pack K t = pkV m := by funext off cs; exact pack_eq h off cs
  cases a with
  | ptr b off => simp only [loadV, ldV, e]; rfl
  | rptr b i s off => simp only [loadV, ldV, e]; rfl
  | eptr cs off => simp only [loadV, ldV, e]
  | _ => rfl
def stV (n : Nat) (h : Heap) (a x : LV) : Option Heap :=
  match x.cells with
  | none => none
  | some ns =>
    bif ns.length == n then
      match a with
      | .ptr b off => match h.getD b none with
        | some (.cells cs e) => (setAt cs off ns).map fun cs' => h.set b (some (.cells cs' e))
        | _ => none
      | .rptr b i s off => match h.getD b none with
        | some (.row pu mv es s' e) => bif s == s' && (!pu || (refsL ns).isEmpty) then (es[i]?).bind fun el => (setAt el off ns).map fun el' => h.set b (some (.row pu mv (es.set i el') s e)) else none
        | _ => none
      | _ => none
    else none
theorem st_eq {K : Ctx} {t n : Nat} (hn : (K.ti t).sz = n) (hh : K.has t = true) (h : Heap) (a x : LV) : storeV K h t a x = stV n h a x := by
  unfold storeV stV
  cases x.cells with
  | none => rfl
  | some ns =>
    simp only [hn, hh, Bool.and_true, decide_eq_true_eq]
    by_cases e : ns.length = n
    · have e' : (ns.length == n) = true := by simpa using e
      rw [if_pos e, e', cond_true]
      cases a with
      | rptr b i s off =>
        simp only
        cases h.getD b none with
        | none => rfl
        | some y =>
          cases y with
          | row pu mv es s' ty =>
            simp only
            by_cases c : s = s'
            · subst c
              simp only [decide_true, Bool.true_and, beq_self_eq_true]
              cases (!pu || (refsL ns).isEmpty) <;> rfl
            · have c' : (s == s') = false := by simpa using c
              simp only [c, decide_false, Bool.false_and, Bool.false_eq_true, if_false, c', cond_false]
          | _ => rfl
      | _ => rfl
    · have e' : (ns.length == n) = false := by simpa using e
      rw [if_neg e, e', cond_false]
def ixV (s : Nat) (h : Heap) (x ix : LV) : Option LV :=
  match ix with
  | .int _ i =>
    bif decide (0 ≤ i) then
      match x with
      | .sl s' _ _ es => bif s' == s then (es[i.toNat]?).map fun x => .eptr x 0 else none
      | .row b s' none => match h.getD b none with
        | some (.row _ _ es _ _) => bif s == s' then (es[i.toNat]?).map fun _ => .rptr b i.toNat s' 0 else none
        | _ => none
      | .row b s' (some (off, n)) => bif decide (i.toNat < n) && s == s' then some (.rptr b (off + i.toNat) s' 0) else none
      | .bsl b off s' n => bif decide (i.toNat < n) && s == s' then some (.ptr b (off + i.toNat * s')) else none
      | _ => none
    else none
  | _ => none
theorem ix_eq {K : Ctx} {t e s : Nat} (hk : (K.ti t).k = .slice e) (hs : (K.ti e).sz = s) (hh : K.has e = true) (h : Heap) (x ix : LV) : indexV K h t x ix = ixV s h x ix := by
  unfold indexV ixV
  cases ix <;> try rfl
  rename_i k i
  simp only [hk]
  cases decide (0 ≤ i) with
  | false => rfl
  | true =>
    simp only [cond_true]
    cases x with
    | sl s' nl ex es => simp [hs, hh]
    | row b s' v =>
      cases v with
      | none => simp only [hs, hh, Bool.and_true]; rfl
      | some w => simp only [hs, hh, Bool.and_true]
    | bsl b off s' n => simp [hs, hh]
    | _ => rfl
def ixaV (n s : Nat) (x ix : LV) : Option LV :=
  match ix with
  | .int _ i => bif decide (0 ≤ i) then bif decide (i.toNat < n) then fieldAt (i.toNat * s) x else none else none
  | _ => none
def ivaV (m : Option Nat) (n s : Nat) (x ix : LV) : Option LV :=
  match ix, x with
  | .int _ i, .agg cs => bif decide (0 ≤ i) then bif decide (i.toNat < n) then pkV m (i.toNat * s) cs else none else none
  | _, _ => none
def ivsV (x ix : LV) : Option LV :=
  match ix, x with
  | .int _ i, .str s => bif decide (0 ≤ i) then (match s.data.toList[i.toNat]? with
    | some b => some (.int .u8 b.toNat)
    | none => none) else none
  | _, _ => none
def binP (op : BinOp) (x y : LV) : Option LV :=
  match x, y with
  | .int k a, .int k' b => bif isShift op || k == k' then intOp op k a b else none
  | .str a, .str b =>
    match op with
    | .add => bif decide (a.size + b.size < 4611686018427387904) then some (.str (a ++ b)) else none
    | .eql => some (.bool (strEq a b))
    | .neq => some (.bool (!strEq a b))
    | _ => none
  | _, _ => none
def binBV (op : BinOp) (x y : LV) : Option LV :=
  match x, y with
  | .bool a, .bool b =>
    match op with
    | .eql => some (.bool (a == b))
    | .neq => some (.bool (!(a == b)))
    | _ => none
  | _, _ => none
def eqsV (neg : Bool) (ks : List EK) (x y : LV) : Option LV :=
  match x, y with
  | .agg a, .agg b => bif kindsOk a ks && kindsOk b ks then some (.bool (bif neg then !eqC a b else eqC a b)) else none
  | _, _ => none
def extV (x : LV) (i : Nat) : Option LV :=
  match x with
  | .tup vs => vs[i]?
  | _ => none
def lenSV (h : Heap) : LV → Option LV
  | .sl _ _ _ es => some (.int .i64 es.length)
  | .row b _ none => match h.getD b none with
    | some (.row _ _ es _ _) => some (.int .i64 es.length)
    | _ => none
  | .row _ _ (some (_, n)) => some (.int .i64 n)
  | .bsl _ _ _ n => some (.int .i64 n)
  | _ => none
def lenTV : LV → Option LV
  | .str s => some (.int .i64 s.size)
  | _ => none
def cvV (k : IntKind) : LV → Option LV
  | .int _ n => some (.int k (k.wrap n))
  | _ => none
def slcV (s : Nat) (h : Heap) (x : LV) (lo hi mx : Option LV) : Option LV :=
  match x with
  | .sl s' nl ex es =>
    bif s' == s || es.isEmpty then
    match sliceV.bd lo 0 es.length, sliceV.bd hi es.length es.length with
    | some l, some h =>
      bif decide (l ≤ h) && decide (h ≤ es.length) then
        match mx with
        | none => some (.sl s' (if nl = some true then some true else none) (ex && decide (h = es.length)) ((es.take h).drop l))
        | some m => bif decide (intOf? m = some (h : Int)) && hi.isSome then some (.sl s' (if nl = some true then some true else none) true ((es.take h).drop l)) else none
      else none
    | _, _ => none
    else none
  | .row b s' v =>
    bif s' == s then
    match (match v with
      | some (off, n) => some (off, n)
      | none => match h.getD b none with
        | some (.row _ _ es _ _) => some (0, es.length)
        | _ => none : Option (Nat × Nat)) with
    | some (off, n) => match sliceV.bd lo 0 n, sliceV.bd hi n n, mx with
      | some l, some h, none => bif decide (l ≤ h) && decide (h ≤ n) then some (.row b s' (some (off + l, h - l))) else none
      | _, _, _ => none
    | none => none
    else none
  | _ => none
theorem slc_eq {K : Ctx} {t e s : Nat} (hk : (K.ti t).k = .slice e) (hs : (K.ti e).sz = s) (hh : K.has e = true) (h : Heap) (x : LV) (lo hi mx : Option LV) : slcV s h x lo hi mx = sliceV K h t x lo hi mx ∨ slcV s h x lo hi mx = none := by
  unfold sliceV slcV
  cases x with
  | sl s' nl ex es =>
    left
    simp only [hk, hs, hh, Bool.and_true]
    cases (s' == s || es.isEmpty) with
    | false => rfl
    | true =>
      simp only [cond_true, Bool.not_true, Bool.false_eq_true, if_false]
      cases sliceV.bd lo 0 es.length with
      | none => rfl
      | some l =>
        cases sliceV.bd hi es.length es.length with
        | none => rfl
        | some h' =>
          simp only
          cases (decide (l ≤ h') && decide (h' ≤ es.length)) with
          | false => rfl
          | true =>
            cases mx with
            | none => rfl
            | some m =>
              simp only [cond_true]
              by_cases c : intOf? m = some (h' : Int) ∧ hi.isSome = true
              · rw [if_pos c]; simp [c.1, c.2]
              · rw [if_neg c]
                have : (decide (intOf? m = some (h' : Int)) && hi.isSome) = false := by
                  rw [Bool.eq_false_iff]
                  intro h2
                  simp only [Bool.and_eq_true, decide_eq_true_eq] at h2
                  exact c h2
                rw [this]; rfl
  | row b s' v =>
    left
    simp only [hk, hs, hh, Bool.and_true]
    cases (s' == s) with
    | false => rfl
    | true => rfl
  | _ => exact .inr rfl
def rv (K : Ctx) : Operand → RV
  | .tmp i => .t i
  | .const v => .c (ofVal v)
  | .global g => .c (match K.glob g with
    | some cs => .eptr cs 0
    | none => .un)
  | .func f => .c (.fn (.func f) [] [])
theorem rv_ev (K : Ctx) (t : List LV) (x : Operand) : (rv K x).ev t = ev K t x := by
  cases x <;> rfl
def ro1 (K : Ctx) (cf : CallF) (d : Option Nat) (o : Op) (σ : Fr) : ND (Nat × Fr) := runOp K cf { dst := d, op := o, type := 0, pos := "", after := #[], guard := none } σ
def put1 (c : Nat) (d : Option Nat) (σ : Fr) (v : Option LV) : ND (Nat × Fr) :=
  match v with
  | some v => .ok (c, { σ with t := putT σ.t d v })
  | none => .bad "op"
def fillR (t : List LV) (cells : List LV) : List (Nat × Nat × RV) → Option (List LV)
  | [] => some cells
  | (off, size, x) :: rest =>
    match (x.ev t).cells with
    | some cs => bif cs.length == size then (setAt cells off cs).bind fun c => fillR t c rest else none
    | none => none
def boxR (d : Option Nat) (ty : Nat) (σ : Fr) : Option (List LV) → ND (Nat × Fr)
  | some cs => .ok (1, { σ with t := putT σ.t d (.ptr σ.h.length 0), h := σ.h ++ [some (.cells cs ty)] })
  | none => .bad "op"
def stR (d : Option Nat) (σ : Fr) : Option Heap → ND (Nat × Fr)
  | some h => .ok (2, { σ with t := putT σ.t d (.tup []), h })
  | none => .bad "op"
def pickR (c a b : LV) : Option LV :=
  match c with
  | .bool p => some (pickV p a b)
  | _ => none
def keyR (agg : Bool) (ks : List EK) (v : LV) : Bool :=
  match agg, v with
  | false, v => kindsOk [v] ks
  | true, .agg cs => kindsOk cs ks
  | _, _ => false
abbrev XR := Nat × LV × Option (LV → LV) × Heap
def xv (c : Nat) (h : Heap) (v : Option LV) : ND XR := match v with
  | some v => .ok (c, v, none, h)
  | none => .bad "op"
def bslR (s len et : Nat) (rw : Bool) (h : Heap) (o : Option (List (List LV))) : ND XR :=
  match o with
  | none => .bad "op"
  | some es =>
    bif rw then (bif noRefs es && decide (0 < s) then .ok (1, .row h.length s none, none, h ++ [some (.row true true es s et)]) else .bad "op")
    else bif noRefs es && (decide (0 < s) || es.isEmpty) then .ok (1, .sl s (some false) true es, none, h)
    else bif decide (0 < s) then .ok (1, .row h.length s none, none, h ++ [some (.row false true es s et)]) else .bad "op"
def appR (s et : Nat) (h : Heap) (base x : LV) : Option (LV × Option Nat × Heap) :=
  match elemsOf h s x with
   | some (new, pn) =>
      match base with
      | .sl s' _ true es =>
        bif (s' == s || es.isEmpty) && (bif es.isEmpty then true else !new.isEmpty) && decide (es.length + new.length ≤ sizeLim) then
          some (.row h.length s none, none, h ++ [some (.row pn true (es ++ new) s et)])
        else none
      | .row b s' v => match h.getD b none with
        | some (.row pu _ es s'' e) =>
          match (match v with
            | none => some es
            | some (off, n) => bif off + n == es.length then some (es.drop off) else none : Option (List (List LV))) with
          | some old => bif s' == s'' && s' == s && e == et && decide (old.length + new.length ≤ sizeLim) && (!pu || pn) then
              some (.row b s' none, some b, (scrubB b h).set b (some ((Blk.row pu true (old ++ new) s' e).mapv (LV.drop b))))
            else none
          | none => none
        | _ => none
      | _ => none
   | none => none
def appX (o : Option (LV × Option Nat × Heap)) : ND XR :=
  match o with
  | some (v, none, h) => .ok (3, v, none, h)
  | some (v, some b, h) => .ok (3, v, some (LV.drop b), h)
  | none => .bad "op"
def calX (K : Ctx) (cf : CallF) (f : LV) (args : List LV) (h : Heap) : ND XR :=
  bif isoOf K f == 0 then (cf f args (calm h)).bind fun (v, h') => .ok (3, v, some (dropMoved h h'), orMv h h')
  else match (bif isoOf K f == 2 then f.refs ++ refsL args else []) with
    | [] => (callIso "" cf f args h).bind fun v => .ok (1, v, none, h)
    | _ => .bad "freeze"
def mupR (kt : Nat) (agg : Bool) (ks : List EK) (h : Heap) (m k v : LV) : Option Heap :=
  match m with
  | .map b =>
    bif keyR agg ks k then
      match h.getD b none with
      | some (.map pu kt' ks' vs) =>
        if kt' = kt && (!pu || v.refs.isEmpty) then
          match findK k ks' 0 with
          | some i => some (dropIters b (h.set b (some (.map pu kt ks' (vs.set i v)))))
          | none => some (dropIters b (h.set b (some (.map pu kt (ks' ++ [k]) (vs ++ [v])))))
        else none
      | _ => none
    else none
  | _ => none
def mapOf (kt : Nat) (h : Heap) : LV → Option (List LV × List LV)
  | .nmap => some ([], [])
  | .pmap kt' ks vs => if kt' = kt then some (ks, vs) else none
  | .map b => match h.getD b none with
    | some (.map _ kt' ks vs) => if kt' = kt then some (ks, vs) else none
    | _ => none
  | _ => none
def lkuR (agg : Bool) (eks : List EK) (z : LV) (ok : Bool) (k : LV) (o : Option (List LV × List LV)) : Option LV :=
  bif keyR agg eks k then
    match o with
    | some (ks, vs) => match findK k ks 0 with
      | some i => some (bif ok then .tup [vs.getD i .un, .bool true] else vs.getD i .un)
      | none => some (bif ok then .tup [z, .bool false] else z)
    | none => none
  else none
def rngX (h : Heap) : LV → ND XR
  | .nmap => .ok (1, .ptr h.length 0, none, h ++ [some (.iter none [] [] none)])
  | .pmap _ ks vs => .ok (1, .ptr h.length 0, none, h ++ [some (.iter none ks vs none)])
  | .map b => match h.getD b none with
    | some (.map _ _ ks vs) => .ok (1, .ptr h.length 0, none, h ++ [some (.iter (some b) ks vs none)])
    | _ => .bad "op"
  | _ => .bad "op"
def nxtX (h : Heap) : LV → ND XR
  | .ptr b 0 => match h.getD b none with
    | some (.iter m ks vs _) => match ks with
      | [] => .ok (2, .tup [.bool false], none, h)
      | _ => .pick ks.length fun i => .ok (2, .tup [.bool true, ks.getD i .un, vs.getD i .un], none, h.set b (some (.iter m (ks.eraseIdx i) (vs.eraseIdx i) (some (ks.getD i .un, vs.getD i .un)))))
    | _ => .bad "op"
  | _ => .bad "op"
def entV (h : Heap) : LV → Option LV
  | .ptr b 0 => match h.getD b none with
    | some (.iter _ _ _ (some (k, v))) => some (.tup [k, v])
    | _ => none
  | _ => none
def nckV : LV → Option LV
  | .ptr b o => some (.ptr b o)
  | .rptr b i s o => some (.rptr b i s o)
  | .eptr cs o => some (.eptr cs o)
  | .fn (.func f) a b => some (.fn (.func f) a b)
  | _ => none
def isnilV (neg : Bool) (k : TK) (x y : LV) : Option LV :=
  match nilS k x, nilS k y with
  | some true, some b => some (.bool (bif neg then !b else b))
  | some false, some true => some (.bool (bif neg then true else false))
  | _, _ => none
def mslX (s et : Nat) (z : List LV) (h : Heap) (l c : LV) : ND XR :=
  match l, c with
  | .int _ n, .int _ m => bif decide (0 ≤ n) && n == m && decide (n ≤ 1048576) then .ok (1, .row h.length s none, none, h ++ [some (.row true true (List.replicate n.toNat z) s et)]) else .bad "op"
  | _, _ => .bad "op"
def clrX (s : Nat) (z : List LV) (h : Heap) : LV → ND XR
  | .sl _ _ _ [] => .ok (2, .tup [], none, h)
  | .row b s' v => match h.getD b none with
    | some (.row pu mv es s'' e) =>
      bif s' == s'' && s == s' then
        match v with
        | none => .ok (2, .tup [], none, h.set b (some (.row pu mv (List.replicate es.length z) s' e)))
        | some (off, n) => bif decide (off + n ≤ es.length) then .ok (2, .tup [], none, h.set b (some (.row pu mv (es.take off ++ List.replicate n z ++ es.drop (off + n)) s' e))) else .bad "op"
      else .bad "op"
    | _ => .bad "op"
  | _ => .bad "op"
def lenMV (h : Heap) : LV → Option LV
  | .nmap => some (.int .i64 0)
  | .pmap _ ks _ => some (.int .i64 ks.length)
  | .map b => match h.getD b none with
    | some (.map _ _ ks _) => some (.int .i64 ks.length)
    | _ => none
  | _ => none
def mupX (o : Option Heap) : ND XR := match o with
  | some h => .ok (2, .tup [], none, h)
  | none => .bad "op"
def xsem (K : Ctx) (cf : CallF) : XO → List LV → Heap → ND XR
  | .nck, [x], h => xv 0 h (nckV x)
  | .bsl s z len et ix rw, vs, h => match (bif rw then [] else (refsL vs).filter fun b => frzable (h.getD b none)) with
    | [] => bslR s len et rw h (fillE s (List.replicate len z) (ix.zip vs))
    | _ => .bad "freeze"
  | .app s et, [x, y], h => appX (appR s et h x y)
  | .cal, f :: args, h => calX K cf f args h
  | .mkm kt, [], h => .ok (1, .map h.length, none, h ++ [some (.map true kt [] [])])
  | .mup kt agg ks, [m, k, v], h => match v.refs.filter fun b => isRow (h.getD b none) with
    | [] => mupX (mupR kt agg ks h m k v)
    | _ => .bad "freeze"
  | .lku kt agg ks z ok, [m, k], h => xv 1 h (lkuR agg ks z ok k (mapOf kt h m))
  | .rng, [x], h => rngX h x
  | .nxt, [x], h => nxtX h x
  | .ent, [x], h => xv 1 h (entV h x)
  | .isnil neg k, [x, y], h => xv 0 h (isnilV neg k x y)
  | .msl s et z, [l, c], h => mslX s et z h l c
  | .clr s z, [x], h => clrX s z h x
  | .lenM, [x], h => xv 1 h (lenMV h x)
  | .mki t, [x], h => .ok (0, .ifc t x, none, h)
  | _, _, _ => .bad "op"
def mapO (φ : Option (LV → LV)) (t : List LV) : List LV := match φ with
  | some φ => t.map φ
  | none => t
def rone (K : Ctx) (cf : CallF) (d : Option Nat) : RO → Fr → ND (Nat × Fr)
  | .x o args, σ => (xsem K cf o (args.map (·.ev σ.t)) σ.h).bind fun (c, v, φ, h) => .ok (c, { σ with t := putT (mapO φ σ.t) d v, h })
  | .mv x, σ => put1 0 d σ (some (x.ev σ.t))
  | .pick c a b, σ => put1 0 d σ (pickR (c.ev σ.t) (a.ev σ.t) (b.ev σ.t))
  | .new cs ty, σ => boxR d ty σ (some cs)
  | .box ty x, σ => boxR d ty σ (x.ev σ.t).cells
  | .bld z ps, σ => put1 0 d σ ((fillR σ.t z ps).map .agg)
  | .ld m a, σ => put1 1 d σ (ldV m σ.h (a.ev σ.t))
  | .st n ty a x, σ => match (bif intoPure σ.h (ev K σ.t a) then (ev K σ.t x).refs else []) with
    | [] => stR d σ (stV n σ.h (ev K σ.t a) (ev K σ.t x))
    | _ => ro1 K cf d (.store ty a x) σ
  | .fa off x, σ => put1 0 d σ (fieldAt off (x.ev σ.t))
  | .fd m off x, σ => put1 0 d σ (match x.ev σ.t with
    | .agg cs => pkV m off cs
    | _ => none)
  | .ixs s x i, σ => put1 1 d σ (ixV s σ.h (x.ev σ.t) (i.ev σ.t))
  | .ixa n s x i, σ => put1 1 d σ (ixaV n s (x.ev σ.t) (i.ev σ.t))
  | .iva m n s x i, σ => put1 0 d σ (ivaV m n s (x.ev σ.t) (i.ev σ.t))
  | .ivs x i, σ => put1 0 d σ (ivsV (x.ev σ.t) (i.ev σ.t))
  | .bin op x y, σ => put1 0 d σ (binP op (x.ev σ.t) (y.ev σ.t))
  | .binB op x y, σ => put1 0 d σ (binBV op (x.ev σ.t) (y.ev σ.t))
  | .eqs neg ks x y, σ => put1 0 d σ (eqsV neg ks (x.ev σ.t) (y.ev σ.t))
  | .un op x, σ => put1 0 d σ (unV op (x.ev σ.t))
  | .cv k x, σ => put1 0 d σ (cvV k (x.ev σ.t))
  | .ext x i, σ => put1 0 d σ (extV (x.ev σ.t) i)
  | .lenS x, σ => put1 1 d σ (lenSV σ.h (x.ev σ.t))
  | .lenT x, σ => put1 1 d σ (lenTV (x.ev σ.t))
  | .mx x xs, σ => put1 1 d σ (foldO maxL (x.ev σ.t) (xs.map (·.ev σ.t)))
  | .mn x xs, σ => put1 1 d σ (foldO minL (x.ev σ.t) (xs.map (·.ev σ.t)))
  | .slc s x lo hi m, σ => put1 1 d σ (slcV s σ.h (x.ev σ.t) (lo.map (·.ev σ.t)) (hi.map (·.ev σ.t)) (m.map (·.ev σ.t)))
  | .mkf f first caps, σ => put1 0 d σ (some (.fn (.func f) (first.map (·.ev σ.t)) (caps.map (·.ev σ.t))))
  | .call f args, σ => (callIso "" cf (.fn (.func f) [] []) (args.map (·.ev σ.t)) σ.h).map fun v => (1, { σ with t := putT σ.t d v })
  | .gen o, σ => ro1 K cf d o σ
def places (K : Ctx) (fs : List (Nat × Nat)) : List (Nat × Operand) → Option (List (Nat × Nat × RV))
  | [] => some []
  | (i, x) :: r => match fs[i]?, places K fs r with
    | some (off, ft), some l => some ((off, (K.ti ft).sz, rv K x) :: l)
    | _, _ => none
def keyKind (K : Ctx) (t : Nat) : Option (Bool × List EK) :=
  match (K.ti t).eq, (K.ti t).k with
  | some ks, .prim => some (false, ks)
  | some ks, .struct _ => some (true, ks)
  | _, _ => none
def nilK : TK → Bool
  | .slice _ | .map _ _ | .ptr _ | .func => true
  | _ => false
def res (K : Ctx) (f : Nat) (d : Option Nat) (o : Op) : RO :=
  match o with
  | .move x => .mv (rv K x)
  | .assign x => .mv (rv K x)
  | .pick c a b => .pick (rv K c) (rv K a) (rv K b)
  | .alloc t => bif (K.ti t).zok && K.has t then .new (K.ti t).zero t else .gen o
  | .box t x => .box t (rv K x)
  | .build t ps => match (K.ti t).k with
    | .struct fs => bif (K.ti t).zok && fs.all (fun f => K.has f.2) then (match places K fs ps.toList with
      | some l => .bld (K.ti t).zero l
      | none => .gen o) else .gen o
    | _ => .gen o
  | .load t a => match packN K t with
    | some m => .ld m (rv K a)
    | none => .gen o
  | .store t a x => bif K.has t then .st (K.ti t).sz t a x else .gen o
  | .fieldAddr t x f => match (K.ti t).k with
    | .struct fs => match fs[f]? with
      | some (off, ft) => bif decide (0 < (K.ti ft).sz) && K.has ft then .fa off (rv K x) else .gen o
      | none => .gen o
    | _ => .gen o
  | .field t x f => match (K.ti t).k with
    | .struct fs => match fs[f]? with
      | some (off, ft) => match packN K ft with
        | some m => .fd m off (rv K x)
        | none => .gen o
      | none => .gen o
    | _ => .gen o
  | .indexAddr t x i => match (K.ti t).k with
    | .slice e => bif K.has e then .ixs (K.ti e).sz (rv K x) (rv K i) else .gen o
    | .arr n e => bif K.has e then .ixa n (K.ti e).sz (rv K x) (rv K i) else .gen o
    | _ => .gen o
  | .index t x i => match (K.ti t).k with
    | .arr n e => match packN K e with
      | some m => bif K.has e then .iva m n (K.ti e).sz (rv K x) (rv K i) else .gen o
      | none => .gen o
    | .prim => bif decide ((K.ti t).eq = some [.s]) then .ivs (rv K x) (rv K i) else .gen o
    | _ => .gen o
  | .binOp op t x y _ => match (K.ti t).eq, (K.ti t).k with
    | some [.b], .prim => .binB op (rv K x) (rv K y)
    | some ks, .prim => .bin op (rv K x) (rv K y)
    | some ks, .struct _ => match op with
      | .eql => .eqs false ks (rv K x) (rv K y)
      | .neq => .eqs true ks (rv K x) (rv K y)
      | _ => .gen o
    | none, k => bif nilK k then (match op with
      | .eql => .x (.isnil false k) [rv K x, rv K y]
      | .neq => .x (.isnil true k) [rv K x, rv K y]
      | _ => .gen o) else .gen o
    | _, _ => .gen o
  | .nilCheck x => .x .nck [rv K x]
  | .buildSlice t len ps => match (K.ti t).k with
    | .slice et => bif decide (len * (K.ti et).sz ≤ 16777216) && (K.ti et).zok && K.has et then .x (.bsl (K.ti et).sz (K.ti et).zero len et (ps.toList.map (·.1)) (K.rows f (d.getD 0))) (ps.toList.map fun p => rv K p.2) else .gen o
    | _ => .gen o
  | .makeMap t none => match (K.ti t).k with
    | .map kt _ => .x (.mkm kt) []
    | _ => .gen o
  | .mapUpdate t m k v => match (K.ti t).k with
    | .map kt _ => match keyKind K kt with
      | some (agg, ks) => .x (.mup kt agg ks) [rv K m, rv K k, rv K v]
      | none => .gen o
    | _ => .gen o
  | .insert t m k v => match (K.ti t).k with
    | .map kt _ => match keyKind K kt with
      | some (agg, ks) => .x (.mup kt agg ks) [rv K m, rv K k, rv K v]
      | none => .gen o
    | _ => .gen o
  | .lookup t m k ok => match (K.ti t).k with
    | .map kt et => match keyKind K kt with
      | some (agg, ks) => bif (K.ti et).zok && K.has et then .x (.lku kt agg ks (zeroV K et) ok) [rv K m, rv K k] else .gen o
      | none => .gen o
    | _ => .gen o
  | .range t x => match (K.ti t).k with
    | .map _ _ => .x .rng [rv K x]
    | _ => .gen o
  | .next x false => .x .nxt [rv K x]
  | .entry x => .x .ent [rv K x]
  | .makeSlice t l c => match (K.ti t).k with
    | .slice et => bif decide ((K.ti et).by_ ≤ 65536) && (K.ti et).zok && K.has et && decide (0 < (K.ti et).sz) then .x (.msl (K.ti et).sz et (K.ti et).zero) [rv K l, rv K c] else .gen o
    | _ => .gen o
  | .makeInterface t x => bif K.has t && (K.ti t).k != .iface then .x (.mki t) [rv K x] else .gen o
  | .unOp op _ x => .un op (rv K x)
  | .convert src dst x => match (K.ti dst).ik with
    | some k => bif K.has src && K.has dst then .cv k (rv K x) else .gen o
    | none => .gen o
  | .extract x i => .ext (rv K x) i
  | .slice t x lo hi m => match (K.ti t).k with
    | .slice e => bif K.has e then .slc (K.ti e).sz (rv K x) (lo.map (rv K)) (hi.map (rv K)) (m.map (rv K)) else .gen o
    | _ => .gen o
  | .makeFunc (.func f) first caps => .mkf f (first.toList.map (rv K)) (caps.toList.map (rv K))
  | .call c => match c.callee, c.args.toList with
    | .builtin .len, [x] => match c.argTypes[0]? with
      | some t => match (K.ti t).k with
        | .slice _ => .lenS (rv K x)
        | .prim => bif decide ((K.ti t).eq = some [.s]) then .lenT (rv K x) else .gen o
        | .map _ _ => .x .lenM [rv K x]
        | _ => .gen o
      | none => .gen o
    | .builtin .max, x :: r => .mx (rv K x) (r.map (rv K))
    | .builtin .min, x :: r => .mn (rv K x) (r.map (rv K))
    | .builtin .append, [x, y] => match c.argTypes[0]?, c.argTypes[1]? with
      | some t, some t' => match (K.ti t).k with
        | .slice et => bif isSliceK (K.ti t').k && decide (0 < (K.ti et).sz) && decide ((K.ti et).by_ ≤ 65536) && (K.ti et).zok && K.has et then .x (.app (K.ti et).sz et) [rv K x, rv K y] else .gen o
        | _ => .gen o
      | _, _ => .gen o
    | .builtin .clear, [x] => match c.argTypes[0]? with
      | some t => match (K.ti t).k with
        | .slice et => bif (K.ti et).zok && K.has et then .x (.clr (K.ti et).sz (K.ti et).zero) [rv K x] else .gen o
        | _ => .gen o
      | none => .gen o
    | .value (.func f), args => bif K.iso f == 1 then .call f (args.map (rv K)) else .x .cal (rv K (.func f) :: args.map (rv K))
    | .value f, args => .x .cal (rv K f :: args.map (rv K))
    | _, _ => .gen o
  | o => .gen o
end Go.LH


set_option linter.unusedVariables false
set_option linter.unusedSimpArgs false
namespace Go.LH
def Ref {α : Type} : ND α → ND α → Prop
  | .ok a, y => y = .ok a
  | .bad _, _ => True
  | .pick n k, y => ∃ k', y = .pick n k' ∧ ∀ i, Ref (k i) (k' i)
theorem Ref.refl {α : Type} : ∀ (x : ND α), Ref x x
  | .ok _ => rfl
  | .bad _ => trivial
  | .pick n k => ⟨k, rfl, fun i => Ref.refl (k i)⟩
theorem Ref.trans {α : Type} : ∀ {x y z : ND α}, Ref x y → Ref y z → Ref x z
  | .ok a, y, z, h1, h2 => by cases h1; exact h2
  | .bad _, y, z, h1, h2 => trivial
  | .pick n k, y, z, h1, h2 => by
    obtain ⟨k', rfl, h3⟩ := h1
    obtain ⟨k'', rfl, h4⟩ := h2
    exact ⟨k'', rfl, fun i => (h3 i).trans (h4 i)⟩
theorem Ref.bind {α β : Type} {f f' : α → ND β} : ∀ {x x' : ND α}, Ref x x' → (∀ a, Ref (f a) (f' a)) → Ref (x.bind f) (x'.bind f')
  | .ok a, x', h, hf => by cases h; exact hf a
  | .bad _, x', h, hf => trivial
  | .pick n k, x', h, hf => by
    obtain ⟨k', rfl, h3⟩ := h
    exact ⟨_, rfl, fun i => (h3 i).bind hf⟩
theorem Ref.map {α β : Type} {f : α → β} {x x' : ND α} (h : Ref x x') : Ref (x.map f) (x'.map f) := h.bind fun _ => Ref.refl _
theorem Ref.all {α : Type} {Q : α → Prop} : ∀ {x y : ND α}, Ref x y → x.all Q → y.all Q
  | .ok a, y, h, hq => by cases h; exact hq
  | .bad _, y, h, hq => hq.elim
  | .pick n k, y, h, hq => by
    obtain ⟨k', rfl, h3⟩ := h
    exact fun i hi => (h3 i).all (hq i hi)
theorem Ref.ok {α : Type} {x y : ND α} {a : α} (h : Ref x y) (hx : x = .ok a) : y = .ok a := by subst hx; exact h
theorem Ref.ofO {α : Type} (s s' : String) (o : Option α) : Ref (ND.of s o) (ND.of s' o) := by
  cases o with
  | none => trivial
  | some a => rfl
theorem bind_assoc {α β γ : Type} (x : ND α) (f : α → ND β) (g : β → ND γ) : (x.bind f).bind g = x.bind fun a => (f a).bind g := by
  induction x with
  | ok a => rfl
  | bad s => rfl
  | pick n k ih => simp only [ND.bind]; congr 1; funext i; exact ih i
section
variable {cf : CallF}
theorem callIso_str (s s' : String) (f : LV) (args : List LV) (h : Heap) : Ref (callIso s cf f args h) (callIso s' cf f args h) := by
  unfold callIso
  cases pureV pureDepth h f with
  | none => trivial
  | some f' =>
    cases args.mapM (pureV pureDepth h) with
    | none => trivial
    | some args' =>
      refine (Ref.refl _).bind fun a => ?_
      obtain ⟨v, h'⟩ := a
      simp only
      cases pureV pureDepth h' v with
      | none => trivial
      | some u =>
        simp only
        cases (f.refs.isEmpty && (refsL args).isEmpty) || u.flat with
        | true => rfl
        | false => trivial
end
end Go.LH


set_option linter.unusedVariables false
set_option linter.unusedSimpArgs false
namespace Go.LH
section
variable {K : Ctx} {cf : CallF} {d : Option Nat} {σ : Fr}
def qstep (c : Nat) (d : Option Nat) (σ : Fr) (s : String) (q : Option (LV × Option Blk)) : ND (Nat × Fr) :=
  match q with
  | some (v, none) => .ok (c, { σ with t := putT σ.t d v })
  | some (v, some b) => .ok (1, { σ with t := putT σ.t d v, h := σ.h ++ [some b] })
  | none => .bad s
theorem put_ref {c : Nat} {s : String} {ov : Option LV} {q : Option (LV × Option Blk)} (h : ∀ v, ov = some v → q = some (v, none)) : Ref (put1 c d σ ov) (qstep c d σ s q) := by
  cases ov with
  | none => trivial
  | some v => rw [h v rfl]; rfl
theorem map_none {o : Option LV} {v : LV} (h : o = some v) : (o.map fun v => ((v, none) : LV × Option Blk)) = some (v, none) := by rw [h]; rfl
theorem fill_eq (fs : List (Nat × Nat)) (t : List LV) : ∀ (l : List (Nat × Operand)) (l' : List (Nat × Nat × RV)) (cells : List LV), places K fs l = some l' →
    fillL (fun i => (fs[i]?).map fun (off, ft) => (off, (K.ti ft).sz)) cells (l.map fun (i, x) => (i, ev K t x)) = fillR t cells l'
  | [], l', cells, h => by cases h; rfl
  | (i, x) :: r, l', cells, h => by
    simp only [places] at h
    cases hf : fs[i]? with
    | none => rw [hf] at h; cases h
    | some p =>
      obtain ⟨off, ft⟩ := p
      rw [hf] at h
      cases hp : places K fs r with
      | none => rw [hp] at h; cases h
      | some l =>
        rw [hp] at h
        cases h
        simp only [List.map_cons, fillL, fillR, hf, Option.map_some, rv_ev]
        cases (ev K t x).cells with
        | none => rfl
        | some cs =>
          simp only
          by_cases e : cs.length = (K.ti ft).sz
          · have e' : (cs.length == (K.ti ft).sz) = true := by simpa using e
            rw [if_pos e, e', cond_true]
            congr 1
            funext c
            exact fill_eq fs t r l c hp
          · have e' : (cs.length == (K.ti ft).sz) = false := by simpa using e
            rw [if_neg e, e', cond_false]
theorem binP_eq {op : BinOp} {t : Nat} {x y v : LV} (h : binP op x y = some v) : binV K op t x y = some v := by
  unfold binP at h
  unfold binV
  split at h
  · rename_i k a k' b
    simp only
    cases hs : isShift op with
    | true => rw [hs] at h; simpa using h
    | false =>
      rw [hs] at h
      simp only [Bool.false_or, cond_false] at h ⊢
      by_cases e : k = k'
      · rw [if_pos e]; simpa [e] using h
      · have : (k == k') = false := by simpa using e
        rw [this] at h; cases h
  · exact h
  · cases h
theorem binB_eq {op : BinOp} {t : Nat} {x y v : LV} (hk : (K.ti t).k = .prim) (he : (K.ti t).eq = some [.b]) (h : binBV op x y = some v) : binV K op t x y = some v := by
  unfold binBV at h
  split at h
  · rename_i a b
    have e : eqV K t (.bool a) (.bool b) = some (a == b) := by
      unfold eqV
      have h1 : ∀ c : Bool, keyOk K t (.bool c) = true := fun c => by simp [keyOk, hk, he, kindsOk, ekOf]
      rw [h1, h1]
      rfl
    split at h
    · cases h; simp [binV, e]
    · cases h; simp [binV, e]
    · cases h
  · cases h
theorem eqs_eq {t : Nat} {fs : List (Nat × Nat)} {ks : List EK} {x y v : LV} (neg : Bool) (hk : (K.ti t).k = .struct fs) (he : (K.ti t).eq = some ks) (h : eqsV neg ks x y = some v) : binV K (bif neg then .neq else .eql) t x y = some v := by
  unfold eqsV at h
  split at h
  · rename_i a b
    cases h1 : kindsOk a ks && kindsOk b ks with
    | false => rw [h1] at h; cases h
    | true =>
      rw [h1] at h
      cases h
      simp only [Bool.and_eq_true] at h1
      have e : eqV K t (.agg a) (.agg b) = some (eqC a b) := by
        unfold eqV
        have h2 : keyOk K t (.agg a) = true := by simp [keyOk, hk, he, h1.1]
        have h3 : keyOk K t (.agg b) = true := by simp [keyOk, hk, he, h1.2]
        rw [h2, h3]
        rfl
      cases neg <;> simp [binV, e]
  · cases h
theorem ixa_eq {t n e : Nat} (hk : (K.ti t).k = .arr n e) (hh : K.has e = true) (h : Heap) (x ix : LV) : indexV K h t x ix = ixaV n (K.ti e).sz x ix := by
  unfold indexV ixaV
  cases ix <;> try rfl
  rename_i k i
  simp only [hk, hh, Bool.and_true]
theorem iva_eq {t n e : Nat} {m : Option Nat} (hk : (K.ti t).k = .arr n e) (hh : K.has e = true) (hm : packN K e = some m) {x ix v : LV} (h : ivaV m n (K.ti e).sz x ix = some v) : indexVal K t x ix = some v := by
  unfold ivaV at h
  split at h
  · rename_i k i cs
    unfold indexVal
    simp only [hk, hh, Bool.and_true, part_eq hm]
    exact h
  · cases h
theorem ivs_eq {t : Nat} (hk : (K.ti t).k = .prim) (he : (K.ti t).eq = some [.s]) {x ix v : LV} (h : ivsV x ix = some v) : indexVal K t x ix = some v := by
  unfold ivsV at h
  split at h
  · unfold indexVal
    simp only [hk, he, decide_true, cond_true]
    exact h
  · cases h
theorem gen_ref (o : Op) : Ref (rone K cf d (.gen o) σ) (ro1 K cf d o σ) := Ref.refl _
theorem evs (l : List Operand) (t : List LV) : (l.map (rv K)).map (·.ev t) = l.map (ev K t) := by
  rw [List.map_map]
  exact List.map_congr_left fun x _ => rv_ev K t x
theorem xv_put {c : Nat} {s : String} {ov : Option LV} {q : Option (LV × Option Blk)} (h : ∀ v, ov = some v → q = some (v, none)) :
    Ref ((xv c σ.h ov).bind fun (c, v, φ, h) => (ND.ok (c, ({ σ with t := putT (mapO φ σ.t) d v, h := h } : Fr)) : ND (Nat × Fr))) (qstep c d σ s q) := by
  cases ov with
  | none => trivial
  | some v => rw [h v rfl]; rfl
theorem x1 (x : Operand) : [rv K x].map (·.ev σ.t) = [ev K σ.t x] := by simp [rv_ev]
theorem x2 (x y : Operand) : [rv K x, rv K y].map (·.ev σ.t) = [ev K σ.t x, ev K σ.t y] := by simp [rv_ev]
theorem x3 (x y z : Operand) : [rv K x, rv K y, rv K z].map (·.ev σ.t) = [ev K σ.t x, ev K σ.t y, ev K σ.t z] := by simp [rv_ev]
theorem keyR_eq {t : Nat} {agg : Bool} {ks : List EK} (h : keyKind K t = some (agg, ks)) (v : LV) : keyR agg ks v = true → keyOk K t v = true := by
  unfold keyKind at h
  intro hk
  unfold keyOk
  cases he : (K.ti t).eq with
  | none => rw [he] at h; cases h
  | some ks' =>
    rw [he] at h
    cases hkk : (K.ti t).k with
    | prim => rw [hkk] at h; cases h; simpa [keyR] using hk
    | struct fs =>
      rw [hkk] at h
      cases h
      cases v <;> first | (simp [keyR] at hk; done) | simpa [keyR] using hk
    | _ => rw [hkk] at h; cases h
theorem isnil_eq {op : BinOp} {t : Nat} {k : TK} {neg : Bool} {x y v : LV} (he : (K.ti t).eq = none) (hk : (K.ti t).k = k) (hop : op = bif neg then .neq else .eql) (h : isnilV neg k x y = some v) : binV K op t x y = some v := by
  have hko : ∀ z, keyOk K t z = false := fun z => by simp [keyOk, he]
  have hn : ∀ k' a, nilS k (.int k' a) = none := fun k' a => by cases k <;> rfl
  have hs : ∀ a, nilS k (.str a) = none := fun a => by cases k <;> rfl
  unfold isnilV at h
  have hx1 : ∀ k' a, x ≠ .int k' a := fun k' a e => by subst e; rw [hn] at h; cases h
  have hx2 : ∀ a, x ≠ .str a := fun a e => by subst e; rw [hs] at h; cases h
  have e : binV K op t x y = bif neg then ((eqV K t x y).map fun b => .bool (!b)) else (eqV K t x y).map .bool := by
    subst hop
    unfold binV
    split
    · exact absurd rfl (hx1 _ _)
    · exact absurd rfl (hx2 _)
    · cases neg <;> rfl
  rw [e]
  unfold eqV
  rw [hko, hk]
  simp only [Bool.false_and, cond_false]
  split at h
  · rename_i b h1 h2; cases h; rw [h1, h2]; cases neg <;> rfl
  · rename_i h1 h2; cases h; rw [h1, h2]; cases neg <;> rfl
  · cases h
theorem mupR_eq {t kt et : Nat} {agg : Bool} {ks : List EK} (hk : (K.ti t).k = .map kt et) (hkk : keyKind K kt = some (agg, ks)) {h h' : Heap} {m k v : LV} (e : mupR kt agg ks h m k v = some h') : updateV K h t m k v = some h' := by
  unfold mupR at e
  unfold updateV
  rw [hk]
  cases m with
  | map b =>
    simp only at e ⊢
    cases hko : keyR agg ks k with
    | false => rw [hko] at e; cases e
    | true =>
      rw [hko] at e
      rw [keyR_eq hkk k hko]
      exact e
  | _ => cases e
theorem lkuR_eq {t kt et : Nat} {agg ok : Bool} {ks : List EK} (hk : (K.ti t).k = .map kt et) (hkk : keyKind K kt = some (agg, ks)) (hz : ((K.ti et).zok && K.has et) = true) {h : Heap} {m k v : LV} (e : lkuR agg ks (zeroV K et) ok k (mapOf kt h m) = some v) : lookupV K h t m k ok = some v := by
  unfold lkuR at e
  unfold lookupV
  rw [hk]
  simp only
  cases hko : keyR agg ks k with
  | false => rw [hko] at e; cases e
  | true =>
    rw [hko] at e
    rw [keyR_eq hkk k hko]
    simp only [cond_true] at e
    simp only [cond_true]
    rw [hz]
    exact e
theorem appR_eq {t et : Nat} (hk : (K.ti t).k = .slice et) (hc : (decide (0 < (K.ti et).sz) && decide ((K.ti et).by_ ≤ 65536) && (K.ti et).zok && K.has et) = true) {h : Heap} {x y : LV} {r : LV × Option Nat × Heap} (e : appR (K.ti et).sz et h x y = some r) : appendV K h t x y = some r := by
  have hh : K.has et = true := by simp only [Bool.and_eq_true] at hc; exact hc.2
  unfold appR at e
  unfold appendV
  rw [hk]
  simp only
  cases hel : elemsOf h (K.ti et).sz y with
  | none => rw [hel] at e; cases e
  | some p =>
    obtain ⟨new, pn⟩ := p
    rw [hel] at e
    simp only [hc, cond_true]
    cases x with
    | sl s' nl ex es =>
      cases ex with
      | false => cases e
      | true => simpa [hh] using e
    | row b s' v =>
      simp only [hh, Bool.and_true] at e ⊢
      exact e
    | _ => cases e
theorem clrX_eq {t et : Nat} (hk : (K.ti t).k = .slice et) (hz : ((K.ti et).zok && K.has et) = true) (x : LV) (s : String) :
    Ref ((clrX (K.ti et).sz (K.ti et).zero σ.h x).bind fun (c, v, φ, h) => (ND.ok (c, ({ σ with t := putT (mapO φ σ.t) d v, h := h } : Fr)) : ND (Nat × Fr)))
      ((ND.of s (clearV K σ.h t x)).map fun h => (2, ({ σ with t := putT σ.t d (.tup []), h } : Fr))) := by
  unfold clrX clearV
  rw [hk]
  cases x with
  | sl s' nl ex es => cases es <;> first | rfl | trivial
  | row b s' v =>
    simp only
    cases σ.h.getD b none with
    | none => trivial
    | some y =>
      cases y with
      | row pu mv es s'' e =>
        simp only
        simp only [Bool.and_eq_true] at hz
        cases h1 : s' == s'' with
        | false => trivial
        | true =>
          cases h2 : (K.ti et).sz == s' with
          | false => trivial
          | true =>
            simp only [hz.1, hz.2, Bool.and_self, cond_true]
            cases v with
            | none => rfl
            | some w =>
              obtain ⟨off, n⟩ := w
              simp only
              cases decide (off + n ≤ es.length) with
              | false => trivial
              | true => rfl
      | _ => trivial
  | _ => trivial
theorem bsl_zip (ps : List (Nat × Operand)) : (ps.map (·.1)).zip ((ps.map fun p => rv K p.2).map (·.ev σ.t)) = ps.map fun (i, x) => (i, ev K σ.t x) := by
  induction ps with
  | nil => rfl
  | cons p ps ih => obtain ⟨i, x⟩ := p; simp only [List.map_cons, List.zip_cons_cons, ih, rv_ev]
theorem bsl_refs (ps : List (Nat × Operand)) : refsL ((ps.map fun p => rv K p.2).map (·.ev σ.t)) = ps.flatMap fun (_, x) => (ev K σ.t x).refs := by
  induction ps with
  | nil => rfl
  | cons p ps ih => obtain ⟨i, x⟩ := p; simp only [List.map_cons, refsL, List.flatMap_cons, ih, rv_ev]
theorem cal_ref {c : Call} {f : Operand} (hcl : c.callee = .value f) : Ref (rone K cf d (.x .cal (rv K f :: c.args.toList.map (rv K))) σ) (ro1 K cf d (.call c) σ) := by
  simp only [rone, List.map_cons, rv_ev, evs, xsem]
  unfold calX
  cases hi : isoOf K (ev K σ.t f) == 0 with
  | true =>
    have h2 : (isoOf K (ev K σ.t f) == 2) = false := by
      have : isoOf K (ev K σ.t f) = 0 := by simpa using hi
      rw [this]; rfl
    have e1 : ro1 K cf d (.call c) σ = (callShared cf (ev K σ.t f) (c.args.toList.map (ev K σ.t)) σ).map fun (v, σ') => (3, ({ σ' with t := putT σ'.t d v } : Fr)) := by
      unfold ro1 runOp
      simp only [preFrz, hcl, h2, cond_false, opStep, hi, cond_true]
    rw [e1]
    simp only [cond_true, callShared, ND.map, bind_assoc]
    exact (Ref.refl _).bind fun a => rfl
  | false =>
    simp only [cond_false]
    cases hl : (bif isoOf K (ev K σ.t f) == 2 then (ev K σ.t f).refs ++ refsL (c.args.toList.map (ev K σ.t)) else []) with
    | cons a l => trivial
    | nil =>
      have e1 : ro1 K cf d (.call c) σ = (callIso (whyOf { dst := d, op := .call c, type := 0, pos := "", after := #[], guard := none }) cf (ev K σ.t f) (c.args.toList.map (ev K σ.t)) σ.h).map fun v => (1, ({ σ with t := putT σ.t d v } : Fr)) := by
        unfold ro1 runOp
        simp only [preFrz, hcl, hl, opStep, hi, cond_false]
      rw [e1]
      simp only [ND.map, bind_assoc]
      exact (callIso_str _ _ _ _ _).bind fun a => rfl
theorem rone_ref (o : Op) : Ref (rone K cf d (res K σ.fn d o) σ) (ro1 K cf d o σ) := by
  cases o with
  | move x => exact put_ref (c := 0) (s := "") (ov := some ((rv K x).ev σ.t)) (q := some (ev K σ.t x, none)) (fun v h => by rw [rv_ev] at h; cases h; rfl)
  | assign x => exact put_ref (c := 0) (s := "") (ov := some ((rv K x).ev σ.t)) (q := some (ev K σ.t x, none)) (fun v h => by rw [rv_ev] at h; cases h; rfl)
  | pick c a b =>
    refine put_ref (c := 0) (s := whyOf _) (q := qop K σ.h.length σ.h (ev K σ.t) (.pick c a b)) (fun v h => ?_)
    rw [rv_ev, rv_ev, rv_ev] at h
    simp only [qop]
    unfold pickR at h
    split at h
    · rename_i p hp; cases h; simp only [hp]
    · cases h
  | alloc t =>
    simp only [res]
    cases hb : (K.ti t).zok && K.has t with
    | false => exact gen_ref _
    | true =>
      show Ref (ND.ok _) (qstep 1 d σ _ (qop K σ.h.length σ.h (ev K σ.t) (.alloc t)))
      simp only [qop, hb, cond_true]
      rfl
  | box t x =>
    simp only [res]
    show Ref (boxR d t σ ((rv K x).ev σ.t).cells) (qstep 1 d σ _ (qop K σ.h.length σ.h (ev K σ.t) (.box t x)))
    rw [rv_ev]
    simp only [qop]
    cases (ev K σ.t x).cells with
    | none => trivial
    | some cs => rfl
  | build t ps =>
    simp only [res]
    split
    · rename_i fs hk
      cases hb : (K.ti t).zok && fs.all (fun f => K.has f.2) with
      | false => exact gen_ref _
      | true =>
        simp only [cond_true]
        split
        · rename_i l hl
          refine put_ref (c := 0) (s := whyOf _) (q := qop K σ.h.length σ.h (ev K σ.t) (.build t ps)) (fun v h => ?_)
          simp only [qop, hk, hb, Bool.not_true, cond_false]
          rw [fill_eq fs σ.t ps.toList l _ hl]
          obtain ⟨cs, h1, rfl⟩ := Option.map_eq_some_iff.1 h
          rw [h1]; rfl
        · exact gen_ref _
    · exact gen_ref _
  | load t a =>
    simp only [res]
    split
    · rename_i m hm
      refine put_ref (c := 1) (s := whyOf _) (q := qop K σ.h.length σ.h (ev K σ.t) (.load t a)) (fun v h => ?_)
      rw [rv_ev] at h
      simp only [qop, ld_eq hm]
      exact map_none h
    · exact gen_ref _
  | store t a x =>
    simp only [res]
    cases hh : K.has t with
    | false => exact gen_ref _
    | true =>
      simp only [cond_true, rone]
      split
      · rename_i hpre
        have e : ro1 K cf d (.store t a x) σ = opStep K cf { dst := d, op := .store t a x, type := 0, pos := "", after := #[], guard := none } σ := by
          unfold ro1 runOp
          simp only [preFrz, hpre]
        rw [e]
        simp only [opStep]
        rw [st_eq rfl hh]
        cases stV (K.ti t).sz σ.h (ev K σ.t a) (ev K σ.t x) with
        | none => trivial
        | some h => rfl
      · exact Ref.refl _
  | fieldAddr t x f =>
    simp only [res]
    split
    · rename_i fs hk
      split
      · rename_i off ft hf
        cases hb : decide (0 < (K.ti ft).sz) && K.has ft with
        | false => exact gen_ref _
        | true =>
          refine put_ref (c := 0) (s := whyOf _) (q := qop K σ.h.length σ.h (ev K σ.t) (.fieldAddr t x f)) (fun v h => ?_)
          rw [rv_ev] at h
          simp only [qop, hk, hf, hb, cond_true]
          exact map_none h
      · exact gen_ref _
    · exact gen_ref _
  | field t x f =>
    simp only [res]
    split
    · rename_i fs hk
      split
      · rename_i off ft hf
        split
        · rename_i m hm
          refine put_ref (c := 0) (s := whyOf _) (q := qop K σ.h.length σ.h (ev K σ.t) (.field t x f)) (fun v h => ?_)
          rw [rv_ev] at h
          simp only [qop]
          refine map_none ?_
          unfold fieldV
          rw [hk]
          split at h
          · rename_i cs hcs
            rw [hcs]
            simp only [hf, part_eq hm]
            exact h
          · cases h
        · exact gen_ref _
      · exact gen_ref _
    · exact gen_ref _
  | indexAddr t x i =>
    simp only [res]
    split
    · rename_i e hk
      cases hh : K.has e with
      | false => exact gen_ref _
      | true =>
        refine put_ref (c := 1) (s := whyOf _) (q := qop K σ.h.length σ.h (ev K σ.t) (.indexAddr t x i)) (fun v h => ?_)
        rw [rv_ev, rv_ev] at h
        simp only [qop, ix_eq hk rfl hh]
        exact map_none h
    · rename_i n e hk
      cases hh : K.has e with
      | false => exact gen_ref _
      | true =>
        refine put_ref (c := 1) (s := whyOf _) (q := qop K σ.h.length σ.h (ev K σ.t) (.indexAddr t x i)) (fun v h => ?_)
        rw [rv_ev, rv_ev] at h
        simp only [qop, ixa_eq hk hh]
        exact map_none h
    · exact gen_ref _
  | index t x i =>
    simp only [res]
    split
    · rename_i n e hk
      split
      · rename_i m hm
        cases hh : K.has e with
        | false => exact gen_ref _
        | true =>
          refine put_ref (c := 0) (s := whyOf _) (q := qop K σ.h.length σ.h (ev K σ.t) (.index t x i)) (fun v h => ?_)
          rw [rv_ev, rv_ev] at h
          simp only [qop]
          exact map_none (iva_eq hk hh hm h)
      · exact gen_ref _
    · rename_i hk
      cases he : decide ((K.ti t).eq = some [.s]) with
      | false => exact gen_ref _
      | true =>
        refine put_ref (c := 0) (s := whyOf _) (q := qop K σ.h.length σ.h (ev K σ.t) (.index t x i)) (fun v h => ?_)
        rw [rv_ev, rv_ev] at h
        simp only [qop]
        exact map_none (ivs_eq hk (by simpa using he) h)
    · exact gen_ref _
  | binOp op t x y z =>
    simp only [res]
    split
    · rename_i he hk
      refine put_ref (c := 0) (s := whyOf _) (q := qop K σ.h.length σ.h (ev K σ.t) (.binOp op t x y z)) (fun v h => ?_)
      rw [rv_ev, rv_ev] at h
      simp only [qop]
      exact map_none (binB_eq hk he h)
    · refine put_ref (c := 0) (s := whyOf _) (q := qop K σ.h.length σ.h (ev K σ.t) (.binOp op t x y z)) (fun v h => ?_)
      rw [rv_ev, rv_ev] at h
      simp only [qop]
      exact map_none (binP_eq h)
    · rename_i ks fs he hk
      split
      · refine put_ref (c := 0) (s := whyOf _) (q := qop K σ.h.length σ.h (ev K σ.t) (.binOp .eql t x y z)) (fun v h => ?_)
        rw [rv_ev, rv_ev] at h
        simp only [qop]
        exact map_none (eqs_eq false hk he h)
      · refine put_ref (c := 0) (s := whyOf _) (q := qop K σ.h.length σ.h (ev K σ.t) (.binOp .neq t x y z)) (fun v h => ?_)
        rw [rv_ev, rv_ev] at h
        simp only [qop]
        exact map_none (eqs_eq true hk he h)
      · exact gen_ref _
    · rename_i k he
      cases nilK (K.ti t).k with
      | false => exact gen_ref _
      | true =>
        simp only [cond_true]
        split
        · simp only [rone, x2, xsem]
          refine xv_put (c := 0) (s := whyOf _) (q := qop K σ.h.length σ.h (ev K σ.t) (.binOp .eql t x y z)) (fun v h => ?_)
          simp only [qop]
          exact map_none (isnil_eq he rfl rfl h)
        · simp only [rone, x2, xsem]
          refine xv_put (c := 0) (s := whyOf _) (q := qop K σ.h.length σ.h (ev K σ.t) (.binOp .neq t x y z)) (fun v h => ?_)
          simp only [qop]
          exact map_none (isnil_eq he rfl rfl h)
        · exact gen_ref _
    · exact gen_ref _
  | nilCheck x =>
    simp only [res, rone, x1, xsem]
    refine xv_put (c := 0) (s := whyOf _) (q := qop K σ.h.length σ.h (ev K σ.t) (.nilCheck x)) (fun v h => ?_)
    simp only [qop]
    unfold nckV at h
    split at h <;> first | (cases h; done) | skip
    all_goals (rename_i hx; cases h; rw [hx])
  | buildSlice t len ps =>
    simp only [res]
    split
    · rename_i et hk
      cases hb : decide (len * (K.ti et).sz ≤ 16777216) && (K.ti et).zok && K.has et with
      | false => exact gen_ref _
      | true =>
        simp only [cond_true, rone, xsem, bsl_zip, bsl_refs]
        split
        · rename_i hpre
          have e : ro1 K cf d (.buildSlice t len ps) σ = opStep K cf { dst := d, op := .buildSlice t len ps, type := 0, pos := "", after := #[], guard := none } σ := by
            unfold ro1 runOp
            have : preFrz K { dst := d, op := .buildSlice t len ps, type := 0, pos := "", after := #[], guard := none } σ = [] := by
              simp only [preFrz]
              cases hr : K.rows σ.fn (d.getD 0) with
              | true => rfl
              | false => rw [hr] at hpre; exact hpre
            rw [this]
          rw [e]
          simp only [opStep, qop, hk, hb, cond_true]
          unfold bslR
          cases fillE (K.ti et).sz (List.replicate len (K.ti et).zero) (ps.toList.map fun (i, x) => (i, ev K σ.t x)) with
          | none => trivial
          | some es =>
            simp only
            cases hr : K.rows σ.fn (d.getD 0) with
            | true =>
              simp only [cond_true]
              cases hn : noRefs es && decide (0 < (K.ti et).sz) with
              | false => trivial
              | true =>
                simp only [Bool.and_eq_true] at hn
                simp only [cond_true, hn.1, hn.2, Bool.true_or, Bool.and_self, asRow, hk]
                rfl
            | false =>
              simp only [cond_false]
              cases hn : noRefs es && (decide (0 < (K.ti et).sz) || es.isEmpty) with
              | true => rfl
              | false =>
                simp only [cond_false]
                cases decide (0 < (K.ti et).sz) with
                | false => trivial
                | true => rfl
        · trivial
    · exact gen_ref _
  | makeMap t r =>
    cases r with
    | some r => exact gen_ref _
    | none =>
      simp only [res]
      split
      · rename_i kt et hk
        show Ref (ND.ok _) (qstep 1 d σ _ (qop K σ.h.length σ.h (ev K σ.t) (.makeMap t none)))
        simp only [qop, hk]
        rfl
      · exact gen_ref _
  | mapUpdate t m k v =>
    simp only [res]
    split
    · rename_i kt et hk
      split
      · rename_i agg ks hkk
        simp only [rone, x3, xsem]
        split
        · rename_i hpre
          have e : ro1 K cf d (.mapUpdate t m k v) σ = opStep K cf { dst := d, op := .mapUpdate t m k v, type := 0, pos := "", after := #[], guard := none } σ := by
            unfold ro1 runOp
            simp only [preFrz, hpre]
          rw [e]
          simp only [opStep]
          cases hu : mupR kt agg ks σ.h (ev K σ.t m) (ev K σ.t k) (ev K σ.t v) with
          | none => trivial
          | some h' => rw [mupR_eq hk hkk hu]; rfl
        · trivial
      · exact gen_ref _
    · exact gen_ref _
  | insert t m k v =>
    simp only [res]
    split
    · rename_i kt et hk
      split
      · rename_i agg ks hkk
        simp only [rone, x3, xsem]
        split
        · rename_i hpre
          have e : ro1 K cf d (.insert t m k v) σ = opStep K cf { dst := d, op := .insert t m k v, type := 0, pos := "", after := #[], guard := none } σ := by
            unfold ro1 runOp
            simp only [preFrz, hpre]
          rw [e]
          simp only [opStep]
          cases hu : mupR kt agg ks σ.h (ev K σ.t m) (ev K σ.t k) (ev K σ.t v) with
          | none => trivial
          | some h' => rw [mupR_eq hk hkk hu]; rfl
        · trivial
      · exact gen_ref _
    · exact gen_ref _
  | lookup t m k ok =>
    simp only [res]
    split
    · rename_i kt et hk
      split
      · rename_i agg ks hkk
        cases hz : (K.ti et).zok && K.has et with
        | false => exact gen_ref _
        | true =>
          simp only [cond_true, rone, x2, xsem]
          refine xv_put (c := 1) (s := whyOf _) (q := qop K σ.h.length σ.h (ev K σ.t) (.lookup t m k ok)) (fun v h => ?_)
          simp only [qop]
          exact map_none (lkuR_eq hk hkk hz h)
      · exact gen_ref _
    · exact gen_ref _
  | range t x =>
    simp only [res]
    split
    · rename_i kt et hk
      simp only [rone, x1, xsem]
      show Ref _ (qstep 1 d σ _ (qop K σ.h.length σ.h (ev K σ.t) (.range t x)))
      simp only [qop, hk]
      unfold rngX
      cases ev K σ.t x with
      | nmap => rfl
      | pmap kt' ks vs => rfl
      | map b =>
        simp only
        cases σ.h.getD b none with
        | none => trivial
        | some y =>
          cases y with
          | map pu kt' ks vs => rfl
          | _ => trivial
      | _ => trivial
    · exact gen_ref _
  | next x b =>
    cases b with
    | true => exact gen_ref _
    | false =>
      simp only [res, rone, x1, xsem]
      have e : ro1 K cf d (.next x false) σ = match ev K σ.t x with
          | .ptr b 0 => (nextL σ.t b σ.h d).map fun (t, h) => (2, ({ σ with t, h } : Fr))
          | _ => .bad (whyOf { dst := d, op := .next x false, type := 0, pos := "", after := #[], guard := none }) := rfl
      rw [e]
      unfold nxtX
      split
      · rename_i b hx
        simp only [hx, nextL]
        cases σ.h.getD b none with
        | none => trivial
        | some y =>
          cases y with
          | iter m ks vs l =>
            cases ks with
            | nil => rfl
            | cons k ks => exact ⟨_, rfl, fun i => rfl⟩
          | _ => trivial
      · trivial
  | entry x =>
    simp only [res, rone, x1, xsem]
    refine xv_put (c := 1) (s := whyOf _) (q := qop K σ.h.length σ.h (ev K σ.t) (.entry x)) (fun v h => ?_)
    simp only [qop]
    unfold entV at h
    split at h
    · rename_i b hx
      rw [hx]
      simp only
      split at h
      · rename_i a b' c k' v' hg; cases h; rw [hg]
      · cases h
    · cases h
  | makeSlice t l c =>
    simp only [res]
    split
    · rename_i et hk
      cases hb : decide ((K.ti et).by_ ≤ 65536) && (K.ti et).zok && K.has et && decide (0 < (K.ti et).sz) with
      | false => exact gen_ref _
      | true =>
        simp only [cond_true, rone, x2, xsem]
        show Ref _ (qstep 1 d σ _ (qop K σ.h.length σ.h (ev K σ.t) (.makeSlice t l c)))
        simp only [qop, hk]
        simp only [Bool.and_eq_true] at hb
        unfold mslX
        cases ev K σ.t l with
        | int k1 n =>
          cases ev K σ.t c with
          | int k2 m =>
            simp only [hb.1.1.1, hb.1.1.2, hb.1.2, hb.2, Bool.and_true]
            cases (decide (0 ≤ n) && n == m && decide (n ≤ 1048576)) with
            | false => trivial
            | true => rfl
          | _ => trivial
        | _ => trivial
    · exact gen_ref _
  | makeInterface t x =>
    simp only [res]
    cases hb : K.has t && (K.ti t).k != .iface with
    | false => exact gen_ref _
    | true =>
      simp only [cond_true, rone, x1, xsem]
      refine xv_put (c := 0) (s := whyOf _) (ov := some (.ifc t (ev K σ.t x))) (q := qop K σ.h.length σ.h (ev K σ.t) (.makeInterface t x)) (fun v h => ?_)
      cases h
      simp only [qop, hb, cond_true]
  | unOp op t x =>
    refine put_ref (c := 0) (s := whyOf _) (q := qop K σ.h.length σ.h (ev K σ.t) (.unOp op t x)) (fun v h => ?_)
    rw [rv_ev] at h
    simp only [qop]
    exact map_none h
  | convert src dst x =>
    simp only [res]
    split
    · rename_i k hk
      cases hb : K.has src && K.has dst with
      | false => exact gen_ref _
      | true =>
        refine put_ref (c := 0) (s := whyOf _) (q := qop K σ.h.length σ.h (ev K σ.t) (.convert src dst x)) (fun v h => ?_)
        rw [rv_ev] at h
        simp only [qop, hk]
        unfold cvV at h
        split at h
        · rename_i k' n hn; cases h; simp only [hn, hb, cond_true]
        · cases h
    · exact gen_ref _
  | extract x i =>
    refine put_ref (c := 0) (s := whyOf _) (q := qop K σ.h.length σ.h (ev K σ.t) (.extract x i)) (fun v h => ?_)
    rw [rv_ev] at h
    simp only [qop]
    unfold extV at h
    split at h
    · rename_i vs hvs; simp only [hvs]; exact map_none h
    · cases h
  | slice t x lo hi m =>
    simp only [res]
    split
    · rename_i e hk
      cases hh : K.has e with
      | false => exact gen_ref _
      | true =>
        refine put_ref (c := 1) (s := whyOf _) (q := qop K σ.h.length σ.h (ev K σ.t) (.slice t x lo hi m)) (fun v h => ?_)
        simp only [Option.map_map] at h
        have e' : ((·.ev σ.t) ∘ rv K) = ev K σ.t := by funext x; exact rv_ev K σ.t x
        rw [rv_ev, show (fun x => RV.ev σ.t x) ∘ rv K = ev K σ.t from e'] at h
        simp only [qop]
        rcases slc_eq hk rfl hh σ.h (ev K σ.t x) (lo.map (ev K σ.t)) (hi.map (ev K σ.t)) (m.map (ev K σ.t)) with h1 | h1
        · rw [← h1]; exact map_none h
        · rw [h1] at h; cases h
    · exact gen_ref _
  | makeFunc f first caps =>
    cases f with
    | func g =>
      refine put_ref (c := 0) (s := "") (ov := some (.fn (.func g) ((first.toList.map (rv K)).map (·.ev σ.t)) ((caps.toList.map (rv K)).map (·.ev σ.t)))) (q := qop K σ.h.length σ.h (ev K σ.t) (.makeFunc (.func g) first caps)) (fun v h => ?_)
      rw [evs, evs] at h
      cases h
      rfl
    | _ => exact gen_ref _
  | call c =>
    simp only [res]
    split
    · rename_i x hcl hargs
      split
      · rename_i t ht
        split
        · rename_i e hk
          have e1 : ro1 K cf d (.call c) σ = qstep 1 d σ (whyOf { dst := d, op := .call c, type := 0, pos := "", after := #[], guard := none }) ((lenOf K σ.h t (ev K σ.t x)).map fun (n : Nat) => (LV.int .i64 (n : Int), none)) := by
            unfold ro1 runOp
            simp only [preFrz, hcl, opStep, hargs, List.map_cons, List.map_nil, qop, ht]
            cases lenOf K σ.h t (ev K σ.t x) <;> rfl
          rw [e1]
          refine put_ref (fun v h => ?_)
          rw [rv_ev] at h
          unfold lenSV at h
          unfold lenOf
          rw [hk]
          split at h
          · rename_i hx; cases h; rw [hx]; rfl
          · rename_i hx
            rw [hx]
            simp only
            split at h
            · rename_i hg; cases h; rw [hg]; rfl
            · cases h
          · rename_i hx; cases h; rw [hx]; rfl
          · rename_i hx; cases h; rw [hx]; rfl
          · cases h
        · rename_i hk
          cases he : decide ((K.ti t).eq = some [.s]) with
          | false => exact gen_ref _
          | true =>
            have e1 : ro1 K cf d (.call c) σ = qstep 1 d σ (whyOf { dst := d, op := .call c, type := 0, pos := "", after := #[], guard := none }) ((lenOf K σ.h t (ev K σ.t x)).map fun (n : Nat) => (LV.int .i64 (n : Int), none)) := by
              unfold ro1 runOp
              simp only [preFrz, hcl, opStep, hargs, List.map_cons, List.map_nil, qop, ht]
              cases lenOf K σ.h t (ev K σ.t x) <;> rfl
            rw [e1]
            refine put_ref (fun v h => ?_)
            rw [rv_ev] at h
            unfold lenTV at h
            unfold lenOf
            rw [hk]
            split at h
            · rename_i s hx; cases h; rw [hx]; simp only [he, cond_true]; rfl
            · cases h
        · rename_i kt et hk
          have e1 : ro1 K cf d (.call c) σ = qstep 1 d σ (whyOf { dst := d, op := .call c, type := 0, pos := "", after := #[], guard := none }) ((lenOf K σ.h t (ev K σ.t x)).map fun (n : Nat) => (LV.int .i64 (n : Int), none)) := by
            unfold ro1 runOp
            simp only [preFrz, hcl, opStep, hargs, List.map_cons, List.map_nil, qop, ht]
            cases lenOf K σ.h t (ev K σ.t x) <;> rfl
          rw [e1]
          simp only [rone, x1, xsem]
          refine xv_put (fun v h => ?_)
          unfold lenMV at h
          unfold lenOf
          rw [hk]
          cases hx : ev K σ.t x with
          | nmap => rw [hx] at h; cases h; rfl
          | pmap kt' ks vs => rw [hx] at h; cases h; rfl
          | map b =>
            rw [hx] at h
            simp only at h ⊢
            cases hg : σ.h.getD b none with
            | none => rw [hg] at h; cases h
            | some y =>
              rw [hg] at h
              cases y with
              | map pu kt' ks vs => cases h; rfl
              | _ => cases h
          | _ => rw [hx] at h; cases h
        · exact gen_ref _
      · exact gen_ref _
    · rename_i x r hcl hargs
      have e1 : ro1 K cf d (.call c) σ = qstep 1 d σ (whyOf { dst := d, op := .call c, type := 0, pos := "", after := #[], guard := none }) ((foldO maxL (ev K σ.t x) (r.map (ev K σ.t))).map fun v => (v, none)) := by
        unfold ro1 runOp
        simp only [preFrz, hcl, opStep, hargs, List.map_cons, qop]
        cases foldO maxL (ev K σ.t x) (r.map (ev K σ.t)) <;> rfl
      rw [e1]
      refine put_ref (fun v h => ?_)
      rw [rv_ev, evs] at h
      exact map_none h
    · rename_i x r hcl hargs
      have e1 : ro1 K cf d (.call c) σ = qstep 1 d σ (whyOf { dst := d, op := .call c, type := 0, pos := "", after := #[], guard := none }) ((foldO minL (ev K σ.t x) (r.map (ev K σ.t))).map fun v => (v, none)) := by
        unfold ro1 runOp
        simp only [preFrz, hcl, opStep, hargs, List.map_cons, qop]
        cases foldO minL (ev K σ.t x) (r.map (ev K σ.t)) <;> rfl
      rw [e1]
      refine put_ref (fun v h => ?_)
      rw [rv_ev, evs] at h
      exact map_none h
    · rename_i x y hcl hargs
      split
      · rename_i t t' ht ht'
        split
        · rename_i et hk
          cases hb : isSliceK (K.ti t').k && decide (0 < (K.ti et).sz) && decide ((K.ti et).by_ ≤ 65536) && (K.ti et).zok && K.has et with
          | false => exact gen_ref _
          | true =>
            simp only [Bool.and_eq_true] at hb
            have hsl := hb.1.1.1.1
            have hc : (decide (0 < (K.ti et).sz) && decide ((K.ti et).by_ ≤ 65536) && (K.ti et).zok && K.has et) = true := by
              simp only [Bool.and_eq_true]
              exact ⟨⟨⟨hb.1.1.1.2, hb.1.1.2⟩, hb.1.2⟩, hb.2⟩
            simp only [cond_true, rone, x2, xsem]
            have e1 : ro1 K cf d (.call c) σ = (ND.of (whyOf { dst := d, op := .call c, type := 0, pos := "", after := #[], guard := none }) (appendV K σ.h t (ev K σ.t x) (ev K σ.t y))).map fun (v, b, h) =>
                (3, ({ σ with t := putT (match b with | some b => σ.t.map (LV.drop b) | none => σ.t) d v, h := h } : Fr)) := by
              unfold ro1 runOp
              simp only [preFrz, hcl, opStep, hargs, List.map_cons, List.map_nil, ht, ht', hsl, Bool.not_true, cond_false]
              rfl
            rw [e1]
            cases ha : appR (K.ti et).sz et σ.h (ev K σ.t x) (ev K σ.t y) with
            | none => trivial
            | some r =>
              rw [appR_eq hk hc ha]
              obtain ⟨v, b, h⟩ := r
              cases b <;> rfl
        · exact gen_ref _
      · exact gen_ref _
    · rename_i x hcl hargs
      split
      · rename_i t ht
        split
        · rename_i et hk
          cases hz : (K.ti et).zok && K.has et with
          | false => exact gen_ref _
          | true =>
            simp only [cond_true, rone, x1, xsem]
            have e1 : ro1 K cf d (.call c) σ = (ND.of (whyOf { dst := d, op := .call c, type := 0, pos := "", after := #[], guard := none }) (clearV K σ.h t (ev K σ.t x))).map fun h => (2, ({ σ with t := putT σ.t d (.tup []), h } : Fr)) := by
              unfold ro1 runOp
              simp only [preFrz, hcl, opStep, hargs, List.map_cons, List.map_nil, ht]
            rw [e1]
            exact clrX_eq hk hz _ _
        · exact gen_ref _
      · exact gen_ref _
    · rename_i f hcl
      cases hi : K.iso f == 1 with
      | false => exact cal_ref hcl
      | true =>
        simp only [cond_true, rone]
        have hi' : K.iso f = 1 := by simpa using hi
        have e1 : ro1 K cf d (.call c) σ = (callIso (whyOf { dst := d, op := .call c, type := 0, pos := "", after := #[], guard := none }) cf (.fn (.func f) [] []) (c.args.toList.map (ev K σ.t)) σ.h).map fun v => (1, { σ with t := putT σ.t d v }) := by
          unfold ro1 runOp
          have hp : preFrz K { dst := d, op := .call c, type := 0, pos := "", after := #[], guard := none } σ = [] := by
            simp [preFrz, hcl, ev, isoOf, hi']
          rw [hp]
          simp only [opStep, hcl]
          have : (isoOf K (ev K σ.t (.func f)) == 0) = false := by simp [ev, isoOf, hi']
          rw [this]
          rfl
        rw [e1, evs]
        exact (callIso_str _ _ _ _ _).map
    · rename_i f hcl _
      first | exact cal_ref hcl | exact cal_ref ‹_›
    · exact gen_ref _
  | _ => exact gen_ref _
end
end Go.LH


set_option linter.unusedVariables false
set_option linter.unusedSimpArgs false
namespace Go.LH
structure CO where
  g : Option (Option Nat × Bool)
  d : Option Nat
  o : RO
def cop (K : Ctx) (f : Nat) (ops : Array Oper) (o : Oper) : CO := ⟨o.guard.map fun (j, b) => ((ops[j]?).bind (·.dst), b), o.dst, res K f o.dst o.op⟩
def oper0 (o : Oper) : Oper := { dst := o.dst, op := o.op, type := 0, pos := "", after := #[], guard := none }
def wantC (t : List LV) : Option (Option Nat × Bool) → Option Bool
  | none => some true
  | some (none, _) => some false
  | some (some s, b) => match t[s]? with
    | some (.bool c) => some (c == b)
    | some .un => none
    | _ => some false
def leL : List Nat → List Nat → Bool
  | [], [] => true
  | a :: as, b :: bs => Nat.ble a b && leL as bs
  | _, _ => false
def clsMax (K : Ctx) (o : Oper) : Nat :=
  bif pureOp o.op then 0 else
  match o.op with
  | .store .. | .mapUpdate .. | .insert .. | .next .. => 2
  | .call c => match c.callee with
    | .builtin .append => 3
    | .builtin .clear => 2
    | .value (.func f) => bif K.iso f == 1 then 1 else 3
    | .value _ => 3
    | _ => 1
  | _ => 1
section
variable {K : Ctx} {cf : CallF}
theorem want_c (f : Nat) (ops : Array Oper) (o : Oper) (t : List LV) : wantC t (cop K f ops o).g = wantedL o ops t := by
  unfold wantedL cop
  cases hg : o.guard with
  | none => rfl
  | some jb =>
    obtain ⟨j, b⟩ := jb
    simp only [Option.map_some, yieldedL]
    cases hd : (ops[j]?).bind (·.dst) with
    | none => simp [wantC]
    | some d =>
      simp only [Option.bind_some, wantC]
      cases ht : t[d]? with
      | none => simp
      | some v => cases v <;> simp
theorem opStep_str (o : Oper) (σ : Fr) : Ref (opStep K cf (oper0 o) σ) (opStep K cf o σ) := by
  have e : (oper0 o) = { dst := o.dst, op := o.op, type := 0, pos := "", after := #[], guard := none } := rfl
  rw [e]
  unfold opStep
  simp only
  split
  · exact (Ref.ofO _ _ _).map
  · exact (Ref.ofO _ _ _).map
  · exact (Ref.ofO _ _ _).map
  · split
    · exact Ref.refl _
    · trivial
  · split
    · cases K.rows σ.fn (o.dst.getD 0) with
      | true =>
        simp only [cond_true]
        split
        · exact Ref.refl _
        · trivial
      | false => exact Ref.refl _
    · exact Ref.refl _
    · trivial
  · rename_i c hop
    split
    · split
      · cases isSliceK (K.ti _).k with
        | true => exact (Ref.ofO _ _ _).map
        | false => trivial
      · trivial
    · split
      · exact (Ref.ofO _ _ _).map
      · trivial
    · rename_i f hcl
      cases (isoOf K (ev K σ.t f) == 0) with
      | true => exact Ref.refl _
      | false =>
        exact (callIso_str _ _ _ _ _).map
    · split
      · exact Ref.refl _
      · trivial
  · split
    · exact Ref.refl _
    · exact Ref.refl _
    · trivial
theorem leL_get : ∀ {a b : List Nat}, leL a b = true → a.length = b.length ∧ ∀ i, a.getD i 0 ≤ b.getD i 0
  | [], [], _ => ⟨rfl, fun i => Nat.le_refl _⟩
  | [], _ :: _, h => by cases h
  | _ :: _, [], h => by cases h
  | a :: as, b :: bs, h => by
    simp only [leL, Bool.and_eq_true] at h
    obtain ⟨h1, h2⟩ := leL_get h.2
    refine ⟨by simp [h1], fun i => ?_⟩
    cases i with
    | zero => exact Nat.le_of_ble_eq_true h.1
    | succ i => simpa using h2 i
theorem clClash_mono {a b a' b' : Nat} (ha : a ≤ a') (hb : b ≤ b') (hb3 : a' ≤ 3) (hb4 : b' ≤ 3) (h : clClash a b = true) : clClash a' b' = true := by
  simp only [clClash, Bool.or_eq_true, beq_iff_eq, Bool.and_eq_true, decide_eq_true_eq] at h ⊢
  omega
theorem drawOk_mono {ops : Array Oper} {cs mx : List Nat} (hm : ∀ x ∈ mx, x ≤ 3) (hle : leL cs mx = true) (h : drawOk ops mx = true) : drawOk ops cs = true := by
  obtain ⟨hl, hg⟩ := leL_get hle
  unfold drawOk at h ⊢
  simp only [Bool.and_eq_true, beq_iff_eq, List.all_eq_true] at h ⊢
  obtain ⟨⟨h1, h2⟩, h3⟩ := h
  refine ⟨⟨hl.trans h1, h2⟩, fun y hy x hx => ?_⟩
  obtain ⟨⟨oy, cy⟩, j⟩ := y
  obtain ⟨⟨ox, cx⟩, i⟩ := x
  rw [List.mem_zipIdx_iff_getElem?, List.getElem?_zip_eq_some] at hy hx
  have up : ∀ {o : Oper} {c i : Nat}, ops.toList[i]? = some o → cs[i]? = some c → ∃ c', mx[i]? = some c' ∧ c ≤ c' ∧ c' ≤ 3 ∧ ((o, c'), i) ∈ (ops.toList.zip mx).zipIdx := by
    intro o c i ho hc
    have hi : i < mx.length := by rw [← hl]; exact (List.getElem?_eq_some_iff.1 hc).1
    have hle := hg i
    rw [List.getD_eq_getElem?_getD, hc, List.getD_eq_getElem?_getD, List.getElem?_eq_getElem hi] at hle
    refine ⟨mx[i], List.getElem?_eq_getElem hi, by simpa using hle, hm _ (List.getElem_mem hi), ?_⟩
    rw [List.mem_zipIdx_iff_getElem?, List.getElem?_zip_eq_some]
    exact ⟨ho, List.getElem?_eq_getElem hi⟩
  simp only at hy hx
  obtain ⟨cy', _, y2, y3, y4⟩ := up hy.1 hy.2
  obtain ⟨cx', _, x2, x3, x4⟩ := up hx.1 hx.2
  have := h3 _ y4 _ x4
  simp only [Bool.or_eq_true, Bool.not_eq_true'] at this ⊢
  rcases this with (h4 | h4) | h4
  · exact .inl (.inl h4)
  · refine .inl (.inr ?_)
    simp only [Bool.or_eq_false_iff] at h4 ⊢
    refine ⟨h4.1, ?_⟩
    cases hcl : clClash cx cy with
    | false => rfl
    | true => rw [clClash_mono x2 y2 x3 y3 hcl] at h4; exact absurd h4.2 (by simp)
  · exact .inr h4
theorem runOp_str (o : Oper) (σ : Fr) : Ref (rone K cf o.dst (res K σ.fn o.dst o.op) σ) (runOp K cf o σ) := by
  refine (rone_ref o.op).trans ?_
  show Ref (runOp K cf (oper0 o) σ) _
  unfold runOp
  have e : preFrz K (oper0 o) σ = preFrz K o σ := rfl
  rw [e]
  split
  · exact opStep_str o σ
  · exact (opStep_str o _).map
end
end Go.LH

