/- Part of the proof: an interpreter of the program, and that the machine meets it. -/
import GoSem.Core.Code
import GoSem.Core.Program
import GoSem.Core.View
import GoSem.Core.Region
import GoSem.Core.Layout
import GoSem.Op.Equal
import Derived.RangeFuncLeaves
import Derived.RangeFuncCalls
import Derived.OrdersIn
import Derived.Laws.Cells
import Derived.Laws.Rows
import Derived.Laws.World
import Derived.Laws.Tables
import Derived.Laws.MakeOwn
set_option linter.all false

namespace Go.LH
inductive ND (α : Type) where
  | ok (a : α)
  | bad (why : String)
  | pick (n : Nat) (k : Nat → ND α)
def ND.bind {α β : Type} : ND α → (α → ND β) → ND β
  | .ok a, f => f a
  | .bad s, _ => .bad s
  | .pick n k, f => .pick n fun i => (k i).bind f
def ND.all {α : Type} (Q : α → Prop) : ND α → Prop
  | .ok a => Q a
  | .bad _ => False
  | .pick n k => ∀ i, i < n → (k i).all Q
def ND.of {α : Type} (why : String) : Option α → ND α
  | some a => .ok a
  | none => .bad why
def ND.map {α β : Type} (f : α → β) (t : ND α) : ND β := t.bind fun a => .ok (f a)
inductive LV where
  | un
  | bool (b : Bool)
  | int (k : IntKind) (n : Int)
  | str (s : ByteArray)
  | sl (s : Nat) (nl : Option Bool) (ex : Bool) (es : List (List LV))
  | row (b s : Nat) (v : Option (Nat × Nat))
  | bsl (b off s n : Nat)
  | ptr (b off : Nat)
  | rptr (b i s off : Nat)
  | eptr (cs : List LV) (off : Nat)
  | nptr
  | map (b : Nat)
  | pmap (kt : Nat) (ks vs : List LV)
  | nmap
  | fn (f : Fn) (first caps : List LV)
  | nfn
  | ifc (t : Nat) (x : LV)
  | nifc
  | agg (cs : List LV)
  | tup (cs : List LV)
  deriving Inhabited
inductive Ex where
  | normal
  | exit (id : Nat)
  | ret
  | panic (v : LV)
  deriving Inhabited
inductive Blk where
  | cells (cs : List LV) (e : Nat)
  | row (pu mv : Bool) (es : List (List LV)) (s e : Nat)
  | map (pu : Bool) (kt : Nat) (ks vs : List LV)
  | iter (b : Option Nat) (ks vs : List LV) (last : Option (LV × LV))
  | loop (fn : Nat) (t : List LV) (ps : List Nat) (asg body : Code) (st : LoopState) (pend : Ex)
  deriving Inhabited
abbrev Heap := List (Option Blk)
structure Fr where
  fn : Nat
  t : List LV
  h : Heap
  deriving Inhabited
inductive TK where
  | other
  | prim
  | func
  | iface
  | slice (e : Nat)
  | arr (n e : Nat)
  | struct (fs : List (Nat × Nat))
  | map (k e : Nat)
  | ptr (e : Nat)
  deriving Inhabited, DecidableEq
inductive EK where
  | b
  | i (k : IntKind)
  | s
  deriving DecidableEq, Inhabited
structure TI where
  k : TK
  sz : Nat
  by_ : Nat
  zero : List LV
  zok : Bool
  eq : Option (List EK)
  ik : Option IntKind
  deriving Inhabited
inductive Gh where
  | mkrow (slot s e : Nat)
  | mkrowAt (slot off s e : Nat)
  | frz (slot : Nat)
  | clr (m : List Bool)
  deriving Inhabited
structure Ctx where
  tt : List TI
  fb : Nat → Option Func
  iso : Nat → Nat
  ann : Nat → Nat → List Gh
  rows : Nat → Nat → Bool
  glob : Nat → Option (List LV)
def ofVal1 : Value → LV
  | .bool b => .bool b
  | .int k n => .int k n
  | .string s => .str s
  | .pointer none => .nptr
  | .slice none 0 0 => .sl 0 (some true) true []
  | .map none => .nmap
  | .nilFunc => .nfn
  | .nilIface => .nifc
  | .func (.func f) ⟨[]⟩ ⟨[]⟩ => .fn (.func f) [] []
  | _ => .un
def LV.known : LV → Bool
  | .un => false
  | _ => true
def ofVal : Value → LV
  | .agg cs => bif (cs.toList.map ofVal1).all LV.known then .agg (cs.toList.map ofVal1) else .un
  | v => ofVal1 v
mutual
def LV.refs : LV → List Nat
  | .ptr b _ => [b]
  | .rptr b _ _ _ => [b]
  | .row b _ _ => [b]
  | .bsl b _ _ _ => [b]
  | .map b => [b]
  | .fn f first caps => (match f with | .yield l => [l] | _ => []) ++ refsL first ++ refsL caps
  | .ifc _ x => x.refs
  | .agg cs => refsL cs
  | .tup cs => refsL cs
  | _ => []
def refsL : List LV → List Nat
  | [] => []
  | v :: vs => v.refs ++ refsL vs
end
def LV.lim (n : Nat) (v : LV) : Bool := v.refs.all fun b => decide (b < n)
def LV.clip (n : Nat) (v : LV) : LV := bif v.lim n then v else .un
def LV.drop (b : Nat) (v : LV) : LV := bif v.refs.contains b then .un else v
def Blk.mapv (f : LV → LV) : Blk → Blk
  | .cells cs e => .cells (cs.map f) e
  | .row pu mv es s e => .row pu mv (bif pu then es else es.map (·.map f)) s e
  | .map pu kt ks vs => .map pu kt ks (bif pu then vs else vs.map f)
  | .iter b ks vs l => .iter b ks (vs.map f) (l.map fun (k, v) => (k, f v))
  | .loop fn t ps a bd st p => .loop fn (t.map f) ps a bd st p
def Blk.refs : Blk → List Nat
  | .cells cs _ => refsL cs
  | .row pu _ es _ _ => bif pu then [] else es.flatMap refsL
  | .map pu _ _ vs => bif pu then [] else refsL vs
  | .iter b _ vs l => b.toList ++ refsL vs ++ (match l with | some (_, v) => v.refs | none => [])
  | .loop _ t _ _ _ _ _ => refsL t
def LV.cells : LV → Option (List LV)
  | .un => none
  | .tup _ => none
  | .agg cs => some cs
  | v => some [v]
def getAt : List LV → Nat → Nat → Option (List LV)
  | _, 0, 0 => some []
  | c :: cs, 0, k + 1 => (getAt cs 0 k).map (c :: ·)
  | [], 0, _ + 1 => none
  | _ :: cs, o + 1, k => getAt cs o k
  | [], _ + 1, _ => none
def setAt : List LV → Nat → List LV → Option (List LV)
  | cs, 0, [] => some cs
  | _ :: cs, 0, n :: ns => (setAt cs 0 ns).map (n :: ·)
  | [], 0, _ :: _ => none
  | c :: cs, o + 1, ns => (setAt cs o ns).map (c :: ·)
  | [], _ + 1, _ => none
def Ctx.ti (K : Ctx) (t : Nat) : TI := K.tt.getD t default
def Ctx.has (K : Ctx) (t : Nat) : Bool := (K.ti t).k != .other
def ev (K : Ctx) (t : List LV) : Operand → LV
  | .tmp i => t.getD i .un
  | .const v => ofVal v
  | .global g => match K.glob g with
    | some cs => .eptr cs 0
    | none => .un
  | .func f => .fn (.func f) [] []
def strEq (x y : ByteArray) : Bool := x.data.toList == y.data.toList
def scEq : LV → LV → Bool
  | .int _ a, .int _ b => a == b
  | .str a, .str b => strEq a b
  | .bool a, .bool b => a == b
  | _, _ => false
def eqC : List LV → List LV → Bool
  | [], [] => true
  | a :: as, b :: bs => scEq a b && eqC as bs
  | _, _ => false
def ekOf : LV → Option EK
  | .bool _ => some .b
  | .int k _ => some (.i k)
  | .str _ => some .s
  | _ => none
def kindsOk : List LV → List EK → Bool
  | [], [] => true
  | v :: vs, k :: ks => ekOf v == some k && kindsOk vs ks
  | _, _ => false
def keyOk (K : Ctx) (t : Nat) (v : LV) : Bool :=
  match (K.ti t).eq, (K.ti t).k, v with
  | some ks, .prim, v => kindsOk [v] ks
  | some ks, .struct _, .agg cs => kindsOk cs ks
  | _, _, _ => false
def keyEq : LV → LV → Bool
  | .agg a, .agg b => eqC a b
  | a, b => scEq a b
def nilS : TK → LV → Option Bool
  | .slice _, .sl _ nl _ _ => nl
  | .map _ _, .nmap => some true
  | .map _ _, .map _ => some false
  | .map _ _, .pmap _ _ _ => some false
  | .ptr _, .nptr => some true
  | .ptr _, .ptr _ _ => some false
  | .ptr _, .rptr _ _ _ _ => some false
  | .ptr _, .eptr _ _ => some false
  | .func, .nfn => some true
  | .func, .fn _ _ _ => some false
  | _, _ => none
def eqV (K : Ctx) (t : Nat) (x y : LV) : Option Bool :=
  bif keyOk K t x && keyOk K t y then some (keyEq x y)
  else match nilS (K.ti t).k x, nilS (K.ti t).k y with
    | some true, some b => some b
    | some false, some true => some false
    | _, _ => none
def intOp (op : BinOp) (k : IntKind) (a b : Int) : Option LV :=
  match op with
  | .add => some (.int k (k.wrap (a + b)))
  | .sub => some (.int k (k.wrap (a - b)))
  | .mul => some (.int k (k.wrap (a * b)))
  | .quo => bif b == 0 then none else some (.int k (k.wrap (a.tdiv b)))
  | .rem => bif b == 0 then none else some (.int k (a.tmod b))
  | .and => some (.int k (k.wrap (BitVec.ofInt k.bits a &&& BitVec.ofInt k.bits b).toNat))
  | .or => some (.int k (k.wrap (BitVec.ofInt k.bits a ||| BitVec.ofInt k.bits b).toNat))
  | .xor => some (.int k (k.wrap (BitVec.ofInt k.bits a ^^^ BitVec.ofInt k.bits b).toNat))
  | .andNot => some (.int k (k.wrap (BitVec.ofInt k.bits a &&& ~~~BitVec.ofInt k.bits b).toNat))
  | .eql => some (.bool (a == b))
  | .neq => some (.bool (a != b))
  | .lss => some (.bool (decide (a < b)))
  | .leq => some (.bool (decide (a ≤ b)))
  | .gtr => some (.bool (decide (a > b)))
  | .geq => some (.bool (decide (a ≥ b)))
  | .shl => bif decide (b < 0) then none else some (.int k (k.wrap (a * 2 ^ min b.toNat k.bits)))
  | .shr => bif decide (b < 0) then none else some (.int k (a.fdiv (2 ^ min b.toNat k.bits)))
def isShift : BinOp → Bool
  | .shl | .shr => true
  | _ => false
def binV (K : Ctx) (op : BinOp) (t : Nat) (x y : LV) : Option LV :=
  match x, y with
  | .int k a, .int k' b => bif isShift op then intOp op k a b else if k = k' then intOp op k a b else none
  | .str a, .str b =>
    match op with
    | .add => bif decide (a.size + b.size < 4611686018427387904) then some (.str (a ++ b)) else none
    | .eql => some (.bool (strEq a b))
    | .neq => some (.bool (!strEq a b))
    | _ => none
  | _, _ =>
    match op with
    | .eql => (eqV K t x y).map .bool
    | .neq => (eqV K t x y).map fun b => .bool (!b)
    | _ => none
def unV : UnOp → LV → Option LV
  | .neg, .int k n => intOp .sub k 0 n
  | .xor, .int k n => intOp .xor k (if k.signed then -1 else k.max) n
  | .not, .bool b => some (.bool (!b))
  | _, _ => none
def pickV (c : Bool) : LV → LV → LV
  | .bool p, .bool q => .bool (bif c then p else q)
  | x, y => bif c then x else y
def fillL (place : Nat → Option (Nat × Nat)) (cells : List LV) : List (Nat × LV) → Option (List LV)
  | [] => some cells
  | (i, v) :: rest =>
    match place i, v.cells with
    | some (off, size), some cs => if cs.length = size then (setAt cells off cs).bind fun c => fillL place c rest else none
    | _, _ => none
def fillE (s : Nat) (es : List (List LV)) : List (Nat × LV) → Option (List (List LV))
  | [] => some es
  | (i, v) :: rest =>
    match v.cells with
    | some cs => if cs.length = s && decide (i < es.length) then fillE s (es.set i cs) rest else none
    | none => none
def noRefs (es : List (List LV)) : Bool := es.all fun e => (refsL e).isEmpty
def fieldAt (off : Nat) : LV → Option LV
  | .ptr b o => some (.ptr b (o + off))
  | .rptr b i s o => some (.rptr b i s (o + off))
  | .eptr cs o => some (.eptr cs (o + off))
  | _ => none
def fieldV (K : Ctx) (t f : Nat) (x : LV) : Option LV :=
  match (K.ti t).k, x with
  | .struct fs, .agg cs =>
    match fs[f]? with
    | some (off, ft) => (partV off ft cs)
    | none => none
  | _, _ => none
where
  partV (off ft : Nat) (cs : List LV) : Option LV :=
    match (K.ti ft).k with
    | .other => none
    | .struct _ | .arr _ _ => (getAt cs off (K.ti ft).sz).map .agg
    | _ => cs[off]?
def loadV (K : Ctx) (h : Heap) (t : Nat) (a : LV) : Option LV :=
  match a with
  | .ptr b off => match h.getD b none with
    | some (.cells cs _) => pack off cs
    | _ => none
  | .rptr b i s off => match h.getD b none with
    | some (.row _ _ es s' _) => bif s == s' then (es[i]?).bind (pack off) else none
    | _ => none
  | .eptr cs off => pack off cs
  | _ => none
where
  pack (off : Nat) (cs : List LV) : Option LV :=
    match (K.ti t).k with
    | .other => none
    | .struct _ | .arr _ _ => (getAt cs off (K.ti t).sz).map .agg
    | _ => cs[off]?
def storeV (K : Ctx) (h : Heap) (t : Nat) (a x : LV) : Option Heap :=
  match x.cells with
  | none => none
  | some ns =>
    if ns.length = (K.ti t).sz && K.has t then
      match a with
      | .ptr b off => match h.getD b none with
        | some (.cells cs e) => (setAt cs off ns).map fun cs' => h.set b (some (.cells cs' e))
        | _ => none
      | .rptr b i s off => match h.getD b none with
        | some (.row pu mv es s' e) => if s = s' && (!pu || (refsL ns).isEmpty) then (es[i]?).bind fun el => (setAt el off ns).map fun el' => h.set b (some (.row pu mv (es.set i el') s e)) else none
        | _ => none
      | _ => none
    else none
def indexV (K : Ctx) (h : Heap) (t : Nat) (x ix : LV) : Option LV :=
  match ix with
  | .int _ i =>
    bif decide (0 ≤ i) then
      match (K.ti t).k, x with
      | .slice e, .sl s _ _ es => bif (s == (K.ti e).sz) && K.has e then (es[i.toNat]?).map fun x => .eptr x 0 else none
      | .slice e, .row b s none => match h.getD b none with
        | some (.row _ _ es _ _) => bif (K.ti e).sz == s && K.has e then (es[i.toNat]?).map fun _ => .rptr b i.toNat s 0 else none
        | _ => none
      | .slice e, .row b s (some (off, n)) => bif decide (i.toNat < n) && (K.ti e).sz == s && K.has e then some (.rptr b (off + i.toNat) s 0) else none
      | .slice e, .bsl b off s n => bif decide (i.toNat < n) && (K.ti e).sz == s && K.has e then some (.ptr b (off + i.toNat * s)) else none
      | .arr n e, x => bif decide (i.toNat < n) && K.has e then fieldAt (i.toNat * (K.ti e).sz) x else none
      | _, _ => none
    else none
  | _ => none
def indexVal (K : Ctx) (t : Nat) (x ix : LV) : Option LV :=
  match ix with
  | .int _ i =>
    bif decide (0 ≤ i) then
      match (K.ti t).k, x with
      | .arr n e, .agg cs => bif decide (i.toNat < n) && K.has e then fieldV.partV K (i.toNat * (K.ti e).sz) e cs else none
      | .prim, .str s => bif decide ((K.ti t).eq = some [.s]) then (match s.data.toList[i.toNat]? with
        | some b => some (.int .u8 b.toNat)
        | none => none) else none
      | _, _ => none
    else none
  | _ => none
def chunk (cs : List LV) (off s : Nat) : Nat → Option (List (List LV))
  | 0 => some []
  | n + 1 => match getAt cs off s, chunk cs (off + s) s n with
    | some e, some r => some (e :: r)
    | _, _ => none
def viewOf (es : List (List LV)) : Option (Nat × Nat) → Option (List (List LV))
  | none => some es
  | some (off, n) => bif decide (off + n ≤ es.length) then some ((es.drop off).take n) else none
def elemsOf (h : Heap) (sz : Nat) : LV → Option (List (List LV) × Bool)
  | .sl s _ _ es => bif s == sz || es.isEmpty then some (es, true) else none
  | .row b s v => match h.getD b none with
    | some (.row pu _ es s' _) => bif s == s' && s == sz then (viewOf es v).map fun x => (x, pu) else none
    | _ => none
  | .bsl b off s n => match h.getD b none with
    | some (.cells cs _) => bif s == sz then (chunk cs off s n).map fun x => (x, noRefs x) else none
    | _ => none
  | _ => none
def lenOf (K : Ctx) (h : Heap) (t : Nat) (x : LV) : Option Nat :=
  match (K.ti t).k, x with
  | .slice _, .sl _ _ _ es => some es.length
  | .slice _, .row b _ none => match h.getD b none with
    | some (.row _ _ es _ _) => some es.length
    | _ => none
  | .slice _, .row _ _ (some (_, n)) => some n
  | .slice _, .bsl _ _ _ n => some n
  | .prim, .str s => bif decide ((K.ti t).eq = some [.s]) then some s.size else none
  | .map _ _, .nmap => some 0
  | .map _ _, .pmap _ ks _ => some ks.length
  | .map _ _, .map b => match h.getD b none with
    | some (.map _ _ ks _) => some ks.length
    | _ => none
  | .arr n _, _ => some n
  | .ptr a, _ => match (K.ti a).k with
    | .arr n _ => some n
    | _ => none
  | _, _ => none
def findK (k : LV) : List LV → Nat → Option Nat
  | [], _ => none
  | x :: xs, i => bif keyEq k x then some i else findK k xs (i + 1)
def zeroV (K : Ctx) (t : Nat) : LV :=
  bif (K.ti t).zok && K.has t then
    match (K.ti t).k with
    | .struct _ | .arr _ _ => .agg (K.ti t).zero
    | _ => (K.ti t).zero.getD 0 .un
  else .un
def lookupV (K : Ctx) (h : Heap) (t : Nat) (m k : LV) (ok : Bool) : Option LV :=
  match (K.ti t).k with
  | .map kt et =>
    bif keyOk K kt k then
     bif (K.ti et).zok && K.has et then
      match (match m with
        | .nmap => some ([], [])
        | .pmap kt' ks vs => if kt' = kt then some (ks, vs) else none
        | .map b => match h.getD b none with
          | some (.map _ kt' ks vs) => if kt' = kt then some (ks, vs) else none
          | _ => none
        | _ => none : Option (List LV × List LV)) with
      | some (ks, vs) =>
        match findK k ks 0 with
        | some i => some (bif ok then .tup [vs.getD i .un, .bool true] else vs.getD i .un)
        | none => some (bif ok then .tup [zeroV K et, .bool false] else zeroV K et)
      | none => none
     else none
    else none
  | _ => none
def dropIters (b : Nat) (h : Heap) : Heap := h.map fun x => match x with
  | some (.iter (some b') ks vs l) => bif b == b' then none else some (.iter (some b') ks vs l)
  | x => x
def updateV (K : Ctx) (h : Heap) (t : Nat) (m k v : LV) : Option Heap :=
  match (K.ti t).k, m with
  | .map kt _, .map b =>
    bif keyOk K kt k then
      match h.getD b none with
      | some (.map pu kt' ks vs) =>
        if kt' = kt && (!pu || v.refs.isEmpty) then
          match findK k ks 0 with
          | some i => some (dropIters b (h.set b (some (.map pu kt ks (vs.set i v)))))
          | none => some (dropIters b (h.set b (some (.map pu kt (ks ++ [k]) (vs ++ [v])))))
        else none
      | _ => none
    else none
  | _, _ => none
def clearV (K : Ctx) (h : Heap) (t : Nat) (x : LV) : Option Heap :=
  match (K.ti t).k, x with
  | .slice _, .sl _ _ _ [] => some h
  | .slice et, .row b s v => match h.getD b none with
    | some (.row pu mv es s' e) =>
      bif s == s' && (K.ti et).sz == s && (K.ti et).zok && K.has et then
        match v with
        | none => some (h.set b (some (.row pu mv (List.replicate es.length (K.ti et).zero) s e)))
        | some (off, n) => bif decide (off + n ≤ es.length) then some (h.set b (some (.row pu mv (es.take off ++ List.replicate n (K.ti et).zero ++ es.drop (off + n)) s e))) else none
      else none
    | _ => none
  | _, _ => none
def intOf? : LV → Option Int
  | .int _ n => some n
  | _ => none
def sliceV (K : Ctx) (h : Heap) (t : Nat) (x : LV) (lo hi mx : Option LV) : Option LV :=
  match (K.ti t).k, x with
  | .slice et, .sl s nl ex es =>
    bif !((s == (K.ti et).sz || es.isEmpty) && K.has et) then none else
    match bd lo 0 es.length, bd hi es.length es.length with
    | some l, some h =>
      bif decide (l ≤ h) && decide (h ≤ es.length) then
        match mx with
        | none => some (.sl s (if nl = some true then some true else none) (ex && decide (h = es.length)) ((es.take h).drop l))
        | some m => if intOf? m = some (h : Int) ∧ hi.isSome = true then some (.sl s (if nl = some true then some true else none) true ((es.take h).drop l)) else none
      else none
    | _, _ => none
  | .slice et, .row b s v =>
    bif !(s == (K.ti et).sz && K.has et) then none else
    match (match v with
      | some (off, n) => some (off, n)
      | none => match h.getD b none with
        | some (.row _ _ es _ _) => some (0, es.length)
        | _ => none : Option (Nat × Nat)) with
    | some (off, n) => match bd lo 0 n, bd hi n n, mx with
      | some l, some h, none => bif decide (l ≤ h) && decide (h ≤ n) then some (.row b s (some (off + l, h - l))) else none
      | _, _, _ => none
    | none => none
  | .arr n e, .ptr b o => match bd lo 0 n, bd hi n n, mx with
    | some l, some h, none => bif decide (l < n) && decide (l ≤ h) && decide (h ≤ n) && decide (0 < (K.ti e).sz) && K.has e then some (.bsl b (o + l * (K.ti e).sz) (K.ti e).sz (h - l)) else none
    | _, _, _ => none
  | .arr n e, .eptr cs o => match bd lo 0 n, bd hi n n, mx with
    | some l, some h, none => bif decide (l < n) && decide (l ≤ h) && decide (h ≤ n) && decide (0 < (K.ti e).sz) && K.has e then (chunk cs (o + l * (K.ti e).sz) (K.ti e).sz (h - l)).map (.sl (K.ti e).sz none false) else none
    | _, _, _ => none
  | _, _ => none
where
  bd (o : Option LV) (d n : Nat) : Option Nat :=
    match o with
    | none => some d
    | some (.int _ i) => bif decide (0 ≤ i) && decide (i.toNat ≤ n) then some i.toNat else none
    | some _ => none
def maxL : LV → LV → Option LV
  | .int k x, .int _ y => some (.int k (bif decide (y > x) then y else x))
  | _, _ => none
def minL : LV → LV → Option LV
  | .int k x, .int _ y => some (.int k (bif decide (y < x) then y else x))
  | _, _ => none
def foldO (f : LV → LV → Option LV) : LV → List LV → Option LV
  | x, [] => some x
  | x, y :: r => (f x y).bind fun z => foldO f z r
def qop (K : Ctx) (id : Nat) (h : Heap) (e : Operand → LV) : Op → Option (LV × Option Blk)
  | .move x | .assign x => some (e x, none)
  | .pick c a b => match e c with
    | .bool t => some (pickV t (e a) (e b), none)
    | _ => none
  | .alloc t => bif (K.ti t).zok && K.has t then some (.ptr id 0, some (.cells (K.ti t).zero t)) else none
  | .box t x => match (e x).cells with
    | some cs => some (.ptr id 0, some (.cells cs t))
    | none => none
  | .build t parts =>
    match (K.ti t).k with
    | .struct fs => bif !((K.ti t).zok && fs.all fun f => K.has f.2) then none else (fillL (fun i => (fs[i]?).map fun (off, ft) => (off, (K.ti ft).sz)) (K.ti t).zero (parts.toList.map fun (i, x) => (i, e x))).map fun cs => (.agg cs, none)
    | .arr _ et => bif !((K.ti t).zok && K.has et) then none else (fillL (fun i => some (i * (K.ti et).sz, (K.ti et).sz)) (K.ti t).zero (parts.toList.map fun (i, x) => (i, e x))).map fun cs => (.agg cs, none)
    | _ => none
  | .buildSlice t len parts =>
    match (K.ti t).k with
    | .slice et =>
      bif decide (len * (K.ti et).sz ≤ 16777216) && (K.ti et).zok && K.has et then
        match fillE (K.ti et).sz (List.replicate len (K.ti et).zero) (parts.toList.map fun (i, x) => (i, e x)) with
        | some es => bif noRefs es && (decide (0 < (K.ti et).sz) || es.isEmpty) then some (.sl (K.ti et).sz (some false) true es, none) else bif decide (0 < (K.ti et).sz) then some (.row id (K.ti et).sz none, some (.row false true es (K.ti et).sz et)) else none
        | none => none
      else none
    | _ => none
  | .load t a => (loadV K h t (e a)).map fun v => (v, none)
  | .nilCheck x => match e x with
    | .ptr b o => some (.ptr b o, none)
    | .rptr b i s o => some (.rptr b i s o, none)
    | .eptr cs o => some (.eptr cs o, none)
    | .fn (.func f) a b => some (.fn (.func f) a b, none)
    | _ => none
  | .binOp op t x y _ => (binV K op t (e x) (e y)).map fun v => (v, none)
  | .unOp op _ x => (unV op (e x)).map fun v => (v, none)
  | .convert src dst x => match (K.ti dst).ik, e x with
    | some k, .int _ n => bif K.has src && K.has dst then some (.int k (k.wrap n), none) else none
    | _, _ => none
  | .makeInterface t x => bif K.has t && (K.ti t).k != .iface then some (.ifc t (e x), none) else none
  | .makeFunc f first caps => match f with
    | .func g => some (.fn (.func g) (first.toList.map e) (caps.toList.map e), none)
    | _ => none
  | .makeMap t none => match (K.ti t).k with
    | .map kt _ => some (.map id, some (.map true kt [] []))
    | _ => none
  | .makeSlice t l c => match (K.ti t).k, e l, e c with
    | .slice et, .int _ n, .int _ m =>
      bif decide (0 ≤ n) && n == m && decide (n ≤ 1048576) && decide ((K.ti et).by_ ≤ 65536) && (K.ti et).zok && K.has et && decide (0 < (K.ti et).sz) then
        some (.row id (K.ti et).sz none, some (.row true true (List.replicate n.toNat (K.ti et).zero) (K.ti et).sz et))
      else none
    | _, _, _ => none
  | .slice t x lo hi mx => (sliceV K h t (e x) (lo.map e) (hi.map e) (mx.map e)).map fun v => (v, none)
  | .fieldAddr t x f => match (K.ti t).k with
    | .struct fs => match fs[f]? with
      | some (off, ft) => bif decide (0 < (K.ti ft).sz) && K.has ft then (fieldAt off (e x)).map fun v => (v, none) else none
      | none => none
    | _ => none
  | .field t x f => (fieldV K t f (e x)).map fun v => (v, none)
  | .indexAddr t x ix => (indexV K h t (e x) (e ix)).map fun v => (v, none)
  | .index t x ix => (indexVal K t (e x) (e ix)).map fun v => (v, none)
  | .lookup t x ix ok => (lookupV K h t (e x) (e ix) ok).map fun v => (v, none)
  | .entry x => match e x with
    | .ptr b 0 => match h.getD b none with
      | some (.iter _ _ _ (some (k, v))) => some (.tup [k, v], none)
      | _ => none
    | _ => none
  | .extract x i => match e x with
    | .tup vs => (vs[i]?).map fun v => (v, none)
    | _ => none
  | .range t x => match (K.ti t).k, e x with
    | .map _ _, .nmap => some (.ptr id 0, some (.iter none [] [] none))
    | .map _ _, .pmap _ ks vs => some (.ptr id 0, some (.iter none ks vs none))
    | .map _ _, .map b => match h.getD b none with
      | some (.map _ _ ks vs) => some (.ptr id 0, some (.iter (some b) ks vs none))
      | _ => none
    | _, _ => none
  | .call c =>
    match c.callee, c.args.toList.map e with
    | .builtin .len, [x] => match c.argTypes[0]? with
      | some t => (lenOf K h t x).map fun (n : Nat) => (LV.int .i64 (n : Int), none)
      | none => none
    | .builtin .max, x :: r => (foldO maxL x r).map fun v => (v, none)
    | .builtin .min, x :: r => (foldO minL x r).map fun v => (v, none)
    | _, _ => none
  | _ => none
def pureV : Nat → Heap → LV → Option LV
  | 0, _, _ => none
  | n + 1, h, v => match v with
    | .row b s w => match h.getD b none with
      | some (.row true _ es s' _) => bif s == s' then (viewOf es w).map (.sl s none false) else none
      | some (.row false _ es s' _) => bif s == s' then (viewOf es w).bind fun ds => (ds.mapM (fun (d : List LV) => d.mapM (pureV n h))).map (.sl s none false) else none
      | _ => none
    | .bsl b off s n' => match h.getD b none with
      | some (.cells cs _) => (chunk cs off s n').bind fun ds => bif noRefs ds && decide (0 < s) then some (.sl s none false ds) else none
      | _ => none
    | .map b => match h.getD b none with
      | some (.map true kt ks vs) => some (.pmap kt ks vs)
      | some (.map false kt ks vs) => (vs.mapM (pureV n h)).map (.pmap kt ks)
      | _ => none
    | .ptr b off => match h.getD b none with
      | some (.cells cs _) => (cs.mapM (pureV n h)).map fun ds => .eptr ds off
      | _ => none
    | .rptr b i s off => match h.getD b none with
      | some (.row true _ es s' _) => bif s == s' then (es[i]?).map fun e => .eptr e off else none
      | _ => none
    | .fn f first caps => match f with
      | .func _ => match first.mapM (pureV n h), caps.mapM (pureV n h) with
        | some a, some b => some (.fn f a b)
        | _, _ => none
      | _ => none
    | .ifc t x => (pureV n h x).map (.ifc t)
    | .agg cs => (cs.mapM (pureV n h)).map .agg
    | .tup cs => (cs.mapM (pureV n h)).map .tup
    | v => some v
mutual
def LV.flat : LV → Bool
  | .bool _ | .int _ _ | .str _ | .nptr | .nmap | .nfn | .nifc | .un => true
  | .agg cs | .tup cs => flatL cs
  | _ => false
def flatL : List LV → Bool
  | [] => true
  | v :: vs => v.flat && flatL vs
end
def scrubB (b : Nat) (h : Heap) : Heap := h.map fun x => x.map (Blk.mapv (LV.drop b))
def sizeLim : Nat := 16777216
def appendV (K : Ctx) (h : Heap) (t : Nat) (base x : LV) : Option (LV × Option Nat × Heap) :=
  match (K.ti t).k with
  | .slice et => match elemsOf h (K.ti et).sz x with
   | some (new, pn) =>
    bif decide (0 < (K.ti et).sz) && decide ((K.ti et).by_ ≤ 65536) && (K.ti et).zok && K.has et then
      match base with
      | .sl s _ true es =>
        bif (s == (K.ti et).sz || es.isEmpty) && K.has et && (bif es.isEmpty then true else !new.isEmpty) && decide (es.length + new.length ≤ sizeLim) then
          some (.row h.length (K.ti et).sz none, none, h ++ [some (.row pn true (es ++ new) (K.ti et).sz et)])
        else none
      | .row b s v => match h.getD b none with
        | some (.row pu _ es s' e) =>
          match (match v with
            | none => some es
            | some (off, n) => bif off + n == es.length then some (es.drop off) else none : Option (List (List LV))) with
          | some old => bif s == s' && s == (K.ti et).sz && e == et && K.has et && decide (old.length + new.length ≤ sizeLim) && (!pu || pn) then
              some (.row b s none, some b, (scrubB b h).set b (some ((Blk.row pu true (old ++ new) s e).mapv (LV.drop b))))
            else none
          | none => none
        | _ => none
      | _ => none
    else none
   | none => none
  | _ => none
def isRow : Option Blk → Bool
  | some (.row _ _ _ _ _) => true
  | _ => false
def heapRefs (h : Heap) : List Nat := h.flatMap fun x => match x with
  | some b => b.refs
  | none => []
def moved : Option Blk → Bool
  | some (.row _ mv _ _ _) => mv
  | _ => false
def setMv (mv : Bool) : Option Blk → Option Blk
  | some (.row pu _ es s e) => some (.row pu mv es s e)
  | x => x
def calm (h : Heap) : Heap := h.map (setMv false)
def orMv (h h' : Heap) : Heap := h'.zipIdx.map fun (x, i) => bif moved (h.getD i none) then setMv true x else x
def dropMoved (h h' : Heap) (v : LV) : LV := bif v.refs.any (fun b => moved (h'.getD b none) || (isRow (h.getD b none) && (h'.getD b none).isNone)) then .un else v
abbrev CallF := LV → List LV → Heap → ND (LV × Heap)
def callShared (cf : CallF) (f : LV) (args : List LV) (σ : Fr) : ND (LV × Fr) :=
  (cf f args (calm σ.h)).bind fun (v, h') => .ok (v, { σ with t := σ.t.map (dropMoved σ.h h'), h := orMv σ.h h' })
def pureDepth : Nat := 8
def callIso (why : String) (cf : CallF) (f : LV) (args : List LV) (h : Heap) : ND LV :=
  match pureV pureDepth h f, args.mapM (pureV pureDepth h) with
  | some f', some args' =>
    (cf f' args' []).bind fun (v, h') =>
      match pureV pureDepth h' v with
      | some v' => bif (f.refs.isEmpty && (refsL args).isEmpty) || v'.flat then .ok v' else .bad ("held " ++ why)
      | none => .bad ("result " ++ why)
  | _, _ => .bad ("args " ++ why)
def isoOf (K : Ctx) : LV → Nat
  | .fn (.func f) _ _ => K.iso f
  | _ => 0
def putT (t : List LV) : Option Nat → LV → List LV
  | some d, v => t.set d v
  | none, _ => t
def yieldedL (ops : Array Oper) (t : List LV) (j : Nat) : Option (Option Bool) :=
  match ((ops[j]?).bind (·.dst)).bind (t[·]?) with
  | some (.bool b) => some (some b)
  | some .un => none
  | _ => some none
def nextL (t : List LV) (b : Nat) (h : Heap) (d : Option Nat) : ND (List LV × Heap) :=
  match h.getD b none with
  | some (.iter m ks vs _) =>
    match ks with
    | [] => .ok (putT t d (.tup [.bool false]), h)
    | _ => .pick ks.length fun i =>
      .ok (putT t d (.tup [.bool true, ks.getD i .un, vs.getD i .un]), h.set b (some (.iter m (ks.eraseIdx i) (vs.eraseIdx i) (some (ks.getD i .un, vs.getD i .un)))))
  | _ => .bad "nextL"
mutual
def LV.frz (b : Nat) (x : Option Blk) : LV → LV
  | .row b' s v => bif b' == b then (match x with
      | some (.row true _ es s' _) => bif s == s' then (match viewOf es v with
        | some ds => .sl s none false ds
        | none => .un) else .un
      | _ => .row b' s v) else .row b' s v
  | .map b' => bif b' == b then (match x with
      | some (.map true kt ks vs) => .pmap kt ks vs
      | _ => .map b') else .map b'
  | .fn f first caps => .fn f (frzL b x first) (frzL b x caps)
  | .ifc t v => .ifc t (v.frz b x)
  | .agg cs => .agg (frzL b x cs)
  | .tup cs => .tup (frzL b x cs)
  | v => v
def frzL (b : Nat) (x : Option Blk) : List LV → List LV
  | [] => []
  | v :: vs => v.frz b x :: frzL b x vs
end
def frzable : Option Blk → Bool
  | some (.row true _ _ _ _) => true
  | some (.map true _ _ _) => true
  | _ => false
def freeze1 (b : Nat) (σ : Fr) : Fr :=
  let x := σ.h.getD b none
  bif frzable x then { σ with t := σ.t.map (LV.frz b x), h := (σ.h.map fun y => y.map (Blk.mapv (LV.frz b x))).set b none } else σ
def freezeAll : List Nat → Fr → Fr
  | [], σ => σ
  | b :: r, σ => freezeAll r (freeze1 b σ)
def intoPure (h : Heap) : LV → Bool
  | .rptr b _ _ _ => match h.getD b none with
    | some (.row pu _ _ _ _) => pu
    | _ => false
  | _ => false
def isSliceK : TK → Bool
  | .slice _ => true
  | _ => false
def whyOf (o : Oper) : String := o.pos ++ " t" ++ toString (o.dst.getD 0)
def preFrz (K : Ctx) (o : Oper) (σ : Fr) : List Nat :=
  let e := ev K σ.t
  match o.op with
  | .store _ a x => bif intoPure σ.h (e a) then (e x).refs else []
  | .buildSlice _ _ parts => bif K.rows σ.fn (o.dst.getD 0) then [] else (parts.toList.flatMap fun (_, x) => (e x).refs).filter fun b => frzable (σ.h.getD b none)
  | .mapUpdate _ _ _ x | .insert _ _ _ x => (e x).refs.filter fun b => isRow (σ.h.getD b none)
  | .call c => match c.callee with
    | .value f => bif isoOf K (e f) == 2 then (e f).refs ++ refsL (c.args.toList.map e) else []
    | _ => []
  | _ => []
def pureOp : Op → Bool
  | .move _ | .assign _ | .pick .. | .build .. | .nilCheck _ | .binOp .. | .unOp .. | .convert .. | .makeInterface .. | .makeFunc .. | .fieldAddr .. | .field .. | .index .. | .extract .. => true
  | _ => false
def asRow (K : Ctx) (t : Nat) : LV → Option Blk
  | .sl _ _ _ es => match (K.ti t).k with
    | .slice et => bif decide (0 < (K.ti et).sz) then some (.row true true es (K.ti et).sz et) else none
    | _ => none
  | _ => none
def opStep (K : Ctx) (cf : CallF) (o : Oper) (σ : Fr) : ND (Nat × Fr) :=
  let e := ev K σ.t
  match o.op with
  | .store t a x => (ND.of (whyOf o) (storeV K σ.h t (e a) (e x))).map fun h => (2, { σ with t := putT σ.t o.dst (.tup []), h })
  | .mapUpdate t m k x | .insert t m k x => (ND.of (whyOf o) (updateV K σ.h t (e m) (e k) (e x))).map fun h => (2, { σ with t := putT σ.t o.dst (.tup []), h })
  | .next it false => match e it with
    | .ptr b 0 => (nextL σ.t b σ.h o.dst).map fun (t, h) => (2, { σ with t, h })
    | _ => .bad (whyOf o)
  | .buildSlice t len parts =>
    match qop K σ.h.length σ.h e (.buildSlice t len parts) with
    | some (v, none) => bif K.rows σ.fn (o.dst.getD 0) then (match asRow K t v with
        | some (.row pu mv es s ty) => .ok (1, { σ with t := putT σ.t o.dst (.row σ.h.length s none), h := σ.h ++ [some (.row pu mv es s ty)] })
        | _ => .bad (whyOf o)) else .ok (1, { σ with t := putT σ.t o.dst v })
    | some (v, some b) => .ok (1, { σ with t := putT σ.t o.dst v, h := σ.h ++ [some b] })
    | none => .bad (whyOf o)
  | .call c =>
    match c.callee, c.args.toList.map e with
    | .builtin .append, [x, y] => match c.argTypes[0]?, c.argTypes[1]? with
      | some t, some t' => bif !isSliceK (K.ti t').k then .bad (whyOf o) else (ND.of (whyOf o) (appendV K σ.h t x y)).map fun (v, b, h) =>
        (3, { σ with t := putT (match b with | some b => σ.t.map (LV.drop b) | none => σ.t) o.dst v, h })
      | _, _ => .bad (whyOf o)
    | .builtin .clear, [x] => match c.argTypes[0]? with
      | some t => (ND.of (whyOf o) (clearV K σ.h t x)).map fun h => (2, { σ with t := putT σ.t o.dst (.tup []), h })
      | none => .bad (whyOf o)
    | .value f, args =>
      bif isoOf K (e f) == 0 then (callShared cf (e f) args σ).map fun (v, σ') => (3, { σ' with t := putT σ'.t o.dst v })
      else (callIso (whyOf o) cf (e f) args σ.h).map fun v => (1, { σ with t := putT σ.t o.dst v })
    | _, _ => match qop K σ.h.length σ.h e o.op with
      | some (v, none) => .ok (1, { σ with t := putT σ.t o.dst v })
      | _ => .bad (whyOf o)
  | op => match qop K σ.h.length σ.h e op with
    | some (v, none) => .ok (bif pureOp op then 0 else 1, { σ with t := putT σ.t o.dst v })
    | some (v, some b) => .ok (1, { σ with t := putT σ.t o.dst v, h := σ.h ++ [some b] })
    | none => .bad (whyOf o)
def runOp (K : Ctx) (cf : CallF) (o : Oper) (σ : Fr) : ND (Nat × Fr) :=
  match preFrz K o σ with
  | [] => opStep K cf o σ
  | rs => (opStep K cf o (freezeAll rs σ)).map fun (_, σ') => (3, σ')
def wantedL (o : Oper) (ops : Array Oper) (t : List LV) : Option Bool :=
  match o.guard with
  | none => some true
  | some (j, b) => (yieldedL ops t j).map fun c => c == some b
def runOps (K : Ctx) (cf : CallF) (ops : Array Oper) : List Oper → Fr → ND (List Nat × Fr)
  | [], σ => .ok ([], σ)
  | o :: r, σ =>
    match wantedL o ops σ.t with
    | some w =>
      bif w then (runOp K cf o σ).bind fun (c, σ') => (runOps K cf ops r σ').map fun (cs, σ'') => (c :: cs, σ'')
      else (runOps K cf ops r { σ with t := putT σ.t o.dst (.tup []) }).map fun (cs, σ'') => (0 :: cs, σ'')
    | none => .bad ("guard " ++ (whyOf o))
def readsOf (ops : Array Oper) (o : Oper) : List Nat :=
  (o.op.operands.toList.filterMap fun | .tmp t => some t | _ => none) ++
  (match o.guard with | some (g, _) => ((ops[g]?).bind (·.dst)).toList | none => [])
def slotClash (ops : Array Oper) (x y : Oper) : Bool :=
  (match x.dst with | some d => (readsOf ops y).contains d || y.dst == some d | none => false) ||
  (match y.dst with | some d => (readsOf ops x).contains d | none => false)
def clClash (a b : Nat) : Bool := a == 3 || b == 3 || (a == 2 && decide (1 ≤ b)) || (b == 2 && decide (1 ≤ a))
def drawOk (ops : Array Oper) (cs : List Nat) : Bool :=
  let b := Region.before ops
  let l := (ops.toList.zip cs).zipIdx
  cs.length == ops.size && (ops.toList.zipIdx.all fun (o, i) => o.after.all fun e => !Region.binds .any e || decide (e.on < i)) &&
  (l.all fun ((y, cy), j) => l.all fun ((x, cx), i) => !decide (i < j) || !(slotClash ops x y || clClash cx cy) || (b.getD j 0).testBit i)
def keepM : List Bool → List LV → List LV
  | b :: bs, v :: vs => (bif b then v else .un) :: keepM bs vs
  | _, vs => vs
def rfMask (K : Ctx) (fn : Nat) (ps : List Nat) : List Bool := match K.ann fn (1000000 + ps.headD 0) with
  | [.clr m] => m
  | _ => []
def keptT (K : Ctx) (fn : Nat) (ps : List Nat) (t : List LV) : List LV := keepM (rfMask K fn ps) t
def ghost1 (σ : Fr) : Gh → Fr
  | .clr m => { σ with t := keepM m σ.t }
  | .mkrow s z e => match σ.t.getD s .un with
    | .sl _ _ true [] => bif decide (0 < z) then { σ with t := σ.t.set s (.row σ.h.length z none), h := σ.h ++ [some (.row true true [] z e)] } else σ
    | _ => σ
  | .mkrowAt s off z e => match σ.t.getD s .un with
    | .ptr b o => match σ.h.getD b none with
      | some (.cells cs ty) => match cs[o + off]? with
        | some (.sl _ _ true []) => bif !decide (0 < z) then σ else { σ with h := (σ.h.set b (some (.cells (cs.set (o + off) (.row σ.h.length z none)) ty))) ++ [some (.row true true [] z e)] }
        | _ => σ
      | _ => σ
    | _ => σ
  | .frz s => freezeAll (σ.t.getD s .un).refs σ
def ghosts (σ : Fr) : List Gh → Fr
  | [] => σ
  | g :: r => ghosts (ghost1 σ g) r
def trunc (n : Nat) (σ : Fr) : Fr := bif (heapRefs (σ.h.take n)).all (fun b => decide (b < n)) then { σ with t := σ.t.map (LV.clip n), h := σ.h.take n } else σ
def iterL (n : Nat) : Nat → (Fr → ND (Ex × Fr)) → Fr → ND (Ex × Fr)
  | 0, _, _ => .bad "iterL"
  | k + 1, f, σ => (f σ).bind fun (e, σ') => match e with
    | .normal => iterL n k f (trunc n σ')
    | e => .ok (e, σ')
def isFnV : LV → Bool
  | .fn (.func _) _ _ => true
  | _ => false
def roOk (ro : Option Nat) (h : Heap) : Bool :=
  match ro with
  | none => true
  | some lb => match h.getD lb none with
    | some (.loop _ _ _ _ _ _ _) => true
    | _ => false
def exec (K : Ctx) (n : Nat) (ro : Option Nat) (cf : CallF) : Code → Fr → ND (Ex × Fr)
  | .skip, σ => .ok (.normal, σ)
  | .region id ops false, σ => (runOps K cf ops ops.toList σ).bind fun (_, σ') => .ok (.normal, ghosts σ' (K.ann σ'.fn id))
  | .region id ops true, σ => match runOps K cf ops ops.toList σ with
    | .ok (cs, σ') => bif drawOk ops cs then .ok (.normal, ghosts σ' (K.ann σ'.fn id)) else .bad ("draw " ++ (ops.getD 0 default).pos)
    | .pick _ _ => .bad ("draw pick " ++ (ops.getD 0 default).pos)
    | .bad s => .bad s
  | .seq a b, σ => (exec K n ro cf a σ).bind fun (e, σ') => match e with
    | .normal => exec K n ro cf b σ'
    | e => .ok (e, σ')
  | .cond c a b, σ => match ev K σ.t c with
    | .bool t => bif t then exec K n ro cf a σ else exec K n ro cf b σ
    | _ => .bad "cond"
  | .block id c, σ => (exec K n ro cf c σ).bind fun (e, σ') => match e with
    | .exit id' => bif id' == id then .ok (.normal, σ') else .ok (.exit id', σ')
    | e => .ok (e, σ')
  | .loop c, σ => iterL σ.h.length n (exec K n ro cf c) σ
  | .scope c, σ => exec K n ro cf c σ
  | .label _, σ => .ok (.normal, σ)
  | .exit id, σ => .ok (.exit id, σ)
  | .ret, σ => .ok (.ret, σ)
  | .rangeFunc f ps asg body, σ =>
    bif roOk ro σ.h && isFnV (ev K σ.t f) then
      (callShared cf (ev K σ.t f) [.fn (.yield σ.h.length) [] []] { σ with h := σ.h ++ [some (.loop σ.fn (keptT K σ.fn ps.toList σ.t) ps.toList asg body .ready .normal)] }).bind fun (_, σ₂) =>
        match σ₂.h.getD σ.h.length none with
        | some (.loop _ _ _ _ _ .busy _) => .bad "busy"
        | some (.loop _ _ _ _ _ _ (.panic _)) => .bad "panic"
        | some (.loop _ _ _ _ _ _ pend) => .ok (pend, { σ₂ with h := σ₂.h.set σ.h.length none })
        | _ => .bad "rangeFunc"
    else .bad "rangeFunc"
  | _, _ => .bad "code"
def resultOf (K : Ctx) (σ : Fr) : ResultVar → Option LV
  | .tmp t => some (σ.t.getD t .un)
  | .cell a ty => loadV K σ.h ty (σ.t.getD a .un)
def packR : List LV → LV
  | [v] => v
  | vs => .tup vs
def resultsOf (K : Ctx) (fn : Func) (σ : Fr) : Option LV :=
  (fn.results.toList.mapM (resultOf K σ)).map packR
def callN (K : Ctx) : Nat → CallF
  | 0 => fun _ _ _ => .bad "callN"
  | n + 1 => fun f args h =>
    match f with
    | .fn (.func fid) first caps =>
      match K.fb fid with
      | some fn => match fn.body with
        | some c =>
          let t := first ++ args ++ caps
          (exec K n none (callN K n) c { fn := fid, t := t ++ List.replicate (fn.ntmps - t.length) (.tup []), h }).bind fun (e, σ) =>
            match e with
            | .normal | .ret => (ND.of fn.name (resultsOf K fn σ)).map fun v => (v, σ.h)
            | _ => .bad "callN"
        | none => .bad "callN"
      | none => .bad "callN"
    | .fn (.yield lb) [] [] =>
      match h.getD lb none with
      | some (.loop fn t ps asg body .ready .normal) =>
        bif args.length == ps.length then
          let t₁ := (ps.zip args).foldl (fun t (p, a) => t.set p a) t
          (exec K n (some lb) (callN K n) asg { fn, t := t₁, h }).bind fun (e, σ) => match e with
            | .normal =>
              match σ.h.getD lb none with
              | some (.loop fn' t' ps' asg' body' .ready .normal) =>
                (exec K n (some lb) (callN K n) body { σ with h := σ.h.set lb (some (.loop fn' t' ps' asg' body' .busy .normal)) }).bind fun (e, σ) =>
                  match σ.h.getD lb none with
                  | some (.loop fn' t' ps' asg' body' .busy .normal) =>
                    match e with
                    | .normal => .ok (.bool true, σ.h.set lb (some (.loop fn' t' ps' asg' body' .ready .normal)))
                    | .panic _ => .bad "callN"
                    | e => .ok (.bool false, σ.h.set lb (some (.loop fn' t' ps' asg' body' .done e)))
                  | _ => .bad "callN"
              | _ => .bad "callN"
            | _ => .bad "callN"
        else .bad "callN"
      | _ => .bad "callN"
    | _ => .bad "callN"
def tkOf (P : Program) (t : Nat) : TK :=
  match P.underlying t with
  | some (.slice e) => .slice e
  | some (.array n e) => .arr n e
  | some (.struct fs) => .struct (fs.toList.map fun f => (f.offset, f.type))
  | some (.map k e) => .map k e
  | some (.pointer e) => .ptr e
  | some .bool | some (.int _) | some .string => .prim
  | some (.func _ _ _) => .func
  | some (.interface _) => .iface
  | _ => .other
def ikOf (P : Program) (t : Nat) : Option IntKind :=
  match P.underlying t with
  | some (.int k) => some k
  | _ => none
def kindStep (P : Program) (g : Nat → Option (List EK)) (acc : Option (List EK)) (f : Field) : Option (List EK) :=
  acc.bind fun l => (g f.type).bind fun m => bif f.name != "_" && f.offset == l.length && (P.info? f.type).map (·.size) == some m.length && decide (0 < m.length) then some (l ++ m) else none
def eqKinds (P : Program) : Nat → Nat → Option (List EK)
  | 0, _ => none
  | d + 1, t => match P.underlying t with
    | some .bool => some [.b]
    | some (.int k) => some [.i k]
    | some .string => some [.s]
    | some (.struct fs) => bif P.stoodInHeld t || P.eqGuardType P.depth t then none else fs.toList.foldl (kindStep P (eqKinds P d)) (some [])
    | _ => none
def zeroL (v : Value) : List LV := match v with
  | .agg cs => cs.toList.map ofVal1
  | v => [ofVal1 v]
def isAggV : Value → Bool
  | .agg _ => true
  | _ => false
def aggK : TK → Bool
  | .struct _ => true
  | .arr _ _ => true
  | _ => false
def zokOf (P : Program) (i : TypeInfo) (t : Nat) : Bool :=
  match i.zero with
  | some v => (zeroL v).length == i.size && (zeroL v).all LV.known && (isAggV v == aggK (tkOf P t))
  | none => false
def tiOf (P : Program) (t : Nat) : TI :=
  match P.info? t with
  | some i => { k := tkOf P t, sz := i.size, by_ := i.bytes, zero := (i.zero.map zeroL).getD [], zok := zokOf P i t, eq := eqKinds P 12 t, ik := ikOf P t }
  | none => default
def ttOf (P : Program) (n : Nat) : List TI := (List.range n).map (tiOf P)
end Go.LH


set_option linter.unusedVariables false
namespace Go.LH
inductive Loc where
  | at (R base len : Nat)
  | virt
abbrev Env := Nat → Option Loc
def noEnv : Env := fun _ => none
def upd (ρ : Env) (b : Nat) (l : Loc) : Env := fun x => if x = b then some l else ρ x
theorem upd_same (ρ : Env) (b : Nat) (l : Loc) : upd ρ b l b = some l := by simp [upd]
theorem upd_ne {ρ : Env} {b x : Nat} {l : Loc} (h : x ≠ b) : upd ρ b l x = ρ x := by simp [upd, h]
inductive FnR (ρ : Env) : Fn → Fn → Prop
  | func (f : FuncId) : FnR ρ (.func f) (.func f)
  | yield (b R base len : Nat) : ρ b = some (.at R base len) → FnR ρ (.yield b) (.yield R)
abbrev CellP := Nat → Nat → Prop
inductive VR (K : Ctx) (I : CellP) (J : Nat → Prop) (w : World) : Env → LV → Value → Prop
  | un (ρ : Env) (V : Value) : VR K I J w ρ .un V
  | bool (ρ : Env) (b : Bool) : VR K I J w ρ (.bool b) (.bool b)
  | int (ρ : Env) (k : IntKind) (n : Int) : VR K I J w ρ (.int k n) (.int k n)
  | str (ρ : Env) (s : ByteArray) : VR K I J w ρ (.str s) (.string s)
  | slnil (ρ : Env) (s : Nat) (nl : Option Bool) (ex : Bool) : nl ≠ some false → VR K I J w ρ (.sl s nl ex []) (.slice none 0 0)
  | slemp (ρ : Env) (s : Nat) (nl : Option Bool) (ex : Bool) (a : Addr) (cap : Nat) : nl ≠ some true → (ex = true → cap = 0) →
      VR K I J w ρ (.sl s nl ex []) (.slice (some a) 0 cap)
  | sl (ρ : Env) (s : Nat) (nl : Option Bool) (ex : Bool) (es : List (List LV)) (R o cap : Nat) (Vs : Nat → Nat → Value) :
      nl ≠ some true → es.length ≤ cap → (ex = true → cap = es.length) → 0 < s →
      (∀ (i : Nat) (e : List LV), es[i]? = some e → e.length = s) →
      (∀ (i k : Nat), i < es.length → k < s → w.cell? ⟨R, o + i * s + k, none⟩ = some (Vs i k) ∧ I R (o + i * s + k) ∧ (Vs i k).oneCell' = true) →
      (∀ (i k : Nat) (e : List LV) (c : LV), es[i]? = some e → e[k]? = some c → VR K I J w noEnv c (Vs i k)) →
      VR K I J w ρ (.sl s nl ex es) (.slice (some ⟨R, o, none⟩) es.length cap)
  | row (ρ : Env) (b s R base len cap Kc ty : Nat) : ρ b = some (.at R base len) → len ≤ cap → w.shape? R = some (ty, Kc) → base + cap * s ≤ Kc →
      VR K I J w ρ (.row b s none) (.slice (some ⟨R, base, none⟩) len cap)
  | rowv (ρ : Env) (b s : Nat) (A : Option Addr) : ρ b = some .virt → VR K I J w ρ (.row b s none) (.slice A 0 0)
  | part (ρ : Env) (b s off n R base len cap Kc ty : Nat) : ρ b = some (.at R base len) → off + n ≤ len → n ≤ cap → w.shape? R = some (ty, Kc) → base + (off + cap) * s ≤ Kc →
      VR K I J w ρ (.row b s (some (off, n))) (.slice (some ⟨R, base + off * s, none⟩) n cap)
  | part0 (ρ : Env) (b s off : Nat) (A : Option Addr) (l : Loc) : ρ b = some l → VR K I J w ρ (.row b s (some (off, 0))) (.slice A 0 0)
  | bsl (ρ : Env) (b off s n R base len cap : Nat) : ρ b = some (.at R base len) → n ≤ cap → VR K I J w ρ (.bsl b off s n) (.slice (some ⟨R, base + off, none⟩) n cap)
  | ptr (ρ : Env) (b off R base len : Nat) : ρ b = some (.at R base len) → VR K I J w ρ (.ptr b off) (.pointer (some ⟨R, base + off, none⟩))
  | rptr (ρ : Env) (b i s off R base len : Nat) : ρ b = some (.at R base len) → VR K I J w ρ (.rptr b i s off) (.pointer (some ⟨R, base + i * s + off, none⟩))
  | eptr (ρ : Env) (cs : List LV) (off R o : Nat) (Vs : Nat → Value) :
      (∀ (k : Nat), k < cs.length → w.cell? ⟨R, o + k, none⟩ = some (Vs k) ∧ I R (o + k) ∧ (Vs k).oneCell' = true) →
      (∀ (k : Nat) (c : LV), cs[k]? = some c → VR K I J w noEnv c (Vs k)) →
      VR K I J w ρ (.eptr cs off) (.pointer (some ⟨R, o + off, none⟩))
  | nptr (ρ : Env) : VR K I J w ρ .nptr (.pointer none)
  | map (ρ : Env) (b R base len : Nat) : ρ b = some (.at R base len) → VR K I J w ρ (.map b) (.map (some R))
  | pmap (ρ : Env) (kt : Nat) (ks vs : List LV) (R : Nat) (es : Array MapEntry) (clock : Nat) :
      J R → w.heap[R]? = some (.map es clock) → ks.length = es.size → vs.length = es.size →
      (∀ (i : Nat) (k : LV), ks[i]? = some k → keyOk K kt k = true) →
      (∀ (i : Nat) (k : LV) (e : MapEntry), ks[i]? = some k → es[i]? = some e → VR K I J w noEnv k e.key) →
      (∀ (i : Nat) (v : LV) (e : MapEntry), vs[i]? = some v → es[i]? = some e → VR K I J w noEnv v e.val) →
      (∀ (i j : Nat) (e f : MapEntry), es[i]? = some e → es[j]? = some f → i < j → e.born < f.born) →
      (∀ (i : Nat) (e : MapEntry), es[i]? = some e → e.born < clock) →
      VR K I J w ρ (.pmap kt ks vs) (.map (some R))
  | nmap (ρ : Env) : VR K I J w ρ .nmap (.map none)
  | fn (ρ : Env) (f f' : Fn) (a b : List LV) (A B : Array Value) : FnR ρ f f' → a.length = A.size → b.length = B.size →
      (∀ (i : Nat) (v : LV) (V : Value), a[i]? = some v → A[i]? = some V → VR K I J w ρ v V) →
      (∀ (i : Nat) (v : LV) (V : Value), b[i]? = some v → B[i]? = some V → VR K I J w ρ v V) →
      VR K I J w ρ (.fn f a b) (.func f' A B)
  | nfn (ρ : Env) : VR K I J w ρ .nfn .nilFunc
  | ifc (ρ : Env) (t : Nat) (x : LV) (X : Value) : VR K I J w ρ x X → VR K I J w ρ (.ifc t x) (.iface t X)
  | nifc (ρ : Env) : VR K I J w ρ .nifc .nilIface
  | agg (ρ : Env) (cs : List LV) (C : Array Value) : cs.length = C.size → (∀ (i : Nat) (V : Value), C[i]? = some V → V.oneCell' = true) →
      (∀ (i : Nat) (v : LV) (V : Value), cs[i]? = some v → C[i]? = some V → VR K I J w ρ v V) → VR K I J w ρ (.agg cs) (.agg C)
  | tup (ρ : Env) (cs : List LV) (C : Array Value) : cs.length = C.size →
      (∀ (i : Nat) (v : LV) (V : Value), cs[i]? = some v → C[i]? = some V → VR K I J w ρ v V) → VR K I J w ρ (.tup cs) (.tuple C)
structure Keep (I : CellP) (J : Nat → Prop) (w w' : World) : Prop where
  cell : ∀ R o V, I R o → w.cell? ⟨R, o, none⟩ = some V → w'.cell? ⟨R, o, none⟩ = some V
  obj : ∀ R x, J R → w.heap[R]? = some x → w'.heap[R]? = some x
  shape : ∀ R x, w.shape? R = some x → w'.shape? R = some x
theorem Keep.refl (I : CellP) (J : Nat → Prop) (w : World) : Keep I J w w := ⟨fun _ _ _ _ h => h, fun _ _ _ h => h, fun _ _ h => h⟩
theorem Keep.trans {I I' : CellP} {J J' : Nat → Prop} {a b c : World} (h : Keep I J a b) (k : Keep I' J' b c) (hI : ∀ R o, I R o → I' R o) (hJ : ∀ R, J R → J' R) : Keep I J a c :=
  ⟨fun R o V i h1 => k.cell R o V (hI R o i) (h.cell R o V i h1), fun R x j h1 => k.obj R x (hJ R j) (h.obj R x j h1), fun R x h1 => k.shape R x (h.shape R x h1)⟩
theorem mem_refsL : ∀ {vs : List LV} {i : Nat} {v : LV} {b : Nat}, vs[i]? = some v → b ∈ v.refs → b ∈ refsL vs
  | [], _, _, _, h, _ => by simp at h
  | x :: xs, 0, v, b, h, hb => by simp at h; subst h; simp [refsL, hb]
  | x :: xs, i + 1, v, b, h, hb => by
    simp at h
    simp only [refsL, List.mem_append]
    exact .inr (mem_refsL h hb)
theorem mem_refsL' : ∀ {vs : List LV} {b : Nat}, b ∈ refsL vs → ∃ v, v ∈ vs ∧ b ∈ v.refs
  | [], _, h => by simp [refsL] at h
  | x :: xs, b, h => by
    simp only [refsL, List.mem_append] at h
    rcases h with h | h
    · exact ⟨x, by simp, h⟩
    · obtain ⟨v, hv, hb⟩ := mem_refsL' h
      exact ⟨v, by simp [hv], hb⟩
section
variable {K : Ctx} {I I' : CellP} {J J' : Nat → Prop} {w w' : World} {ρ ρ' : Env} {v : LV} {V : Value}
theorem VR.mono (h : VR K I J w ρ v V) (hI : ∀ R o, I R o → I' R o) (hJ : ∀ R, J R → J' R) (hK : Keep I J w w') :
    ∀ {ρ' : Env}, (∀ b ∈ v.refs, ρ' b = ρ b) → VR K I' J' w' ρ' v V := by
  induction h with
  | un ρ V => exact fun _ => .un _ _
  | bool ρ b => exact fun _ => .bool _ _
  | int ρ k n => exact fun _ => .int _ _ _
  | str ρ s => exact fun _ => .str _ _
  | slnil ρ s nl ex h => exact fun _ => .slnil _ _ _ _ h
  | slemp ρ s nl ex a cap h1 h2 => exact fun _ => .slemp _ _ _ _ _ _ h1 h2
  | sl ρ s nl ex es R o cap Vs h1 h2 h3 h4 h5 h6 _ ih =>
    exact fun _ => .sl _ _ _ _ _ R o cap Vs h1 h2 h3 h4 h5
      (fun i k hi hk => let ⟨a, b, c⟩ := h6 i k hi hk; ⟨hK.cell _ _ _ b a, hI _ _ b, c⟩) (fun i k e c he hc => ih i k e c he hc (fun _ _ => rfl))
  | row ρ b s R base len cap Kc ty h1 h2 h3 h4 => exact fun hρ => .row _ b s R base len cap Kc ty ((hρ b (by simp [LV.refs])).trans h1) h2 (hK.shape _ _ h3) h4
  | rowv ρ b s A h1 => exact fun hρ => .rowv _ b s A ((hρ b (by simp [LV.refs])).trans h1)
  | part ρ b s off n R base len cap Kc ty h1 h2 h3 h4 h5 =>
    exact fun hρ => .part _ b s off n R base len cap Kc ty ((hρ b (by simp [LV.refs])).trans h1) h2 h3 (hK.shape _ _ h4) h5
  | part0 ρ b s off A l h1 => exact fun hρ => .part0 _ _ _ _ _ l ((hρ b (by simp [LV.refs])).trans h1)
  | bsl ρ b off s n R base len cap h1 h2 => exact fun hρ => .bsl _ b off s n R base len cap ((hρ b (by simp [LV.refs])).trans h1) h2
  | ptr ρ b off R base len h1 => exact fun hρ => .ptr _ b off R base len ((hρ b (by simp [LV.refs])).trans h1)
  | rptr ρ b i s off R base len h1 => exact fun hρ => .rptr _ b i s off R base len ((hρ b (by simp [LV.refs])).trans h1)
  | eptr ρ cs off R o Vs h1 _ ih =>
    exact fun _ => .eptr _ cs off R o Vs (fun k hk => let ⟨a, b, c⟩ := h1 k hk; ⟨hK.cell _ _ _ b a, hI _ _ b, c⟩) (fun k c hc => ih k c hc (fun _ _ => rfl))
  | nptr ρ => exact fun _ => .nptr _
  | map ρ b R base len h1 => exact fun hρ => .map _ b R base len ((hρ b (by simp [LV.refs])).trans h1)
  | pmap ρ kt ks vs R es clock h1 h2 h3 h4 h5 _ _ h7 h8 ih1 ih2 =>
    exact fun _ => .pmap _ kt ks vs R es clock (hJ _ h1) (hK.obj _ _ h1 h2) h3 h4 h5 (fun i k e hk he => ih1 i k e hk he (fun _ _ => rfl)) (fun i v e hv he => ih2 i v e hv he (fun _ _ => rfl)) h7 h8
  | nmap ρ => exact fun _ => .nmap _
  | fn ρ f f' a b A B h1 h2 h3 _ _ ih1 ih2 =>
    intro ρ' hρ
    refine .fn _ f f' a b A B ?_ h2 h3 (fun i v V hv hV => ih1 i v V hv hV (fun c hc => hρ c ?_)) (fun i v V hv hV => ih2 i v V hv hV (fun c hc => hρ c ?_))
    · cases h1 with
      | func f => exact .func f
      | yield b R base len h => exact .yield b R base len ((hρ b (by simp [LV.refs])).trans h)
    · simp only [LV.refs, List.mem_append]; exact .inl (.inr (mem_refsL hv hc))
    · simp only [LV.refs, List.mem_append]; exact .inr (mem_refsL hv hc)
  | nfn ρ => exact fun _ => .nfn _
  | ifc ρ t x X _ ih => exact fun hρ => .ifc _ t x X (ih (fun c hc => hρ c (by simpa [LV.refs] using hc)))
  | nifc ρ => exact fun _ => .nifc _
  | agg ρ cs C h1 h2 _ ih => exact fun hρ => .agg _ cs C h1 h2 (fun i v V hv hV => ih i v V hv hV (fun c hc => hρ c (by simp only [LV.refs]; exact mem_refsL hv hc)))
  | tup ρ cs C h1 _ ih => exact fun hρ => .tup _ cs C h1 (fun i v V hv hV => ih i v V hv hV (fun c hc => hρ c (by simp only [LV.refs]; exact mem_refsL hv hc)))
theorem VR.up (h : VR K I J w noEnv v V) (ρ : Env) : VR K I J w ρ v V := by
  generalize hn : noEnv = ρ₀ at h
  induction h with
  | un _ V => exact .un _ _
  | bool _ b => exact .bool _ _
  | int _ k n => exact .int _ _ _
  | str _ s => exact .str _ _
  | slnil _ s nl ex h => exact .slnil _ _ _ _ h
  | slemp _ s nl ex a cap h1 h2 => exact .slemp _ _ _ _ _ _ h1 h2
  | sl _ s nl ex es R o cap Vs h1 h2 h3 h4 h5 h6 h7 _ => exact .sl _ _ _ _ _ R o cap Vs h1 h2 h3 h4 h5 h6 h7
  | row _ b s R base len cap Kc ty h1 h2 h3 h4 => subst hn; simp [noEnv] at h1
  | rowv _ b s A h1 => subst hn; simp [noEnv] at h1
  | part _ b s off n R base len cap Kc ty h1 h2 h3 h4 h5 => subst hn; simp [noEnv] at h1
  | part0 _ b s off A l h1 => subst hn; simp [noEnv] at h1
  | bsl _ b off s n R base len cap h1 h2 => subst hn; simp [noEnv] at h1
  | ptr _ b off R base len h1 => subst hn; simp [noEnv] at h1
  | rptr _ b i s off R base len h1 => subst hn; simp [noEnv] at h1
  | eptr _ cs off R o Vs h1 h2 _ => exact .eptr _ cs off R o Vs h1 h2
  | nptr _ => exact .nptr _
  | map _ b R base len h1 => subst hn; simp [noEnv] at h1
  | pmap _ kt ks vs R es clock h1 h2 h3 h4 h5 h6 h7 h8 h9 _ _ => exact .pmap _ kt ks vs R es clock h1 h2 h3 h4 h5 h6 h7 h8 h9
  | nmap _ => exact .nmap _
  | fn _ f f' a b A B h1 h2 h3 _ _ ih1 ih2 =>
    subst hn
    refine .fn _ f f' a b A B ?_ h2 h3 (fun i v V hv hV => ih1 i v V hv hV rfl) (fun i v V hv hV => ih2 i v V hv hV rfl)
    cases h1 with
    | func f => exact .func f
    | yield b R base len h => simp [noEnv] at h
  | nfn _ => exact .nfn _
  | ifc _ t x X _ ih => exact .ifc _ t x X (ih hn)
  | nifc _ => exact .nifc _
  | agg _ cs C h1 h2 _ ih => exact .agg _ cs C h1 h2 (fun i v V hv hV => ih i v V hv hV hn)
  | tup _ cs C h1 _ ih => exact .tup _ cs C h1 (fun i v V hv hV => ih i v V hv hV hn)
theorem VR.dom (h : VR K I J w ρ v V) : ∀ b ∈ v.refs, ∃ l, ρ b = some l := by
  induction h with
  | row ρ b s R base len cap Kc ty h1 _ _ _ => intro c hc; simp [LV.refs] at hc; subst hc; exact ⟨_, h1⟩
  | rowv ρ b s A h1 => intro c hc; simp [LV.refs] at hc; subst hc; exact ⟨_, h1⟩
  | part ρ b s off n R base len cap Kc ty h1 _ _ _ _ => intro c hc; simp [LV.refs] at hc; subst hc; exact ⟨_, h1⟩
  | part0 ρ b s off A l h1 => intro c hc; simp [LV.refs] at hc; subst hc; exact ⟨_, h1⟩
  | bsl ρ b off s n R base len cap h1 h2 => intro c hc; simp [LV.refs] at hc; subst hc; exact ⟨_, h1⟩
  | ptr ρ b off R base len h1 => intro c hc; simp [LV.refs] at hc; subst hc; exact ⟨_, h1⟩
  | rptr ρ b i s off R base len h1 => intro c hc; simp [LV.refs] at hc; subst hc; exact ⟨_, h1⟩
  | map ρ b R base len h1 => intro c hc; simp [LV.refs] at hc; subst hc; exact ⟨_, h1⟩
  | fn ρ f f' a b A B h1 h2 h3 _ _ ih1 ih2 =>
    intro c hc
    simp only [LV.refs, List.mem_append] at hc
    rcases hc with (hc | hc) | hc
    · cases h1 with
      | func f => simp at hc
      | yield l R base len h => simp at hc; subst hc; exact ⟨_, h⟩
    · obtain ⟨x, hx, hcx⟩ := mem_refsL' hc
      obtain ⟨i, hi⟩ := List.getElem?_of_mem hx
      have hl : i < A.size := by have := (List.getElem?_eq_some_iff.1 hi).1; omega
      exact ih1 i x A[i] hi (by simp [hl]) c hcx
    · obtain ⟨x, hx, hcx⟩ := mem_refsL' hc
      obtain ⟨i, hi⟩ := List.getElem?_of_mem hx
      have hl : i < B.size := by have := (List.getElem?_eq_some_iff.1 hi).1; omega
      exact ih2 i x B[i] hi (by simp [hl]) c hcx
  | ifc ρ t x X _ ih => intro c hc; exact ih c (by simpa [LV.refs] using hc)
  | agg ρ cs C h1 h2 _ ih =>
    intro c hc
    simp only [LV.refs] at hc
    obtain ⟨x, hx, hcx⟩ := mem_refsL' hc
    obtain ⟨i, hi⟩ := List.getElem?_of_mem hx
    have hl : i < C.size := by have := (List.getElem?_eq_some_iff.1 hi).1; omega
    exact ih i x C[i] hi (by simp [hl]) c hcx
  | tup ρ cs C h1 _ ih =>
    intro c hc
    simp only [LV.refs] at hc
    obtain ⟨x, hx, hcx⟩ := mem_refsL' hc
    obtain ⟨i, hi⟩ := List.getElem?_of_mem hx
    have hl : i < C.size := by have := (List.getElem?_eq_some_iff.1 hi).1; omega
    exact ih i x C[i] hi (by simp [hl]) c hcx
  | _ => intro c hc; simp [LV.refs] at hc
end
end Go.LH


set_option linter.unusedVariables false
namespace Go.LH
def CellsR (K : Ctx) (I : CellP) (J : Nat → Prop) (w : World) (ρ : Env) (cs : List LV) (C : Array Value) : Prop :=
  cs.length = C.size ∧ (∀ (i : Nat) (V : Value), C[i]? = some V → V.oneCell' = true) ∧
    ∀ (i : Nat) (v : LV) (V : Value), cs[i]? = some v → C[i]? = some V → VR K I J w ρ v V
def TmpsR (K : Ctx) (I : CellP) (J : Nat → Prop) (w : World) (ρ : Env) (cs : List LV) (C : Array Value) : Prop :=
  cs.length = C.size ∧ ∀ (i : Nat) (v : LV) (V : Value), cs[i]? = some v → C[i]? = some V → VR K I J w ρ v V
def pendC : Ex → Option Code
  | .ret => some .ret
  | .exit id => some (.exit id)
  | _ => none
def mapEnv (pu : Bool) (ρ : Env) : Env := if pu then noEnv else ρ
def MapR (K : Ctx) (I : CellP) (J : Nat → Prop) (w : World) (ρ : Env) (kt : Nat) (ks vs : List LV) (es : Array MapEntry) (clock : Nat) : Prop :=
  ks.length = es.size ∧ vs.length = es.size ∧ (∀ (i : Nat) (k : LV), ks[i]? = some k → keyOk K kt k = true) ∧
    (∀ (i : Nat) (k : LV) (e : MapEntry), ks[i]? = some k → es[i]? = some e → VR K I J w noEnv k e.key) ∧
    (∀ (i : Nat) (v : LV) (e : MapEntry), vs[i]? = some v → es[i]? = some e → VR K I J w ρ v e.val) ∧
    (∀ (i j : Nat) (e f : MapEntry), es[i]? = some e → es[j]? = some f → i < j → e.born < f.born) ∧
    (∀ (i : Nat) (e : MapEntry), es[i]? = some e → e.born < clock)
def IterR (K : Ctx) (I : CellP) (J : Nat → Prop) (w : World) (ρ : Env) (ks vs : List LV) (last : Option (LV × LV)) (es : Array MapEntry) (clock : Nat) (since : Nat) (seen : Array Nat) (stepped : Nat) : Prop :=
  since = clock ∧ stepped = clock ∧ (∀ (i j : Nat) (e f : MapEntry), es[i]? = some e → es[j]? = some f → i < j → e.born < f.born) ∧
    (∀ (i : Nat) (e : MapEntry), es[i]? = some e → e.born < clock) ∧
    (∃ l : List MapEntry, (es.filter fun e => !seen.contains e.born).toList = l ∧ ks.length = l.length ∧ vs.length = l.length ∧
      (∀ (i : Nat) (k : LV) (e : MapEntry), ks[i]? = some k → l[i]? = some e → VR K I J w noEnv k e.key) ∧
      (∀ (i : Nat) (v : LV) (e : MapEntry), vs[i]? = some v → l[i]? = some e → VR K I J w ρ v e.val)) ∧
    (∀ (k v : LV), last = some (k, v) → ∃ e : MapEntry, seen.back? = some e.born ∧ (∃ i : Nat, es[i]? = some e) ∧ VR K I J w noEnv k e.key ∧ VR K I J w ρ v e.val)
def BlkRel (K : Ctx) (I : CellP) (J : Nat → Prop) (w : World) (ρ : Env) (R base len : Nat) : Blk → Prop
  | .cells cs e => base = 0 ∧ ∃ C, w.heap[R]? = some (.cells C e (0, 0)) ∧ CellsR K I J w ρ cs C
  | .row pu mv es s e => len = es.length ∧ 0 < s ∧ (∀ (i : Nat) (el : List LV), es[i]? = some el → el.length = s) ∧
      ∃ C, w.heap[R]? = some (.cells C e (0, 0)) ∧ base + es.length * s ≤ C.size ∧ (∀ (i : Nat) (V : Value), C[i]? = some V → V.oneCell' = true) ∧
        ∀ (i k : Nat) (el : List LV) (c : LV) (V : Value), es[i]? = some el → el[k]? = some c → C[base + i * s + k]? = some V → VR K I J w (mapEnv pu ρ) c V
  | .map pu kt ks vs => ∃ es clock, w.heap[R]? = some (.map es clock) ∧ MapR K I J w (mapEnv pu ρ) kt ks vs es clock
  | .iter mb ks vs last => base = 0 ∧ ∃ m since seen stepped, w.heap[R]? = some (.mapIter m since seen stepped) ∧
      match m with
      | none => ks = [] ∧ vs = [] ∧ last = none ∧ mb = none
      | some M => (match mb with
          | none => J M
          | some b => ∃ base len, ρ b = some (.at M base len)) ∧ ∃ es clock, w.heap[M]? = some (.map es clock) ∧ IterR K I J w ρ ks vs last es clock since seen stepped
  | .loop fn t ps asg body st pend => ∃ r : Loop, w.heap[R]? = some (.loop r) ∧ r.fn = r.fn ∧ r.params = ps.toArray ∧ r.assign = asg ∧ r.body = body ∧ r.state = st ∧ r.pending = pendC pend ∧
      TmpsR K I J w ρ t r.tmps
def Blk.iterOf : Blk → Option Nat
  | .iter b _ _ _ => b
  | _ => none
structure Io (w w' : World) : Prop where
  os : w'.os = w.os
  output : w'.output = w.output
theorem Io.refl (w : World) : Io w w := ⟨rfl, rfl⟩
theorem Io.trans {a b c : World} (h : Io a b) (k : Io b c) : Io a c := ⟨k.os.trans h.os, k.output.trans h.output⟩
structure Ext (w w' : World) : Prop where
  size : w.heap.size ≤ w'.heap.size
  old : ∀ R, R < w.heap.size → w'.heap[R]? = w.heap[R]?
  io : Io w w'
theorem Ext.refl (w : World) : Ext w w := ⟨Nat.le_refl _, fun _ _ => rfl, Io.refl w⟩
theorem Ext.trans {a b c : World} (h : Ext a b) (k : Ext b c) : Ext a c :=
  ⟨Nat.le_trans h.size k.size, fun R hR => (k.old R (Nat.lt_of_lt_of_le hR h.size)).trans (h.old R hR), h.io.trans k.io⟩
theorem Ext.push {w w' : World} {o : Obj} (h : w'.heap = w.heap.push o) (io : Io w w') : Ext w w' :=
  ⟨by rw [h]; simp, fun R hR => by rw [h, Array.getElem?_push]; simp [Nat.ne_of_lt hR], io⟩
theorem some_lt {w : World} {R : Nat} {x : Obj} (h : w.heap[R]? = some x) : R < w.heap.size := by
  rcases Nat.lt_or_ge R w.heap.size with h' | h'
  · exact h'
  · rw [Array.getElem?_eq_none h'] at h; cases h
theorem Ext.obj {w w' : World} (h : Ext w w') {R : Nat} {x : Obj} (hx : w.heap[R]? = some x) : w'.heap[R]? = some x :=
  (h.old R (some_lt hx)).trans hx
theorem cell_eq {w w' : World} {R o : Nat} (h : w'.heap[R]? = w.heap[R]?) : w'.cell? ⟨R, o, none⟩ = w.cell? ⟨R, o, none⟩ := by
  simp only [World.cell?, h]
theorem cell_lt {w : World} {R o : Nat} {V : Value} (h : w.cell? ⟨R, o, none⟩ = some V) : R < w.heap.size := by
  simp only [World.cell?] at h
  split at h
  · rename_i h'; exact some_lt h'
  · cases h
theorem cell_of {w : World} {R o : Nat} {C : Array Value} {e : Nat} {fr : Nat × Nat} (h : w.heap[R]? = some (.cells C e fr)) : w.cell? ⟨R, o, none⟩ = C[o]? := by
  simp [World.cell?, h]
theorem shape_of {w : World} {R : Nat} {C : Array Value} {e : Nat} {fr : Nat × Nat} (h : w.heap[R]? = some (.cells C e fr)) : w.shape? R = some (e, C.size) := by
  simp [World.shape?, h]
theorem shape_lt {w : World} {R : Nat} {x : Nat × Nat} (h : w.shape? R = some x) : R < w.heap.size := by
  simp only [World.shape?] at h
  split at h
  · rename_i h'; exact some_lt h'
  · cases h
theorem shape_eq {w w' : World} {R : Nat} (h : w'.heap[R]? = w.heap[R]?) : w'.shape? R = w.shape? R := by
  simp only [World.shape?, h]
theorem Ext.keep {w w' : World} (h : Ext w w') (I : CellP) (J : Nat → Prop) : Keep I J w w' :=
  ⟨fun R o V _ hc => (cell_eq (h.old R (cell_lt hc))).trans hc, fun R x _ hx => h.obj hx, fun R x hx => (shape_eq (h.old R (shape_lt hx))).trans hx⟩
section
variable {K : Ctx} {I I' : CellP} {J J' : Nat → Prop} {w w' : World} {ρ ρ' : Env}
theorem mapEnv_refs {pu : Bool} {b : Nat} (h : pu = false → ρ' b = ρ b) : mapEnv pu ρ' b = mapEnv pu ρ b := by
  cases pu <;> simp [mapEnv] at h ⊢; exact h
theorem TmpsR.mono {cs : List LV} {C : Array Value} (h : TmpsR K I J w ρ cs C) (hI : ∀ R o, I R o → I' R o) (hJ : ∀ R, J R → J' R) (hK : Keep I J w w') (hρ : ∀ b ∈ refsL cs, ρ' b = ρ b) :
    TmpsR K I' J' w' ρ' cs C :=
  ⟨h.1, fun i v V hv hV => (h.2 i v V hv hV).mono hI hJ hK (fun b hb => hρ b (mem_refsL hv hb))⟩
theorem CellsR.mono {cs : List LV} {C : Array Value} (h : CellsR K I J w ρ cs C) (hI : ∀ R o, I R o → I' R o) (hJ : ∀ R, J R → J' R) (hK : Keep I J w w') (hρ : ∀ b ∈ refsL cs, ρ' b = ρ b) :
    CellsR K I' J' w' ρ' cs C :=
  ⟨h.1, h.2.1, fun i v V hv hV => (h.2.2 i v V hv hV).mono hI hJ hK (fun b hb => hρ b (mem_refsL hv hb))⟩
theorem MapR.mono {kt : Nat} {ks vs : List LV} {es : Array MapEntry} {clock : Nat} (h : MapR K I J w ρ kt ks vs es clock) (hI : ∀ R o, I R o → I' R o) (hJ : ∀ R, J R → J' R) (hK : Keep I J w w')
    (hρ : ∀ b ∈ refsL vs, ρ' b = ρ b) : MapR K I' J' w' ρ' kt ks vs es clock :=
  ⟨h.1, h.2.1, h.2.2.1, fun i k e hk he => (h.2.2.2.1 i k e hk he).mono hI hJ hK (fun _ _ => rfl),
    fun i v e hv he => (h.2.2.2.2.1 i v e hv he).mono hI hJ hK (fun b hb => hρ b (mem_refsL hv hb)), h.2.2.2.2.2.1, h.2.2.2.2.2.2⟩
theorem IterR.mono {ks vs : List LV} {last : Option (LV × LV)} {es : Array MapEntry} {clock since stepped : Nat} {seen : Array Nat} (h : IterR K I J w ρ ks vs last es clock since seen stepped)
    (hI : ∀ R o, I R o → I' R o) (hJ : ∀ R, J R → J' R) (hK : Keep I J w w') (hρ : ∀ b ∈ refsL vs, ρ' b = ρ b) (hl : ∀ k v, last = some (k, v) → ∀ b ∈ v.refs, ρ' b = ρ b) :
    IterR K I' J' w' ρ' ks vs last es clock since seen stepped := by
  obtain ⟨h1, h2, h3, h4, ⟨l, h5, h6, h7, h8, h9⟩, h10⟩ := h
  refine ⟨h1, h2, h3, h4, ⟨l, h5, h6, h7, fun i k e hk he => (h8 i k e hk he).mono hI hJ hK (fun _ _ => rfl), fun i v e hv he => (h9 i v e hv he).mono hI hJ hK (fun b hb => hρ b (mem_refsL hv hb))⟩, fun k v hkv => ?_⟩
  obtain ⟨e, a, b, c, d⟩ := h10 k v hkv
  exact ⟨e, a, b, c.mono hI hJ hK (fun _ _ => rfl), d.mono hI hJ hK (hl k v hkv)⟩
theorem mem_rowRefs {es : List (List LV)} {i k b : Nat} {el : List LV} {c : LV} (h1 : es[i]? = some el) (h2 : el[k]? = some c) (hb : b ∈ c.refs) : b ∈ es.flatMap refsL :=
  List.mem_flatMap.2 ⟨el, List.mem_of_getElem? h1, mem_refsL h2 hb⟩
theorem BlkRel.mono {R base len : Nat} {x : Blk} (h : BlkRel K I J w ρ R base len x) (hI : ∀ R o, I R o → I' R o) (hJ : ∀ R, J R → J' R) (hK : Keep I J w w')
    (hR : w'.heap[R]? = w.heap[R]?) (hM : ∀ b, x.iterOf = some b → ∀ M base len, ρ b = some (.at M base len) → w'.heap[M]? = w.heap[M]?) (hρ : ∀ b ∈ x.refs, ρ' b = ρ b) :
    BlkRel K I' J' w' ρ' R base len x := by
  cases x with
  | cells cs e =>
    obtain ⟨h0, C, h1, h2⟩ := h
    exact ⟨h0, C, hR.trans h1, h2.mono hI hJ hK (fun b hb => hρ b (by simpa [Blk.refs] using hb))⟩
  | row pu mv es s e =>
    obtain ⟨h0, h1, h2, C, h3, h4, h5, h6⟩ := h
    refine ⟨h0, h1, h2, C, hR.trans h3, h4, h5, fun i k el c V hel hc hV => (h6 i k el c V hel hc hV).mono hI hJ hK (fun b hb => mapEnv_refs (fun hpu => hρ b ?_))⟩
    subst hpu
    simpa [Blk.refs] using mem_rowRefs hel hc hb
  | map pu kt ks vs =>
    obtain ⟨es, clock, h1, h2⟩ := h
    refine ⟨es, clock, hR.trans h1, h2.mono hI hJ hK (fun b hb => mapEnv_refs (fun hpu => hρ b ?_))⟩
    subst hpu
    simpa [Blk.refs] using hb
  | iter mb ks vs last =>
    obtain ⟨h0, m, since, seen, stepped, h1, h2⟩ := h
    refine ⟨h0, m, since, seen, stepped, hR.trans h1, ?_⟩
    cases m with
    | none => exact h2
    | some M =>
      obtain ⟨h3, es, clock, h4, h5⟩ := h2
      have hv : ∀ b ∈ refsL vs, ρ' b = ρ b := fun b hb => hρ b (by simp [Blk.refs, hb])
      have hl : ∀ k v, last = some (k, v) → ∀ b ∈ v.refs, ρ' b = ρ b := fun k v hkv b hb => hρ b (by simp [Blk.refs, hkv, hb])
      cases mb with
      | none => exact ⟨hJ _ h3, es, clock, hK.obj _ _ h3 h4, h5.mono hI hJ hK hv hl⟩
      | some b =>
        obtain ⟨base', len', hb⟩ := h3
        exact ⟨⟨base', len', (hρ b (by simp [Blk.refs])).trans hb⟩, es, clock, (hM b rfl M base' len' hb).trans h4, h5.mono hI hJ hK hv hl⟩
  | loop fn t ps asg body st pend =>
    obtain ⟨r, h1, h2, h3, h4, h5, h6, h7, h8⟩ := h
    exact ⟨r, hR.trans h1, h2, h3, h4, h5, h6, h7, h8.mono hI hJ hK (fun b hb => hρ b (by simp [Blk.refs, hb]))⟩
end
def live (h : Heap) (b : Nat) (x : Blk) : Prop := h[b]? = some (some x)
structure Inv (K : Ctx) (Z : Nat → Prop) (I : CellP) (J : Nat → Prop) (ρ : Env) (h : Heap) (w : World) : Prop where
  rel : ∀ b R base len x, ρ b = some (.at R base len) → live h b x → BlkRel K I J w ρ R base len x
  own : ∀ b R base len x, ρ b = some (.at R base len) → live h b x → ¬ Z R ∧ (∀ o, ¬ I R o) ∧ ¬ J R ∧ R < w.heap.size
  inj : ∀ b b' R base len base' len' x x', ρ b = some (.at R base len) → ρ b' = some (.at R base' len') → live h b x → live h b' x' → b = b'
  virt : ∀ b x, ρ b = some .virt → live h b x → ∃ pu mv s e, x = .row pu mv [] s e ∧ 0 < s
  zlt : ∀ R, Z R → R < w.heap.size
  ilt : ∀ R o, I R o → R < w.heap.size
  jlt : ∀ R, J R → R < w.heap.size
  iters : ∀ i Ri bi li b ks vs last R base len, ρ i = some (.at Ri bi li) → live h i (.iter (some b) ks vs last) → ρ b = some (.at R base len) → J R ∨ ∃ pu kt ks' vs', live h b (.map pu kt ks' vs')
structure Lays (I I' : CellP) (J J' : Nat → Prop) (w w' : World) : Prop where
  ext : Ext w w'
  i : ∀ R o, I R o → I' R o
  j : ∀ R, J R → J' R
  inew : ∀ R o, I' R o → I R o ∨ (w.heap.size ≤ R ∧ R < w'.heap.size)
  jnew : ∀ R, J' R → J R ∨ (w.heap.size ≤ R ∧ R < w'.heap.size)
theorem Lays.refl (I : CellP) (J : Nat → Prop) (w : World) : Lays I I J J w w := ⟨Ext.refl w, fun _ _ h => h, fun _ h => h, fun _ _ h => .inl h, fun _ h => .inl h⟩
theorem Lays.of_ext {w w' : World} (I : CellP) (J : Nat → Prop) (h : Ext w w') : Lays I I J J w w' := ⟨h, fun _ _ h => h, fun _ h => h, fun _ _ h => .inl h, fun _ h => .inl h⟩
section
variable {K : Ctx} {Z : Nat → Prop} {I I' : CellP} {J J' : Nat → Prop} {w w' : World} {ρ ρ' : Env} {h : Heap}
theorem Inv.lays (H : Inv K Z I J ρ h w) (L : Lays I I' J J' w w') : Inv K Z I' J' ρ h w' := by
  have hk := L.ext.keep I J
  refine ⟨?_, ?_, H.inj, H.virt, fun R hz => Nat.lt_of_lt_of_le (H.zlt R hz) L.ext.size, ?_, ?_, fun i Ri bi li b ks vs last R base len hri hi hb => (H.iters i Ri bi li b ks vs last R base len hri hi hb).imp (L.j R) id⟩
  · intro b R base len x hb hx
    have hrel := H.rel b R base len x hb hx
    have ho := H.own b R base len x hb hx
    refine hrel.mono L.i L.j hk (L.ext.old R ho.2.2.2) ?_ (fun _ _ => rfl)
    intro c hc M base' len' hM
    refine L.ext.old M ?_
    cases x with
    | iter mb ks vs last =>
      simp only [Blk.iterOf] at hc
      subst hc
      rcases H.iters b R base len c ks vs last M base' len' hb hx hM with hJ | ⟨pu, kt, ks', vs', hm⟩
      · exact H.jlt M hJ
      · exact (H.own c M base' len' _ hM hm).2.2.2
    | _ => simp [Blk.iterOf] at hc
  · intro b R base len x hb hx
    have ho := H.own b R base len x hb hx
    refine ⟨ho.1, fun o hi => ?_, fun hj => ?_, Nat.lt_of_lt_of_le ho.2.2.2 L.ext.size⟩
    · rcases L.inew R o hi with hi | hi
      · exact ho.2.1 o hi
      · exact absurd ho.2.2.2 (by omega)
    · rcases L.jnew R hj with hj | hj
      · exact ho.2.2.1 hj
      · exact absurd ho.2.2.2 (by omega)
  · intro R o hi
    rcases L.inew R o hi with hi | hi
    · exact Nat.lt_of_lt_of_le (H.ilt R o hi) L.ext.size
    · exact hi.2
  · intro R hj
    rcases L.jnew R hj with hj | hj
    · exact Nat.lt_of_lt_of_le (H.jlt R hj) L.ext.size
    · exact hj.2
end
end Go.LH


set_option linter.unusedVariables false
namespace Go.LH
section
variable {K : Ctx} {Z : Nat → Prop} {I I' : CellP} {J J' : Nat → Prop} {w w' : World} {ρ ρ' : Env} {h h' : Heap}
theorem dom_list {cs : List LV} {C : Array Value} (hs : cs.length = C.size) (h : ∀ (i : Nat) (v : LV) (V : Value), cs[i]? = some v → C[i]? = some V → VR K I J w ρ v V) :
    ∀ b ∈ refsL cs, ∃ l, ρ b = some l := by
  intro b hb
  obtain ⟨x, hx, hcx⟩ := mem_refsL' hb
  obtain ⟨i, hi⟩ := List.getElem?_of_mem hx
  have hl : i < C.size := by have := (List.getElem?_eq_some_iff.1 hi).1; omega
  exact (h i x C[i] hi (by simp [hl])).dom b hcx
theorem dom_map {kt : Nat} {ks vs : List LV} {es : Array MapEntry} {clock : Nat} (h : MapR K I J w ρ kt ks vs es clock) : ∀ b ∈ refsL vs, ∃ l, ρ b = some l := by
  intro b hb
  obtain ⟨x, hx, hcx⟩ := mem_refsL' hb
  obtain ⟨i, hi⟩ := List.getElem?_of_mem hx
  have hl : i < es.size := by have := (List.getElem?_eq_some_iff.1 hi).1; have := h.2.1; omega
  exact (h.2.2.2.2.1 i x es[i] hi (by simp [hl])).dom b hcx
theorem mul_lt_of {i n s k : Nat} (hi : i < n) (hk : k < s) : i * s + k < n * s := by
  have : (i + 1) * s ≤ n * s := Nat.mul_le_mul_right s hi
  rw [Nat.add_mul] at this
  omega
theorem BlkRel.dom {R base len : Nat} {x : Blk} (h : BlkRel K I J w ρ R base len x) : ∀ b ∈ x.refs, ∃ l, ρ b = some l := by
  cases x with
  | cells cs e => obtain ⟨_, C, _, h2⟩ := h; exact dom_list h2.1 h2.2.2
  | row pu mv es s e =>
    obtain ⟨h0, h1, h2, C, h3, h4, h5, h6⟩ := h
    intro b hb
    cases pu with
    | true => simp [Blk.refs] at hb
    | false =>
      simp only [Blk.refs, cond_false, List.mem_flatMap] at hb
      obtain ⟨el, hel, hb⟩ := hb
      obtain ⟨i, hi⟩ := List.getElem?_of_mem hel
      obtain ⟨c, hc, hbc⟩ := mem_refsL' hb
      obtain ⟨k, hk⟩ := List.getElem?_of_mem hc
      have hl := (List.getElem?_eq_some_iff.1 hi).1
      have hkl := (List.getElem?_eq_some_iff.1 hk).1
      rw [h2 i el hi] at hkl
      have := mul_lt_of hl hkl
      have hlt : base + i * s + k < C.size := by omega
      exact (h6 i k el c C[base + i * s + k] hi hk (by simp [hlt])).dom b hbc
  | map pu kt ks vs =>
    obtain ⟨es, clock, h1, h2⟩ := h
    intro b hb
    cases pu with
    | true => simp [Blk.refs] at hb
    | false => exact dom_map h2 b (by simpa [Blk.refs] using hb)
  | iter mb ks vs last =>
    obtain ⟨_, m, since, seen, stepped, h1, h2⟩ := h
    intro b hb
    cases m with
    | none => obtain ⟨rfl, rfl, rfl, rfl⟩ := h2; simp [Blk.refs, refsL] at hb
    | some M =>
      obtain ⟨h3, es, clock, h4, h5⟩ := h2
      obtain ⟨_, _, _, _, ⟨l, h6, h7, h8, h9, h10⟩, h11⟩ := h5
      simp only [Blk.refs, List.mem_append, Option.mem_toList] at hb
      rcases hb with (hb | hb) | hb
      · cases mb with
        | none => cases hb
        | some c => obtain ⟨base', len', hc⟩ := h3; cases hb; exact ⟨_, hc⟩
      · obtain ⟨x, hx, hcx⟩ := mem_refsL' hb
        obtain ⟨i, hi⟩ := List.getElem?_of_mem hx
        have hl : i < l.length := by have := (List.getElem?_eq_some_iff.1 hi).1; omega
        exact (h10 i x l[i] hi (by simp [hl])).dom b hcx
      · cases last with
        | none => simp at hb
        | some kv =>
          obtain ⟨k, v⟩ := kv
          obtain ⟨e, _, _, _, hv⟩ := h11 k v rfl
          exact hv.dom b (by simpa using hb)
  | loop fn t ps asg body st pend =>
    obtain ⟨r, h1, h2, h3, h4, h5, h6, h7, h8⟩ := h
    intro b hb
    exact dom_list h8.1 h8.2 b (by simpa [Blk.refs] using hb)
theorem Inv.new (H : Inv K Z I J ρ h w) {b R len : Nat} {x : Blk} (hb : ρ b = none) (hlive : live h' b x)
    (hoth : ∀ b' y, b' ≠ b → live h' b' y → live h b' y) (hoth' : ∀ b' y, live h b' y → live h' b' y ∨ ρ b' = none)
    (hR : R < w.heap.size) (hz : ¬ Z R) (hi : ∀ o, ¬ I R o) (hj : ¬ J R)
    (hinj : ∀ b' base len y, ρ b' = some (.at R base len) → live h b' y → False)
    (hrel : BlkRel K I J w (upd ρ b (.at R 0 len)) R 0 len x) (hit : ∀ m, x.iterOf = some m → ∀ M base len, ρ m = some (.at M base len) → J M ∨ ∃ pu kt ks' vs', live h m (.map pu kt ks' vs')) :
    Inv K Z I J (upd ρ b (.at R 0 len)) h' w := by
  have hne : ∀ b' l, ρ b' = some l → b' ≠ b := fun b' l h1 h2 => by subst h2; rw [hb] at h1; cases h1
  refine ⟨?_, ?_, ?_, ?_, H.zlt, H.ilt, H.jlt, ?_⟩
  · intro b' R' base' len' y hb' hy
    by_cases e : b' = b
    · subst e
      rw [upd_same] at hb'
      cases hb'
      have : y = x := by have := hlive.symm.trans hy; cases this; rfl
      subst this
      exact hrel
    · rw [upd_ne e] at hb'
      have hrel' := H.rel b' R' base' len' y hb' (hoth b' y e hy)
      exact hrel'.mono (fun _ _ h => h) (fun _ h => h) (Keep.refl _ _ _) rfl (fun _ _ _ _ _ _ => rfl)
        (fun c hc => by obtain ⟨l, hl⟩ := hrel'.dom c hc; exact upd_ne (hne c l hl))
  · intro b' R' base' len' y hb' hy
    by_cases e : b' = b
    · subst e; rw [upd_same] at hb'; cases hb'; exact ⟨hz, hi, hj, hR⟩
    · rw [upd_ne e] at hb'; exact H.own b' R' base' len' y hb' (hoth b' y e hy)
  · intro b1 b2 R' base1 len1 base2 len2 y1 y2 h1 h2 hy1 hy2
    by_cases e1 : b1 = b
    · by_cases e2 : b2 = b
      · rw [e1, e2]
      · rw [upd_ne e2] at h2
        subst e1
        rw [upd_same] at h1
        cases h1
        exact (hinj b2 base2 len2 y2 h2 (hoth b2 y2 e2 hy2)).elim
    · rw [upd_ne e1] at h1
      by_cases e2 : b2 = b
      · subst e2
        rw [upd_same] at h2
        cases h2
        exact (hinj b1 base1 len1 y1 h1 (hoth b1 y1 e1 hy1)).elim
      · rw [upd_ne e2] at h2
        exact H.inj b1 b2 R' base1 len1 base2 len2 y1 y2 h1 h2 (hoth b1 y1 e1 hy1) (hoth b2 y2 e2 hy2)
  · intro b' y hb' hy
    by_cases e : b' = b
    · subst e; rw [upd_same] at hb'; cases hb'
    · rw [upd_ne e] at hb'; exact H.virt b' y hb' (hoth b' y e hy)
  · intro i Ri bi li m ks vs last M base len' hri hi' hm
    have lift : (∃ pu kt ks' vs', live h m (.map pu kt ks' vs')) → ρ m ≠ none → ∃ pu kt ks' vs', live h' m (.map pu kt ks' vs') := by
      rintro ⟨pu, kt, ks', vs', hl⟩ hmn
      rcases hoth' m _ hl with h1 | h1
      · exact ⟨pu, kt, ks', vs', h1⟩
      · exact absurd h1 hmn
    by_cases ei : i = b
    · subst ei
      have : x = .iter (some m) ks vs last := by have := hlive.symm.trans hi'; cases this; rfl
      subst this
      by_cases e : m = i
      · subst e
        obtain ⟨_, m', since, seen, stepped, h1, h2⟩ := hrel
        cases m' with
        | none => exact absurd h2.2.2.2 (by simp)
        | some M' =>
          obtain ⟨⟨base'', len'', h3⟩, es, clock, h4, _⟩ := h2
          rw [upd_same] at h3
          cases h3
          rw [h1] at h4
          cases h4
      · rw [upd_ne e] at hm
        rcases hit m rfl M base len' hm with h1 | h1
        · exact .inl h1
        · exact .inr (lift h1 (by rw [hm]; simp))
    · rw [upd_ne ei] at hri
      have hli := hoth i _ ei hi'
      have e : m ≠ b := by
        intro e
        subst e
        obtain ⟨l, hl⟩ := (H.rel i Ri bi li _ hri hli).dom m (by simp [Blk.refs])
        rw [hb] at hl
        cases hl
      rw [upd_ne e] at hm
      rcases H.iters i Ri bi li m ks vs last M base len' hri hli hm with h1 | h1
      · exact .inl h1
      · exact .inr (lift h1 (by rw [hm]; simp))
end
end Go.LH


set_option linter.unusedVariables false
namespace Go.LH
def isAggD : TypeDesc → Bool
  | .struct _ => true
  | .array _ _ => true
  | _ => false
structure Fits (K : Ctx) (P : Program) : Prop where
  ti : ∀ t, K.has t = true → K.ti t = tiOf P t
  fb : ∀ f fn, K.fb f = some fn → P.funcs[f]? = some fn
  mixed : P.follows .mixedOrders = true
section
variable {K : Ctx} {P : Program} {I : CellP} {J : Nat → Prop} {w : World} {ρ : Env}
theorem Fits.has_info (F : Fits K P) {t : Nat} (h : K.has t = true) : ∃ i, P.info? t = some i ∧
    K.ti t = { k := tkOf P t, sz := i.size, by_ := i.bytes, zero := (i.zero.map zeroL).getD [], zok := zokOf P i t, eq := eqKinds P 12 t, ik := ikOf P t } := by
  have h1 := F.ti t h
  unfold tiOf at h1
  cases hi : P.info? t with
  | none => rw [hi] at h1; simp only [Ctx.has, h1] at h; exact absurd h (by decide)
  | some i => rw [hi] at h1; exact ⟨i, rfl, h1⟩
theorem Fits.has_of (F : Fits K P) {t : Nat} {k : TK} (h : (K.ti t).k = k) (hk : k ≠ .other) : K.has t = true := by
  simp [Ctx.has, h, hk]
theorem Fits.tk (F : Fits K P) {t : Nat} (h : K.has t = true) : (K.ti t).k = tkOf P t := by
  obtain ⟨i, _, h2⟩ := F.has_info h
  rw [h2]
theorem Fits.has_un (F : Fits K P) {t : Nat} (h : K.has t = true) : ∃ d, P.underlying t = some d := by
  have h1 := F.tk h
  unfold tkOf at h1
  cases hu : P.underlying t with
  | some d => exact ⟨d, rfl⟩
  | none => rw [hu] at h1; simp [Ctx.has, h1] at h
theorem Fits.int (F : Fits K P) {t : Nat} {k : IntKind} (hh : K.has t = true) (h : (K.ti t).ik = some k) : P.underlying t = some (.int k) := by
  obtain ⟨i, _, h2⟩ := F.has_info hh
  rw [h2] at h
  simp only [ikOf] at h
  split at h
  · cases h; assumption
  · cases h
theorem Fits.noIface (F : Fits K P) {t : Nat} (hh : K.has t = true) (h : (K.ti t).k ≠ .iface) : ∃ d, P.underlying t = some d ∧ ∀ x, d ≠ .interface x := by
  have h1 := F.tk hh
  unfold tkOf at h1
  cases hu : P.underlying t with
  | none => rw [hu] at h1; simp [Ctx.has, h1] at hh
  | some d =>
    refine ⟨d, rfl, ?_⟩
    rintro x rfl
    rw [hu] at h1
    exact h h1
theorem Fits.slice (F : Fits K P) {t e : Nat} (h : (K.ti t).k = .slice e) : P.underlying t = some (.slice e) := by
  have h1 := F.tk (F.has_of h (by simp))
  rw [h] at h1
  unfold tkOf at h1
  split at h1 <;> first | (cases h1; assumption) | cases h1
theorem Fits.arr (F : Fits K P) {t n e : Nat} (h : (K.ti t).k = .arr n e) : P.underlying t = some (.array n e) := by
  have h1 := F.tk (F.has_of h (by simp))
  rw [h] at h1
  unfold tkOf at h1
  split at h1 <;> first | (cases h1; assumption) | cases h1
theorem Fits.map (F : Fits K P) {t k e : Nat} (h : (K.ti t).k = .map k e) : P.underlying t = some (.map k e) := by
  have h1 := F.tk (F.has_of h (by simp))
  rw [h] at h1
  unfold tkOf at h1
  split at h1 <;> first | (cases h1; assumption) | cases h1
theorem Fits.ptr (F : Fits K P) {t e : Nat} (h : (K.ti t).k = .ptr e) : P.underlying t = some (.pointer e) := by
  have h1 := F.tk (F.has_of h (by simp))
  rw [h] at h1
  unfold tkOf at h1
  split at h1 <;> first | (cases h1; assumption) | cases h1
theorem Fits.func (F : Fits K P) {t : Nat} (h : (K.ti t).k = .func) : ∃ a b c, P.underlying t = some (.func a b c) := by
  have h1 := F.tk (F.has_of h (by simp))
  rw [h] at h1
  unfold tkOf at h1
  split at h1 <;> first | exact ⟨_, _, _, by assumption⟩ | cases h1
theorem Fits.struct (F : Fits K P) {t : Nat} {fs : List (Nat × Nat)} (h : (K.ti t).k = .struct fs) :
    ∃ fields : Array Field, P.underlying t = some (.struct fields) ∧ fs = fields.toList.map fun f => (f.offset, f.type) := by
  have h1 := F.tk (F.has_of h (by simp))
  rw [h] at h1
  unfold tkOf at h1
  split at h1 <;> first | (cases h1; exact ⟨_, by assumption, rfl⟩) | cases h1
theorem Fits.notAgg (F : Fits K P) {t : Nat} (h : K.has t = true) (h1 : ∀ fs, (K.ti t).k ≠ .struct fs) (h2 : ∀ n e, (K.ti t).k ≠ .arr n e) :
    ∃ d, P.underlying t = some d ∧ isAggD d = false := by
  have h3 := F.tk h
  unfold tkOf at h3
  split at h3 <;> first
    | exact absurd h3 (h1 _)
    | exact absurd h3 (h2 _ _)
    | exact ⟨_, by assumption, rfl⟩
    | (simp [Ctx.has, h3] at h)
theorem run_underlying {t : Nat} {d : TypeDesc} (h : P.underlying t = some d) : (underlying t).run P w = .ok d w := by
  simp [underlying, h]
theorem run_sizeOf (F : Fits K P) {t : Nat} (h : K.has t = true) : (sizeOf t).run P w = .ok (K.ti t).sz w := by
  obtain ⟨i, h1, h2⟩ := F.has_info h
  simp [sizeOf, typeInfo, h1, h2]
theorem run_isAgg_true {t : Nat} {d : TypeDesc} (h : P.underlying t = some d) : (isAgg t).run P w = .ok (isAggD d) w := by
  simp only [isAgg, Sem.run_bind, run_underlying h, Result.andThen_ok]
  cases d <;> rfl
theorem ofVal1_rel (v : Value) : VR K I J w ρ (ofVal1 v) v := by
  unfold ofVal1
  split <;> first
    | exact .bool _ _ | exact .int _ _ _ | exact .str _ _ | exact .nptr _ | exact .slnil _ _ _ _ (by simp) | exact .nmap _ | exact .nfn _ | exact .nifc _
    | (refine .fn _ _ _ _ _ _ _ (.func _) rfl rfl (fun i v V h => by simp at h) (fun i v V h => by simp at h))
    | exact .un _ _
theorem ofVal1_cell (v : Value) (h : (ofVal1 v).known = true) : v.oneCell' = true := by
  unfold ofVal1 at h
  split at h <;> first | rfl | simp [LV.known] at h
theorem ofVal_rel (v : Value) : VR K I J w ρ (ofVal v) v := by
  unfold ofVal
  split
  · rename_i cs
    cases hk : (cs.toList.map ofVal1).all LV.known with
    | false => exact .un _ _
    | true =>
      simp only [cond_true]
      refine .agg _ _ _ (by simp) (fun i V hV => ?_) (fun i v V hv hV => ?_)
      · have : (ofVal1 V).known = true := by
          rw [List.all_eq_true] at hk
          refine hk _ (List.mem_map.2 ⟨V, ?_, rfl⟩)
          exact Array.mem_toList_iff.2 (Array.mem_of_getElem? hV)
        exact ofVal1_cell V this
      · simp only [List.getElem?_map, Array.getElem?_toList, hV, Option.map_some, Option.some.injEq] at hv
        subst hv
        exact ofVal1_rel V
  · exact ofVal1_rel v
theorem zero_rel (F : Fits K P) {t : Nat} (h : K.has t = true) (hz : (K.ti t).zok = true) : ∃ Zv : Value, (zeroValue t).run P w = .ok Zv w ∧
    (K.ti t).zero = zeroL Zv ∧ CellsR K I J w ρ (K.ti t).zero Zv.cells ∧ Zv.cells.size = (K.ti t).sz ∧ isAggV Zv = aggK (K.ti t).k := by
  obtain ⟨i, h1, h2⟩ := F.has_info h
  rw [h2] at hz ⊢
  simp only [zokOf] at hz
  cases hzv : i.zero with
  | none => rw [hzv] at hz; cases hz
  | some Zv =>
    rw [hzv] at hz
    simp only [Bool.and_eq_true, beq_iff_eq] at hz
    obtain ⟨⟨hz1, hz2⟩, hz3⟩ := hz
    simp only [Option.map_some, Option.getD_some]
    refine ⟨Zv, by simp [zeroValue, typeInfo, h1, hzv], rfl, ?_⟩
    have key : zeroL Zv = Zv.cells.toList.map ofVal1 := by
      cases Zv <;> simp [zeroL, Value.cells]
    have hsz : Zv.cells.size = i.size := by rw [← hz1, key]; simp
    refine ⟨⟨by rw [hz1, hsz], fun j V hV => ?_, fun j v V hv hV => ?_⟩, hsz, hz3⟩
    · have : (ofVal1 V).known = true := by
        have hk := List.all_eq_true.1 hz2
        refine hk _ ?_
        rw [key]
        exact List.mem_map.2 ⟨V, Array.mem_toList_iff.2 (Array.mem_of_getElem? hV), rfl⟩
      exact ofVal1_cell V this
    · rw [key] at hv
      simp only [List.getElem?_map, Array.getElem?_toList, hV, Option.map_some, Option.some.injEq] at hv
      subst hv
      exact ofVal1_rel V
def GlobR (K : Ctx) (I : CellP) (J : Nat → Prop) (w : World) : Prop :=
  ∀ g cs, K.glob g = some cs → VR K I J w noEnv (.eptr cs 0) (.pointer (some ⟨g, 0, none⟩))
theorem ev_rel {a : Act} {t : List LV} (hg : GlobR K I J w) (h : TmpsR K I J w ρ t a.tmps) (x : Operand) : VR K I J w ρ (ev K t x) (a.eval x) := by
  cases x with
  | tmp i =>
    simp only [ev, Act.eval]
    rcases Nat.lt_or_ge i t.length with hi | hi
    · have hi' : i < a.tmps.size := by rw [← h.1]; exact hi
      have h1 : t[i]? = some t[i] := List.getElem?_eq_getElem hi
      have h2 : a.tmps[i]? = some a.tmps[i] := Array.getElem?_eq_getElem hi'
      have := h.2 i _ _ h1 h2
      simpa [hi, hi'] using this
    · rw [List.getD_eq_getElem?_getD, List.getElem?_eq_none hi]; exact .un _ _
  | const v => exact ofVal_rel v
  | global g =>
    simp only [ev, Act.eval]
    cases hgl : K.glob g with
    | none => exact .un _ _
    | some cs => exact (hg g cs hgl).up ρ
  | func f => exact .fn _ _ _ _ _ _ _ (.func _) rfl rfl (fun i v V h => by simp at h) (fun i v V h => by simp at h)
end
end Go.LH


set_option linter.unusedVariables false
namespace Go.LH
theorem getAt_spec : ∀ {cs : List LV} {off k : Nat} {ds : List LV}, getAt cs off k = some ds → ds.length = k ∧ ∀ j, j < k → ds[j]? = cs[off + j]?
  | cs, 0, 0, ds, h => by simp [getAt] at h; subst h; exact ⟨rfl, fun j hj => absurd hj (by omega)⟩
  | [], 0, k + 1, ds, h => by simp [getAt] at h
  | c :: cs, 0, k + 1, ds, h => by
    simp only [getAt, Option.map_eq_some_iff] at h
    obtain ⟨r, hr, rfl⟩ := h
    obtain ⟨h1, h2⟩ := getAt_spec hr
    refine ⟨by simp [h1], fun j hj => ?_⟩
    cases j with
    | zero => simp
    | succ j =>
      have := h2 j (by omega)
      simp only [Nat.zero_add] at this
      simpa using this
  | [], off + 1, k, ds, h => by cases k <;> simp [getAt] at h
  | c :: cs, off + 1, k, ds, h => by
    have h' : getAt cs off k = some ds := by cases k <;> simpa [getAt] using h
    obtain ⟨h1, h2⟩ := getAt_spec h'
    refine ⟨h1, fun j hj => ?_⟩
    rw [h2 j hj, show off + 1 + j = (off + j) + 1 by omega]
    simp
theorem setAt_spec : ∀ {cs : List LV} {off : Nat} {ns ds : List LV}, setAt cs off ns = some ds →
    ds.length = cs.length ∧ off + ns.length ≤ cs.length ∧ ∀ j, ds[j]? = if off ≤ j ∧ j < off + ns.length then ns[j - off]? else cs[j]?
  | cs, 0, [], ds, h => by
    simp [setAt] at h; subst h
    exact ⟨rfl, by simp, fun j => by rw [if_neg (by simp)]⟩
  | [], 0, n :: ns, ds, h => by simp [setAt] at h
  | c :: cs, 0, n :: ns, ds, h => by
    simp only [setAt, Option.map_eq_some_iff] at h
    obtain ⟨r, hr, rfl⟩ := h
    obtain ⟨h1, h2, h3⟩ := setAt_spec hr
    refine ⟨by simp [h1], by simp; omega, fun j => ?_⟩
    cases j with
    | zero => simp
    | succ j =>
      have := h3 j
      simp only [Nat.zero_le, true_and, Nat.zero_add, Nat.sub_zero] at this
      simp only [List.getElem?_cons_succ, this, Nat.zero_le, true_and, Nat.zero_add, Nat.sub_zero, List.length_cons]
      by_cases hj : j < ns.length
      · rw [if_pos hj, if_pos (by omega)]
      · rw [if_neg hj, if_neg (by omega)]
  | [], off + 1, ns, ds, h => by cases ns <;> simp [setAt] at h
  | c :: cs, off + 1, ns, ds, h => by
    have h' : (setAt cs off ns).map (c :: ·) = some ds := by cases ns <;> simpa [setAt] using h
    obtain ⟨r, hr, rfl⟩ := Option.map_eq_some_iff.1 h'
    obtain ⟨h1, h2, h3⟩ := setAt_spec hr
    refine ⟨by simp [h1], by simp; omega, fun j => ?_⟩
    cases j with
    | zero => simp
    | succ j =>
      simp only [List.getElem?_cons_succ, h3 j]
      by_cases hj : off ≤ j ∧ j < off + ns.length
      · rw [if_pos hj, if_pos (by omega), show j + 1 - (off + 1) = j - off by omega]
      · rw [if_neg hj, if_neg (by omega)]
theorem add_none (R o n : Nat) : (⟨R, o, none⟩ : Addr).add n = ⟨R, o + n, none⟩ := by
  unfold Addr.add
  split
  · rename_i h; subst h; rfl
  · rfl
section
variable {K : Ctx} {P : Program} {I : CellP} {J : Nat → Prop} {w : World} {ρ : Env}
def MemCells (K : Ctx) (I : CellP) (J : Nat → Prop) (w : World) (ρ : Env) (cs : List LV) (R o : Nat) : Prop :=
  ∀ (k : Nat) (c : LV), cs[k]? = some c → ∃ V, w.cell? ⟨R, o + k, none⟩ = some V ∧ V.oneCell' = true ∧ VR K I J w ρ c V
theorem load_agg (F : Fits K P) {t off : Nat} {cs ds : List LV} {R o : Nat} {d : TypeDesc} (hh : K.has t = true) (hd : P.underlying t = some d)
    (hda : isAggD d = true) (hds : getAt cs off (K.ti t).sz = some ds) (hm : MemCells K I J w ρ cs R o) :
    ∃ V, (loadVar t ⟨R, o + off, none⟩).run P w = .ok V w ∧ VR K I J w ρ (.agg ds) V := by
  obtain ⟨h1, h2⟩ := getAt_spec hds
  have hex : ∀ j, ∃ V, j < (K.ti t).sz → w.cell? ⟨R, o + off + j, none⟩ = some V ∧ V.oneCell' = true ∧ ∀ c, ds[j]? = some c → VR K I J w ρ c V := by
    intro j
    by_cases hj : j < (K.ti t).sz
    · have hl : j < ds.length := by omega
      have h3 : ds[j]? = some ds[j] := List.getElem?_eq_getElem hl
      obtain ⟨V, a, b, c⟩ := hm (off + j) ds[j] ((h2 j hj).symm.trans h3)
      exact ⟨V, fun _ => ⟨by rw [Nat.add_assoc]; exact a, b, fun c' hc' => by rw [h3] at hc'; cases hc'; exact c⟩⟩
    · exact ⟨.nilFunc, fun h => absurd h hj⟩
  obtain ⟨Vs, hVs⟩ := Classical.axiomOfChoice hex
  refine ⟨.agg ((List.range (K.ti t).sz).map Vs).toArray, ?_, .agg _ _ _ (by simp [h1]) (fun i V hV => ?_) (fun i v V hv hV => ?_)⟩
  · unfold loadVar
    rw [Sem.run_bind, run_isAgg_true hd, Result.andThen_ok]
    simp only [hda, if_true, Sem.run_bind, run_sizeOf F hh, Result.andThen_ok]
    rw [run_loadCells w ⟨R, o + off, none⟩ (K.ti t).sz Vs (fun j hj => by rw [add_none]; exact (hVs j hj).1)]
    simp
  · simp only [List.getElem?_toArray, List.getElem?_map, Option.map_eq_some_iff] at hV
    obtain ⟨j, hj, rfl⟩ := hV
    obtain ⟨hj1, rfl⟩ := List.getElem?_eq_some_iff.1 hj
    simp only [List.length_range] at hj1
    simp only [List.getElem_range]
    exact (hVs i hj1).2.1
  · simp only [List.getElem?_toArray, List.getElem?_map, Option.map_eq_some_iff] at hV
    obtain ⟨j, hj, rfl⟩ := hV
    obtain ⟨hj1, rfl⟩ := List.getElem?_eq_some_iff.1 hj
    simp only [List.length_range] at hj1
    simp only [List.getElem_range]
    exact (hVs i hj1).2.2 v hv
theorem pack_rel (F : Fits K P) {t off : Nat} {cs : List LV} {v : LV} {R o : Nat} (h : loadV.pack K t off cs = some v) (hm : MemCells K I J w ρ cs R o) :
    ∃ V, (loadVar t ⟨R, o + off, none⟩).run P w = .ok V w ∧ VR K I J w ρ v V := by
  unfold loadV.pack at h
  split at h
  · cases h
  · rename_i fs hk
    obtain ⟨ds, hds, rfl⟩ := Option.map_eq_some_iff.1 h
    obtain ⟨fields, hf, _⟩ := F.struct hk
    exact load_agg F (F.has_of hk (by simp)) hf rfl hds hm
  · rename_i n e hk
    obtain ⟨ds, hds, rfl⟩ := Option.map_eq_some_iff.1 h
    exact load_agg F (F.has_of hk (by simp)) (F.arr hk) rfl hds hm
  · rename_i h1 h2 h3
    have hh : K.has t = true := by simp only [Ctx.has, bne_iff_ne, ne_eq]; exact h1
    obtain ⟨d, hd, hda⟩ := F.notAgg hh (fun fs => h2 fs) (fun n e => h3 n e)
    obtain ⟨V, a, b, c⟩ := hm off v h
    refine ⟨V, ?_, c⟩
    unfold loadVar
    rw [Sem.run_bind, run_isAgg_true hd, Result.andThen_ok]
    simp [hda, a]
end
end Go.LH


set_option linter.unusedVariables false
namespace Go.LH
structure Mut (w w' : World) (R : Nat) (x : Obj) : Prop where
  size : w'.heap.size = w.heap.size
  other : ∀ R', R' ≠ R → w'.heap[R']? = w.heap[R']?
  here : w'.heap[R]? = some x
  io : Io w w'
theorem Mut.trans {a b c : World} {R : Nat} {x y : Obj} (h : Mut a b R x) (k : Mut b c R y) : Mut a c R y :=
  ⟨k.size.trans h.size, fun R' e => (k.other R' e).trans (h.other R' e), k.here, h.io.trans k.io⟩
theorem live_getD {h : Heap} {b : Nat} {x : Blk} (e : h.getD b none = some x) : live h b x := by
  unfold live
  rw [List.getD_eq_getElem?_getD] at e
  cases hb : h[b]? with
  | none => rw [hb] at e; cases e
  | some y => rw [hb] at e; simp only [Option.getD_some] at e; rw [e]
theorem live_lt {h : Heap} {b : Nat} {x : Blk} (e : live h b x) : b < h.length := (List.getElem?_eq_some_iff.1 e).1
theorem live_set_self {h : Heap} {b : Nat} {x : Blk} (y : Blk) (e : live h b x) : live (h.set b (some y)) b y := by
  unfold live
  simp [live_lt e]
theorem live_set_ne {h : Heap} {b b' : Nat} {x : Option Blk} {y : Blk} (hne : b' ≠ b) : live (h.set b x) b' y ↔ live h b' y := by
  unfold live
  rw [List.getElem?_set_ne (Ne.symm hne)]
theorem live_uniq {h : Heap} {b : Nat} {x y : Blk} (e : live h b x) (e' : live h b y) : x = y := by
  have := e.symm.trans e'
  cases this; rfl
section
variable {K : Ctx} {P : Program} {Z : Nat → Prop} {I I' : CellP} {J J' : Nat → Prop} {w w' : World} {ρ ρ' : Env} {h h' : Heap}
theorem Mut.shape {R : Nat} {C C' : Array Value} {e : Nat} (M : Mut w w' R (.cells C' e (0, 0))) (h : w.heap[R]? = some (.cells C e (0, 0))) (hs : C'.size = C.size) :
    ∀ R' x, w.shape? R' = some x → w'.shape? R' = some x := by
  intro R' x hx
  by_cases e : R' = R
  · subst e
    rw [shape_of M.here, hs]
    rw [shape_of h] at hx
    exact hx
  · rw [shape_eq (M.other R' e)]; exact hx
theorem Mut.shapeObj {R : Nat} {y x : Obj} (M : Mut w w' R x) (h : w.heap[R]? = some y) (hy : ∀ C e f, y ≠ .cells C e f) :
    ∀ R' s, w.shape? R' = some s → w'.shape? R' = some s := by
  intro R' s hs
  by_cases e : R' = R
  · subst e
    simp only [World.shape?, h] at hs
    split at hs
    · rename_i h1; cases h1; exact absurd rfl (hy _ _ _)
    · cases hs
  · rw [shape_eq (M.other R' e)]; exact hs
theorem Mut.keep {R : Nat} {x : Obj} (M : Mut w w' R x) (hsh : ∀ R' y, w.shape? R' = some y → w'.shape? R' = some y) (hi : ∀ o, ¬ I R o) (hj : ¬ J R) : Keep I J w w' where
  cell := fun R' o V hI hc => by
    have hne : R' ≠ R := fun e => hi o (e ▸ hI)
    rw [cell_eq (M.other R' hne)]; exact hc
  obj := fun R' y hJ hy => by
    have hne : R' ≠ R := fun e => hj (e ▸ hJ)
    rw [M.other R' hne]; exact hy
  shape := hsh
theorem Inv.mut (H : Inv K Z I J ρ h w) {b R base len base' len' : Nat} {x x' : Blk} {o : Obj} (hb : ρ b = some (.at R base len)) (hx : live h b x) (M : Mut w w' R o)
    (hsh : ∀ R' y, w.shape? R' = some y → w'.shape? R' = some y) (hρ : ∀ b', b' ≠ b → ρ' b' = ρ b') (hρb : ρ' b = some (.at R base' len'))
    (hlive : live h' b x') (hoth : ∀ b' y, b' ≠ b → live h' b' y → live h b' y)
    (hmen : ρ' b = ρ b ∨ ∀ b' R' base len y, b' ≠ b → ρ b' = some (.at R' base len) → live h' b' y → b ∉ y.refs)
    (hrel : BlkRel K I J w' ρ' R base' len' x')
    (hit : ∀ i Ri bi li m ks vs last, i ≠ b → ρ i = some (.at Ri bi li) → live h' i (.iter (some m) ks vs last) → m ≠ b)
    (hitx : ∀ m, x'.iterOf = some m → x.iterOf = some m ∧ m ≠ b)
    (hmap : ∀ m pu kt ks vs, m ≠ b → live h m (.map pu kt ks vs) → ∃ pu kt ks vs, live h' m (.map pu kt ks vs)) :
    Inv K Z I J ρ' h' w' := by
  have ho := H.own b R base len x hb hx
  have hk : Keep I J w w' := M.keep hsh ho.2.1 ho.2.2.1
  have hsz : w'.heap.size = w.heap.size := M.size
  have inj : ∀ b' R' base len y, b' ≠ b → ρ b' = some (.at R' base len) → live h b' y → R' ≠ R := by
    rintro b' R' base1 len1 y hne h1 h2 rfl
    exact hne (H.inj b' b R' base1 len1 base len y x h1 hb h2 hx)
  refine ⟨?_, ?_, ?_, ?_, fun R hz => by rw [hsz]; exact H.zlt R hz, fun R o hi => by rw [hsz]; exact H.ilt R o hi, fun R hj => by rw [hsz]; exact H.jlt R hj, ?_⟩
  · intro b' R' base1 len1 y hb' hy
    by_cases e : b' = b
    · subst e
      rw [hρb] at hb'
      cases hb'
      rw [live_uniq hy hlive]
      exact hrel
    · rw [hρ b' e] at hb'
      have hy' := hoth b' y e hy
      refine (H.rel b' R' base1 len1 y hb' hy').mono (fun _ _ h => h) (fun _ h => h) hk (M.other R' (inj b' R' base1 len1 y e hb' hy')) ?_ ?_
      · intro m hm M' base2 len2 hM
        have hmb : m ≠ b := by
          cases y with
          | iter mb ks vs last => simp only [Blk.iterOf] at hm; subst hm; exact hit b' R' base1 len1 m ks vs last e hb' hy
          | _ => simp [Blk.iterOf] at hm
        refine M.other M' ?_
        rintro rfl
        cases y with
        | iter mb ks vs last =>
          simp only [Blk.iterOf] at hm
          subst hm
          rcases H.iters b' R' base1 len1 m ks vs last M' base2 len2 hb' hy' hM with h1 | ⟨pu, kt, ks', vs', h1⟩
          · exact ho.2.2.1 h1
          · exact inj m M' base2 len2 _ hmb hM h1 rfl
        | _ => simp [Blk.iterOf] at hm
      · intro c hc
        by_cases hcb : c = b
        · subst hcb
          rcases hmen with h1 | h1
          · exact h1
          · exact absurd hc (h1 b' R' base1 len1 y e hb' hy)
        · exact hρ c hcb
  · intro b' R' base1 len1 y hb' hy
    rw [hsz]
    by_cases e : b' = b
    · subst e; rw [hρb] at hb'; cases hb'; exact ho
    · rw [hρ b' e] at hb'; exact H.own b' R' base1 len1 y hb' (hoth b' y e hy)
  · intro b1 b2 R' base1 len1 base2 len2 y1 y2 h1 h2 hy1 hy2
    by_cases e1 : b1 = b
    · by_cases e2 : b2 = b
      · rw [e1, e2]
      · rw [hρ b2 e2] at h2
        subst e1
        rw [hρb] at h1
        cases h1
        exact absurd rfl (inj b2 R base2 len2 y2 e2 h2 (hoth b2 y2 e2 hy2))
    · rw [hρ b1 e1] at h1
      by_cases e2 : b2 = b
      · subst e2
        rw [hρb] at h2
        cases h2
        exact absurd rfl (inj b1 R base1 len1 y1 e1 h1 (hoth b1 y1 e1 hy1))
      · rw [hρ b2 e2] at h2
        exact H.inj b1 b2 R' base1 len1 base2 len2 y1 y2 h1 h2 (hoth b1 y1 e1 hy1) (hoth b2 y2 e2 hy2)
  · intro b' y hb' hy
    by_cases e : b' = b
    · subst e; rw [hρb] at hb'; cases hb'
    · rw [hρ b' e] at hb'; exact H.virt b' y hb' (hoth b' y e hy)
  · intro i Ri bi li m ks vs last M' base1 len1 hri hi hm
    by_cases e : i = b
    · subst e
      have hxi : x'.iterOf = some m := by rw [live_uniq hlive hi]; rfl
      obtain ⟨h1, h2⟩ := hitx m hxi
      rw [hρ m h2] at hm
      cases x with
      | iter mb ks' vs' last' =>
        simp only [Blk.iterOf] at h1
        subst h1
        rcases H.iters i R base len m ks' vs' last' M' base1 len1 hb hx hm with h3 | ⟨pu, kt, k, v, h3⟩
        · exact .inl h3
        · exact .inr (hmap m pu kt k v h2 h3)
      | _ => simp [Blk.iterOf] at h1
    · rw [hρ i e] at hri
      have hmb := hit i Ri bi li m ks vs last e hri hi
      rw [hρ m hmb] at hm
      rcases H.iters i Ri bi li m ks vs last M' base1 len1 hri (hoth i _ e hi) hm with h3 | ⟨pu, kt, k, v, h3⟩
      · exact .inl h3
      · exact .inr (hmap m pu kt k v hmb h3)
theorem BlkRel.mapv {f : LV → LV} {R base len : Nat} {x : Blk} (hr : BlkRel K I J w ρ R base len x) (hf : ∀ v V, VR K I J w ρ v V → VR K I' J' w' ρ' (f v) V)
    (hI : ∀ R o, I R o → I' R o) (hJ : ∀ R, J R → J' R) (hK : Keep I J w w') (hR : w'.heap[R]? = w.heap[R]?)
    (hM : ∀ b, x.iterOf = some b → ρ' b = ρ b ∧ ∀ M base len, ρ b = some (.at M base len) → w'.heap[M]? = w.heap[M]?) : BlkRel K I' J' w' ρ' R base len (x.mapv f) := by
  have hp : ∀ {v : LV} {V : Value}, VR K I J w noEnv v V → VR K I' J' w' noEnv v V := fun h => h.mono hI hJ hK (fun _ _ => rfl)
  have lmap : ∀ {cs : List LV} {i : Nat} {v : LV}, (cs.map f)[i]? = some v → ∃ u, cs[i]? = some u ∧ f u = v := by
    intro cs i v hv
    simpa [List.getElem?_map, Option.map_eq_some_iff] using hv
  cases x with
  | cells cs e =>
    obtain ⟨h0, C, h1, h2, h3, h4⟩ := hr
    exact ⟨h0, C, hR.trans h1, by simpa using h2, h3, fun i v V hv hV => by obtain ⟨u, hu, rfl⟩ := lmap hv; exact hf u V (h4 i u V hu hV)⟩
  | row pu mv es s e =>
    obtain ⟨h0, h1, h2, C, h3, h4, h5, h6⟩ := hr
    cases pu with
    | true => exact ⟨h0, h1, h2, C, hR.trans h3, h4, h5, fun i k el c V a b d => hp (h6 i k el c V a b d)⟩
    | false =>
      simp only [Blk.mapv, cond_false]
      refine ⟨by simpa using h0, h1, fun i el hel => ?_, C, hR.trans h3, by simpa using h4, h5, fun i k el c V hel hc hV => ?_⟩
      · simp only [List.getElem?_map, Option.map_eq_some_iff] at hel
        obtain ⟨u, hu, rfl⟩ := hel
        simpa using h2 i u hu
      · simp only [List.getElem?_map, Option.map_eq_some_iff] at hel
        obtain ⟨u, hu, rfl⟩ := hel
        obtain ⟨c', hc', rfl⟩ := lmap hc
        exact hf c' V (h6 i k u c' V hu hc' hV)
  | map pu kt ks vs =>
    obtain ⟨es, clock, h1, h2, h3, h4, h5, h6, h7, h8⟩ := hr
    cases pu with
    | true => exact ⟨es, clock, hR.trans h1, h2, h3, h4, fun i k e a b => hp (h5 i k e a b), fun i v e a b => hp (h6 i v e a b), h7, h8⟩
    | false => exact ⟨es, clock, hR.trans h1, h2, by simpa using h3, h4, fun i k e a b => hp (h5 i k e a b),
        fun i v e a b => by obtain ⟨u, hu, rfl⟩ := lmap a; exact hf u _ (h6 i u e hu b), h7, h8⟩
  | iter mb ks vs last =>
    obtain ⟨h0, m, since, seen, stepped, h1, h2⟩ := hr
    refine ⟨h0, m, since, seen, stepped, hR.trans h1, ?_⟩
    cases m with
    | none => obtain ⟨rfl, rfl, rfl, rfl⟩ := h2; exact ⟨rfl, rfl, rfl, rfl⟩
    | some M =>
      obtain ⟨h3, es, clock, h4, h5, h6, h7, h8, ⟨l, h9, h10, h11, h12, h13⟩, h14⟩ := h2
      have h5' : IterR K I' J' w' ρ' ks (vs.map f) (last.map fun (k, v) => (k, f v)) es clock since seen stepped := by
        refine ⟨h5, h6, h7, h8, ⟨l, h9, h10, by simpa using h11, fun i k e a b => hp (h12 i k e a b), fun i v e a b => by obtain ⟨u, hu, rfl⟩ := lmap a; exact hf u _ (h13 i u e hu b)⟩, ?_⟩
        intro k v hkv
        cases last with
        | none => cases hkv
        | some kv =>
          obtain ⟨k', v'⟩ := kv
          simp only [Option.map_some, Option.some.injEq, Prod.mk.injEq] at hkv
          obtain ⟨rfl, rfl⟩ := hkv
          obtain ⟨e, a, b, c, d⟩ := h14 k' v' rfl
          exact ⟨e, a, b, hp c, hf _ _ d⟩
      cases mb with
      | none => exact ⟨hJ _ h3, es, clock, hK.obj _ _ h3 h4, h5'⟩
      | some b =>
        obtain ⟨base', len', hb⟩ := h3
        obtain ⟨e1, e2⟩ := hM b rfl
        exact ⟨⟨base', len', e1.trans hb⟩, es, clock, (e2 M base' len' hb).trans h4, h5'⟩
  | loop fn t ps asg body st pend =>
    obtain ⟨r, h1, h2, h3, h4, h5, h6, h7, h8, h9⟩ := hr
    exact ⟨r, hR.trans h1, h2, h3, h4, h5, h6, h7, by simpa using h8, fun i v V hv hV => by obtain ⟨u, hu, rfl⟩ := lmap hv; exact hf u V (h9 i u V hu hV)⟩
theorem mapv_iterOf (f : LV → LV) (x : Blk) : (x.mapv f).iterOf = x.iterOf := by cases x <;> rfl
theorem live_mapv {f : LV → LV} {b : Nat} {y : Blk} : live (h.map fun x => x.map (Blk.mapv f)) b y → ∃ x, live h b x ∧ y = x.mapv f := by
  intro hy
  unfold live at hy
  simp only [List.getElem?_map, Option.map_eq_some_iff] at hy
  obtain ⟨x, hx, z, rfl, hz⟩ := hy
  exact ⟨z, hx, hz.symm⟩
theorem mapv_live {f : LV → LV} {b : Nat} {x : Blk} (hx : live h b x) : live (h.map fun x => x.map (Blk.mapv f)) b (x.mapv f) := by
  unfold live at hx ⊢
  simp [List.getElem?_map, hx]
theorem Inv.weak (H : Inv K Z I J ρ h w) {f : LV → LV} (hf : ∀ v V, VR K I J w ρ v V → VR K I J w ρ (f v) V) : Inv K Z I J ρ (h.map fun x => x.map (Blk.mapv f)) w := by
  refine ⟨?_, ?_, ?_, ?_, H.zlt, H.ilt, H.jlt, ?_⟩
  · intro b R base len y hb hy
    obtain ⟨x, hx, rfl⟩ := live_mapv hy
    exact (H.rel b R base len x hb hx).mapv hf (fun _ _ h => h) (fun _ h => h) (Keep.refl _ _ _) rfl (fun _ _ => ⟨rfl, fun _ _ _ _ => rfl⟩)
  · intro b R base len y hb hy
    obtain ⟨x, hx, rfl⟩ := live_mapv hy
    exact H.own b R base len x hb hx
  · intro b1 b2 R base1 len1 base2 len2 y1 y2 h1 h2 hy1 hy2
    obtain ⟨x1, hx1, rfl⟩ := live_mapv hy1
    obtain ⟨x2, hx2, rfl⟩ := live_mapv hy2
    exact H.inj b1 b2 R base1 len1 base2 len2 x1 x2 h1 h2 hx1 hx2
  · intro b y hb hy
    obtain ⟨x, hx, rfl⟩ := live_mapv hy
    obtain ⟨pu, mv, s, e, rfl, hs⟩ := H.virt b x hb hx
    exact ⟨pu, mv, s, e, by cases pu <;> simp [Blk.mapv], hs⟩
  · intro i Ri bi li m ks vs last M base len hri hi hm
    obtain ⟨x, hx, he⟩ := live_mapv hi
    have hxi : x.iterOf = some m := by rw [← mapv_iterOf f x, ← he]; rfl
    cases x with
    | iter mb ks' vs' last' =>
      simp only [Blk.iterOf] at hxi
      subst hxi
      rcases H.iters i Ri bi li m ks' vs' last' M base len hri hx hm with h1 | ⟨pu, kt, k, v, h1⟩
      · exact .inl h1
      · have := mapv_live (f := f) h1
        exact .inr ⟨_, _, _, _, this⟩
    | _ => simp [Blk.iterOf] at hxi
end
end Go.LH


set_option linter.unusedVariables false
namespace Go.LH
structure Chg (Z : Nat → Prop) (I : CellP) (J : Nat → Prop) (w w' : World) : Prop where
  keep : Keep I J w w'
  z : ∀ R, Z R → w'.heap[R]? = w.heap[R]?
  size : w.heap.size ≤ w'.heap.size
  io : Io w w'
theorem Chg.refl (Z : Nat → Prop) (I : CellP) (J : Nat → Prop) (w : World) : Chg Z I J w w := ⟨Keep.refl _ _ _, fun _ _ => rfl, Nat.le_refl _, Io.refl w⟩
theorem Chg.trans {Z : Nat → Prop} {I I' : CellP} {J J' : Nat → Prop} {a b c : World} (h : Chg Z I J a b) (k : Chg Z I' J' b c) (hI : ∀ R o, I R o → I' R o) (hJ : ∀ R, J R → J' R) : Chg Z I J a c :=
  ⟨h.keep.trans k.keep hI hJ, fun R hz => (k.z R hz).trans (h.z R hz), Nat.le_trans h.size k.size, h.io.trans k.io⟩
theorem Chg.of_ext {Z : Nat → Prop} {I : CellP} {J : Nat → Prop} {w w' : World} (h : Ext w w') (hz : ∀ R, Z R → R < w.heap.size) : Chg Z I J w w' :=
  ⟨h.keep I J, fun R hR => h.old R (hz R hR), h.size, h.io⟩
section
variable {K : Ctx} {P : Program} {Z : Nat → Prop} {I I' : CellP} {J J' : Nat → Prop} {w w' : World} {ρ ρ' : Env} {h h' : Heap}
theorem Mut.chg {R : Nat} {x : Obj} (M : Mut w w' R x) (hsh : ∀ R' y, w.shape? R' = some y → w'.shape? R' = some y) (hz : ¬ Z R) (hi : ∀ o, ¬ I R o) (hj : ¬ J R) : Chg Z I J w w' :=
  ⟨M.keep hsh hi hj, fun R' h' => M.other R' (fun e => hz (e ▸ h')), Nat.le_of_eq M.size.symm, M.io⟩
theorem run_store1 {R o e : Nat} {C : Array Value} {v : Value} (hR : w.heap[R]? = some (.cells C e (0, 0))) (ho : o < C.size) (hv : v.oneCell' = true) :
    ∃ w', (store ⟨R, o, none⟩ v).run P w = .ok () w' ∧ Mut w w' R (.cells (C.setIfInBounds o v) e (0, 0)) := by
  refine ⟨w.setCell ⟨R, o, none⟩ v, ?_, ⟨by simp, fun R' hne => heap_setCell_other w _ R' v hne, heap_setCell_same w R o C e v hR, ⟨rfl, rfl⟩⟩⟩
  rw [run_store P w _ v _ hv]
  have h1 : w.cell? ⟨R, o, none⟩ = some C[o] := by rw [cell_of hR]; simp [ho]
  have h2 : w.frozen? ⟨R, o, none⟩ = false := frozen_of_row w R o C e hR
  simp [h1, h2]
theorem run_storeCells {R o e : Nat} : ∀ (vs : List Value) (w : World) (i : Nat) (C : Array Value), w.heap[R]? = some (.cells C e (0, 0)) → o + i + vs.length ≤ C.size → (∀ v ∈ vs, v.oneCell' = true) →
    ∃ w' C', (storeCells ⟨R, o, none⟩ vs i).run P w = .ok () w' ∧ Mut w w' R (.cells C' e (0, 0)) ∧ C'.size = C.size ∧
      ∀ j, C'[j]? = if o + i ≤ j ∧ j < o + i + vs.length then vs[j - (o + i)]? else C[j]?
  | [], w, i, C, hR, hl, hv => ⟨w, C, by simp [storeCells], ⟨rfl, fun _ _ => rfl, hR, Io.refl w⟩, rfl, fun j => by rw [if_neg (by simp)]⟩
  | v :: vs, w, i, C, hR, hl, hv => by
    simp only [List.length_cons] at hl
    obtain ⟨w1, h1, M1⟩ := run_store1 (P := P) hR (show o + i < C.size by omega) (hv v (by simp))
    obtain ⟨w2, C2, h2, M2, hs2, hc2⟩ := run_storeCells (o := o) vs w1 (i + 1) (C.setIfInBounds (o + i) v) M1.here (by simp only [Array.size_setIfInBounds]; omega) (fun x hx => hv x (by simp [hx]))
    refine ⟨w2, C2, ?_, M1.trans M2, by rw [hs2]; simp, fun j => ?_⟩
    · simp only [storeCells, Sem.run_bind, add_none, h1, Result.andThen_ok]
      exact h2
    · rw [hc2 j]
      simp only [List.length_cons]
      by_cases ha : j = o + i
      · subst ha
        rw [if_neg (by omega), if_pos (by omega), Array.getElem?_setIfInBounds_self_of_lt (by omega)]
        simp
      · by_cases hb : o + (i + 1) ≤ j ∧ j < o + (i + 1) + vs.length
        · rw [if_pos hb, if_pos (by omega), show j - (o + i) = (j - (o + (i + 1))) + 1 by omega]
          simp
        · rw [if_neg hb, if_neg (by omega), Array.getElem?_setIfInBounds_ne (by omega)]
theorem cells_rel {v : LV} {V : Value} {ns : List LV} (h : VR K I J w ρ v V) (hc : v.cells = some ns) : CellsR K I J w ρ ns V.cells := by
  cases h <;> (try (simp only [LV.cells] at hc)) <;> (try cases hc) <;> first
    | (refine ⟨rfl, fun i V hV => ?_, fun i v V hv hV => ?_⟩
       · cases i with
         | zero => simp [Value.cells] at hV; subst hV; rfl
         | succ i => simp [Value.cells] at hV
       · cases i with
         | zero =>
           simp [Value.cells] at hv hV
           subst hv
           subst hV
           first
             | exact .bool _ _ | exact .int _ _ _ | exact .str _ _ | exact .nptr _ | exact .nmap _ | exact .nfn _ | exact .nifc _
             | (constructor <;> assumption)
         | succ i => simp at hv)
    | exact ⟨by assumption, by assumption, by assumption⟩
theorem mem_cells_row {R base len : Nat} {pu mv : Bool} {es : List (List LV)} {s e i : Nat} {el : List LV} (h : BlkRel K I J w ρ R base len (.row pu mv es s e)) (hi : es[i]? = some el) :
    MemCells K I J w ρ el R (base + i * s) := by
  obtain ⟨h0, h1, h2, C, h3, h4, h5, h6⟩ := h
  intro k c hc
  have hil := (List.getElem?_eq_some_iff.1 hi).1
  have hkl := (List.getElem?_eq_some_iff.1 hc).1
  rw [h2 i el hi] at hkl
  have := mul_lt_of hil hkl
  have hlt : base + i * s + k < C.size := by omega
  refine ⟨C[base + i * s + k], (cell_of h3).trans (by simp [hlt]), h5 (base + i * s + k) _ (by simp [hlt]), ?_⟩
  have h7 := h6 i k el c C[base + i * s + k] hi hc (by simp [hlt])
  cases pu with
  | true => exact VR.up h7 ρ
  | false => exact h7
theorem mem_cells_box {R base len : Nat} {cs : List LV} {e : Nat} (h : BlkRel K I J w ρ R base len (.cells cs e)) : MemCells K I J w ρ cs R base := by
  obtain ⟨h0, C, h1, h2, h3, h4⟩ := h
  subst h0
  intro k c hc
  have hk := (List.getElem?_eq_some_iff.1 hc).1
  have hlt : k < C.size := by omega
  exact ⟨C[k], by rw [Nat.zero_add]; exact (cell_of h1).trans (by simp [hlt]), h3 k _ (by simp [hlt]), h4 k c C[k] hc (by simp [hlt])⟩
theorem load_rel (F : Fits K P) (H : Inv K Z I J ρ h w) {t : Nat} {a v : LV} {A : Value} (hl : loadV K h t a = some v) (ha : VR K I J w ρ a A) :
    ∃ V, (Instr.loadAt t A).run P w = .ok V w ∧ VR K I J w ρ v V := by
  unfold loadV at hl
  split at hl
  · rename_i b off
    cases ha with
    | ptr _ _ _ R base len hb =>
      split at hl
      · rename_i cs e hg
        have hm := mem_cells_box (H.rel b R base len _ hb (live_getD hg))
        obtain ⟨V, h1, h2⟩ := pack_rel F hl hm
        exact ⟨V, by simpa [Instr.loadAt, Instr.sureAddr] using h1, h2⟩
      · cases hl
  · rename_i b i s off
    cases ha with
    | rptr _ _ _ _ _ R base len hb =>
      split at hl
      · rename_i pu mv es s' e hg
        cases hs : s == s' with
        | false => rw [hs] at hl; cases hl
        | true =>
          rw [hs, cond_true] at hl
          obtain ⟨el, hel, hp⟩ := Option.bind_eq_some_iff.1 hl
          have hs' : s = s' := by simpa using hs
          subst hs'
          have hm := mem_cells_row (H.rel b R base len _ hb (live_getD hg)) hel
          obtain ⟨V, h1, h2⟩ := pack_rel F hp hm
          exact ⟨V, by simpa [Instr.loadAt, Instr.sureAddr] using h1, h2⟩
      · cases hl
  · rename_i cs off
    cases ha with
    | eptr _ _ _ R o Vs h1 h2 =>
      have hm : MemCells K I J w ρ cs R o := fun k c hc => by
        have hk := (List.getElem?_eq_some_iff.1 hc).1
        obtain ⟨a, b, c'⟩ := h1 k hk
        exact ⟨Vs k, a, c', (h2 k c hc).up ρ⟩
      obtain ⟨V, h3, h4⟩ := pack_rel F hl hm
      exact ⟨V, by simpa [Instr.loadAt, Instr.sureAddr] using h3, h4⟩
  · cases hl
end
end Go.LH


set_option linter.unusedVariables false
namespace Go.LH
section
variable {K : Ctx} {P : Program} {Z : Nat → Prop} {I I' : CellP} {J J' : Nat → Prop} {w w' : World} {ρ ρ' : Env} {h h' : Heap}
theorem VR.same {v : LV} {V : Value} (hv : VR K I J w ρ v V) (hk : Keep I J w w') : VR K I J w' ρ v V := hv.mono (fun _ _ h => h) (fun _ h => h) hk (fun _ _ => rfl)
theorem VR.noRefs {v : LV} {V : Value} (hv : VR K I J w ρ v V) (h : v.refs = []) : VR K I J w noEnv v V :=
  hv.mono (fun _ _ h => h) (fun _ h => h) (Keep.refl _ _ _) (fun b hb => by rw [h] at hb; cases hb)
theorem refsL_nil {vs : List LV} (h : refsL vs = []) {i : Nat} {v : LV} (hv : vs[i]? = some v) : v.refs = [] := by
  cases hr : v.refs with
  | nil => rfl
  | cons b r => have := mem_refsL (b := b) hv (by simp [hr]); rw [h] at this; cases this
theorem run_storeVar (F : Fits K P) {t : Nat} {X : Value} {R o e : Nat} {C : Array Value} (hh : K.has t = true) (hsz : X.cells.size = (K.ti t).sz) (hR : w.heap[R]? = some (.cells C e (0, 0)))
    (hl : o + X.cells.size ≤ C.size) (hone : ∀ (i : Nat) (V : Value), X.cells[i]? = some V → V.oneCell' = true) :
    ∃ w' C', (Instr.storeAt t (.pointer (some ⟨R, o, none⟩)) X).run P w = .ok () w' ∧ Mut w w' R (.cells C' e (0, 0)) ∧ C'.size = C.size ∧
      ∀ j, C'[j]? = if o ≤ j ∧ j < o + X.cells.size then X.cells[j - o]? else C[j]? := by
  obtain ⟨w', C', h1, M, h2, h3⟩ := run_storeCells (P := P) (o := o) X.cells.toList w 0 C hR (by simpa using hl) (fun v hv => by
    obtain ⟨i, hi⟩ := Array.getElem?_of_mem (Array.mem_toList_iff.1 hv)
    exact hone i v hi)
  refine ⟨w', C', ?_, M, h2, fun j => by simpa using h3 j⟩
  simp only [Instr.storeAt, Instr.sureAddr, storeVar, Sem.run_bind, Sem.run_pure, Result.andThen_ok, run_sizeOf F hh, hsz, ne_eq, not_true_eq_false, if_false]
  exact h1
theorem Inv.box (H : Inv K Z I J ρ h w) {b R base len : Nat} {x x' : Blk} {o : Obj} (hb : ρ b = some (.at R base len)) (hx : live h b x) (M : Mut w w' R o)
    (hsh : ∀ R' y, w.shape? R' = some y → w'.shape? R' = some y) (hrel : BlkRel K I J w' ρ R base len x') (hit : x'.iterOf = none) (hnm : ∀ pu kt ks vs, x ≠ .map pu kt ks vs)
    (hni : x.iterOf = none) : Inv K Z I J ρ (h.set b (some x')) w' ∧ Chg Z I J w w' := by
  have ho := H.own b R base len x hb hx
  refine ⟨H.mut hb hx M hsh (fun _ _ => rfl) hb (live_set_self x' hx) (fun b' y hne hy => (live_set_ne hne).1 hy) (.inl rfl) hrel ?_ ?_ ?_, M.chg hsh ho.1 ho.2.1 ho.2.2.1⟩
  · intro i Ri bi li m ks vs last hne hri hi e
    subst e
    have hi' := (live_set_ne hne).1 hi
    rcases H.iters i Ri bi li m ks vs last R base len hri hi' hb with h1 | ⟨pu, kt, k, v, h1⟩
    · exact ho.2.2.1 h1
    · exact hnm pu kt k v (live_uniq hx h1)
  · intro m hm; rw [hit] at hm; cases hm
  · intro m pu kt ks vs hne hm; exact ⟨pu, kt, ks, vs, (live_set_ne hne).2 hm⟩
theorem store_rel (F : Fits K P) (H : Inv K Z I J ρ h w) {t : Nat} {a x : LV} {A X : Value} (hs : storeV K h t a x = some h') (ha : VR K I J w ρ a A) (hx : VR K I J w ρ x X) :
    ∃ w', (Instr.storeAt t A X).run P w = .ok () w' ∧ Inv K Z I J ρ h' w' ∧ Chg Z I J w w' := by
  unfold storeV at hs
  split at hs
  · cases hs
  rename_i ns hns
  have hcr := cells_rel hx hns
  split at hs
  case isFalse => cases hs
  rename_i hc
  simp only [Bool.and_eq_true, decide_eq_true_eq] at hc
  obtain ⟨hlen, hhas⟩ := hc
  have hsz : X.cells.size = (K.ti t).sz := by rw [← hcr.1, hlen]
  split at hs
  ·
    rename_i b off
    cases ha with
    | ptr _ _ _ R base len hb =>
      split at hs
      · rename_i cs e hg
        have hx' := live_getD hg
        obtain ⟨ds, hds, rfl⟩ := Option.map_eq_some_iff.1 hs
        obtain ⟨h1, h2, h3⟩ := setAt_spec hds
        obtain ⟨h0, C, h4, h5, h6, h7⟩ := H.rel b R base len _ hb hx'
        subst h0
        obtain ⟨w', C', h8, M, h9, h10⟩ := run_storeVar F (w := w) (o := 0 + off) hhas hsz h4 (by have := hcr.1; omega) hcr.2.1
        have hsh := M.shape h4 h9
        have ho := H.own b R 0 len _ hb hx'
        have hk := M.keep hsh ho.2.1 ho.2.2.1
        refine ⟨w', h8, H.box hb hx' M hsh ⟨rfl, C', M.here, by omega, fun i V hV => ?_, fun i v V hv hV => ?_⟩ rfl (by simp) rfl⟩
        · rw [h10 i] at hV
          split at hV
          · exact hcr.2.1 _ V hV
          · exact h6 i V hV
        · rw [h10 i] at hV
          rw [h3 i] at hv
          simp only [Nat.zero_add] at hV
          rw [← hcr.1] at hV
          split at hV
          · rename_i hi; rw [if_pos hi] at hv; exact (hcr.2.2 _ v V hv hV).same hk
          · rename_i hi; rw [if_neg hi] at hv; exact (h7 i v V hv hV).same hk
      · cases hs
  ·
    rename_i b i s off
    cases ha with
    | rptr _ _ _ _ _ R base len hb =>
      split at hs
      · rename_i pu mv es s' e hg
        split at hs
        case isFalse => cases hs
        rename_i hc
        simp only [Bool.and_eq_true, decide_eq_true_eq, Bool.or_eq_true, Bool.not_eq_true', List.isEmpty_iff] at hc
        obtain ⟨rfl, hpu⟩ := hc
        have hx' := live_getD hg
        obtain ⟨el, hel, hs⟩ := Option.bind_eq_some_iff.1 hs
        obtain ⟨el', hel', rfl⟩ := Option.map_eq_some_iff.1 hs
        obtain ⟨h1, h2, h3⟩ := setAt_spec hel'
        obtain ⟨h0, hs0, hwid, C, h4, h5, h6, h7⟩ := H.rel b R base len _ hb hx'
        have hil := (List.getElem?_eq_some_iff.1 hel).1
        have hw := hwid i el hel
        have hmul : (i + 1) * s ≤ es.length * s := Nat.mul_le_mul_right s hil
        rw [Nat.add_mul] at hmul
        obtain ⟨w', C', h8, M, h9, h10⟩ := run_storeVar F (w := w) (o := base + i * s + off) hhas hsz h4 (by have := hcr.1; omega) hcr.2.1
        have hsh := M.shape h4 h9
        have ho := H.own b R base len _ hb hx'
        have hk := M.keep hsh ho.2.1 ho.2.2.1
        refine ⟨w', h8, H.box hb hx' M hsh ⟨by rw [h0]; simp, hs0, fun j ej hej => ?_, C', M.here, by simp; omega, fun j V hV => ?_, fun j k ej c V hej hck hV => ?_⟩ rfl (by simp) rfl⟩
        · rw [List.getElem?_set] at hej
          by_cases hij : i = j
          · subst hij
            rw [if_pos rfl, if_pos hil] at hej
            cases hej
            omega
          · rw [if_neg hij] at hej
            exact hwid j ej hej
        · rw [h10 j] at hV
          split at hV
          · exact hcr.2.1 _ V hV
          · exact h6 j V hV
        · have hkey : ∀ c V, VR K I J w (mapEnv pu ρ) c V → VR K I J w' (mapEnv pu ρ) c V := fun c V h => h.same hk
          rw [h10] at hV
          rw [List.getElem?_set] at hej
          by_cases hij : i = j
          · subst hij
            rw [if_pos rfl, if_pos hil] at hej
            cases hej
            have hkl := (List.getElem?_eq_some_iff.1 hck).1
            rw [h3 k] at hck
            rw [← hcr.1] at hV
            by_cases hin : off ≤ k ∧ k < off + ns.length
            · rw [if_pos hin] at hck
              rw [if_pos (by omega), show base + i * s + k - (base + i * s + off) = k - off by omega] at hV
              have h11 := hcr.2.2 _ c V hck hV
              refine hkey c V ?_
              cases pu with
              | true =>
                simp only [Bool.true_eq_false, false_or] at hpu
                exact h11.noRefs (refsL_nil hpu hck)
              | false => exact h11
            · rw [if_neg hin] at hck
              rw [if_neg (by omega)] at hV
              exact hkey c V (h7 i k el c V hel hck hV)
          · rw [if_neg hij] at hej
            have hjl := (List.getElem?_eq_some_iff.1 hej).1
            have hkl := (List.getElem?_eq_some_iff.1 hck).1
            rw [hwid j ej hej] at hkl
            have hnot : ¬ (base + i * s + off ≤ base + j * s + k ∧ base + j * s + k < base + i * s + off + X.cells.size) := by
              have := hcr.1
              rintro ⟨h12, h13⟩
              rcases Nat.lt_or_gt_of_ne hij with hlt | hgt
              · have : (i + 1) * s ≤ j * s := Nat.mul_le_mul_right s hlt
                rw [Nat.add_mul] at this
                omega
              · have : (j + 1) * s ≤ i * s := Nat.mul_le_mul_right s hgt
                rw [Nat.add_mul] at this
                omega
            rw [if_neg hnot] at hV
            exact hkey c V (h7 j k ej c V hej hck hV)
      · cases hs
  · cases hs
end
end Go.LH


set_option linter.unusedVariables false
set_option linter.unusedSimpArgs false
namespace Go.LH
section
variable {K : Ctx} {P : Program} {Z : Nat → Prop} {I I' : CellP} {J J' : Nat → Prop} {w w' : World} {ρ ρ' : Env} {h h' : Heap}
theorem eqGuard_int (op : BinOp) (t : TypeId) (x y : Operand) (k k' : IntKind) (a b : Int) : (eqGuard op t x y (.int k a) (.int k' b)).run P w = .ok () w := by
  unfold eqGuard
  cases op <;> rfl
theorem eqGuard_str (op : BinOp) (t : TypeId) (x y : Operand) (a b : ByteArray) : (eqGuard op t x y (.string a) (.string b)).run P w = .ok () w := by
  unfold eqGuard
  cases op <;> rfl
theorem strEq_eq (a b : ByteArray) : (a.toList == b.toList) = strEq a b := by
  unfold strEq
  rw [ByteArray.toList_eq, ByteArray.toList_eq]
theorem int_rel {op : BinOp} {k k' : IntKind} {a b : Int} {t : Nat} {v : LV} (h : (bif isShift op then intOp op k a b else if k = k' then intOp op k a b else none) = some v) :
    ∃ V, (Go.binOp op t (.int k a) (.int k' b)).run P w = .ok V w ∧ VR K I J w ρ v V := by
  have hk : isShift op = false → k = k' := by
    intro hs
    rw [hs, cond_false] at h
    by_cases e : k = k'
    · exact e
    · rw [if_neg e] at h; cases h
  have h' : intOp op k a b = some v := by
    cases hs : isShift op with
    | true => simpa [hs] using h
    | false => rw [hs, cond_false, if_pos (hk hs)] at h; exact h
  clear h
  cases op with
  | add => obtain rfl := hk rfl; cases h'; exact ⟨_, by simp [Go.binOp, Op.intArith], .int _ _ _⟩
  | sub => obtain rfl := hk rfl; cases h'; exact ⟨_, by simp [Go.binOp, Op.intArith], .int _ _ _⟩
  | mul => obtain rfl := hk rfl; cases h'; exact ⟨_, by simp [Go.binOp, Op.intArith], .int _ _ _⟩
  | quo =>
    obtain rfl := hk rfl
    simp only [intOp] at h'
    cases hb : b == 0 with
    | true => rw [hb] at h'; cases h'
    | false =>
      rw [hb] at h'
      cases h'
      have hb' : b ≠ 0 := by simpa using hb
      exact ⟨_, by simp [Go.binOp, Op.intDiv, hb'], .int _ _ _⟩
  | rem =>
    obtain rfl := hk rfl
    simp only [intOp] at h'
    cases hb : b == 0 with
    | true => rw [hb] at h'; cases h'
    | false =>
      rw [hb] at h'
      cases h'
      have hb' : b ≠ 0 := by simpa using hb
      exact ⟨_, by simp [Go.binOp, Op.intDiv, hb'], .int _ _ _⟩
  | and => obtain rfl := hk rfl; cases h'; exact ⟨_, by simp [Go.binOp, Op.intBits], .int _ _ _⟩
  | or => obtain rfl := hk rfl; cases h'; exact ⟨_, by simp [Go.binOp, Op.intBits], .int _ _ _⟩
  | xor => obtain rfl := hk rfl; cases h'; exact ⟨_, by simp [Go.binOp, Op.intBits], .int _ _ _⟩
  | andNot => obtain rfl := hk rfl; cases h'; exact ⟨_, by simp [Go.binOp, Op.intBits], .int _ _ _⟩
  | eql => obtain rfl := hk rfl; cases h'; exact ⟨_, by simp [Go.binOp, Op.intCmp], .bool _ _⟩
  | neq => obtain rfl := hk rfl; cases h'; exact ⟨_, by simp [Go.binOp, Op.intCmp], .bool _ _⟩
  | lss => obtain rfl := hk rfl; cases h'; exact ⟨_, by simp [Go.binOp, Op.intCmp], .bool _ _⟩
  | leq => obtain rfl := hk rfl; cases h'; exact ⟨_, by simp [Go.binOp, Op.intCmp], .bool _ _⟩
  | gtr => obtain rfl := hk rfl; cases h'; exact ⟨_, by simp [Go.binOp, Op.intCmp], .bool _ _⟩
  | geq => obtain rfl := hk rfl; cases h'; exact ⟨_, by simp [Go.binOp, Op.intCmp], .bool _ _⟩
  | shl =>
    simp only [intOp] at h'
    cases hb : decide (b < 0) with
    | true => rw [hb] at h'; cases h'
    | false =>
      rw [hb] at h'
      cases h'
      have hb' : ¬ b < 0 := by simpa using hb
      exact ⟨_, by simp [Go.binOp, Op.shift, hb'], .int _ _ _⟩
  | shr =>
    simp only [intOp] at h'
    cases hb : decide (b < 0) with
    | true => rw [hb] at h'; cases h'
    | false =>
      rw [hb] at h'
      cases h'
      have hb' : ¬ b < 0 := by simpa using hb
      exact ⟨_, by simp [Go.binOp, Op.shift, hb'], .int _ _ _⟩
end
end Go.LH


set_option linter.unusedVariables false
set_option linter.unusedSimpArgs false
namespace Go.LH
theorem kindsOk_len : ∀ {xs : List LV} {ks : List EK}, kindsOk xs ks = true → xs.length = ks.length
  | [], [], _ => rfl
  | [], _ :: _, h => by simp [kindsOk] at h
  | _ :: _, [], h => by simp [kindsOk] at h
  | x :: xs, k :: ks, h => by simp only [kindsOk, Bool.and_eq_true] at h; simp [kindsOk_len h.2]
theorem kindsOk_append : ∀ {xs : List LV} {a b : List EK}, kindsOk xs (a ++ b) = true → kindsOk (xs.take a.length) a = true ∧ kindsOk (xs.drop a.length) b = true
  | xs, [], b, h => by simpa [kindsOk] using h
  | [], k :: a, b, h => by simp [kindsOk] at h
  | x :: xs, k :: a, b, h => by
    simp only [List.cons_append, kindsOk, Bool.and_eq_true] at h
    obtain ⟨h1, h2⟩ := kindsOk_append h.2
    simp [kindsOk, h.1, h1, h2]
theorem eqC_append : ∀ {a b c d : List LV}, a.length = b.length → eqC (a ++ c) (b ++ d) = (eqC a b && eqC c d)
  | [], [], c, d, _ => by simp [eqC]
  | [], _ :: _, c, d, h => by simp at h
  | _ :: _, [], c, d, h => by simp at h
  | x :: a, y :: b, c, d, h => by
    simp only [List.length_cons, Nat.add_right_cancel_iff] at h
    simp [eqC, eqC_append h, Bool.and_assoc]
theorem kind_none (P : Program) (g : Nat → Option (List EK)) : ∀ fs : List Field, fs.foldl (kindStep P g) none = none
  | [] => rfl
  | f :: fs => by simp [kindStep, kind_none P g fs]
section
variable {K : Ctx} {P : Program} {I : CellP} {J : Nat → Prop} {w : World} {ρ : Env}
def RepT (K : Ctx) (I : CellP) (J : Nat → Prop) (w : World) (ρ : Env) (ag : Bool) (xs : List LV) (X : Value) : Prop :=
  if ag then VR K I J w ρ (.agg xs) X else ∃ x, xs = [x] ∧ VR K I J w ρ x X
theorem run_part {ft off m : Nat} {xs : List LV} {C : Array Value} {d : TypeDesc} (hC : CellsR K I J w ρ xs C) (hd : P.underlying ft = some d) (hi : (P.info? ft).map (·.size) = some m)
    (hm : isAggD d = false → m = 1) (hl : off + m ≤ xs.length) :
    ∃ X, (part ft C off).run P w = .ok X w ∧ RepT K I J w ρ (isAggD d) ((xs.drop off).take m) X := by
  obtain ⟨i, hi1, hi2⟩ := Option.map_eq_some_iff.1 hi
  unfold part
  rw [Sem.run_bind, run_isAgg_true hd, Result.andThen_ok]
  cases hag : isAggD d with
  | true =>
    have hsz : (sizeOf ft).run P w = .ok m w := by simp [sizeOf, typeInfo, hi1, hi2]
    refine ⟨.agg (C.extract off (off + m)), by simp [hsz], ?_⟩
    simp only [RepT, if_true]
    have hCs := hC.1
    refine .agg _ _ _ (by simp; omega) (fun j V hV => ?_) (fun j v V hv hV => ?_)
    · rw [Array.getElem?_extract] at hV
      split at hV
      · exact hC.2.1 _ V hV
      · cases hV
    · rw [Array.getElem?_extract] at hV
      split at hV
      · rename_i hj
        rw [List.getElem?_take, if_pos (by omega), List.getElem?_drop] at hv
        exact hC.2.2 _ v V hv hV
      · cases hV
  | false =>
    have hm1 := hm hag
    subst hm1
    have hlt : off < C.size := by have := hC.1; omega
    have hlt' : off < xs.length := by omega
    refine ⟨C[off], by simp [hlt], ?_⟩
    simp only [RepT, Bool.false_eq_true, if_false]
    refine ⟨xs[off], ?_, hC.2.2 off _ _ (List.getElem?_eq_getElem hlt') (by simp [hlt])⟩
    rw [List.drop_eq_getElem_cons hlt']
    rfl
def ekD : TypeDesc → Option EK
  | .bool => some .b
  | .int k => some (.i k)
  | .string => some .s
  | _ => none
theorem baBeq (a b : ByteArray) : (a == b) = strEq a b := by
  unfold strEq
  cases a with | mk a => cases b with | mk b =>
  have : ((⟨a⟩ : ByteArray) == ⟨b⟩) = (a == b) := rfl
  rw [this, Bool.eq_iff_iff, beq_iff_eq, beq_iff_eq]
  exact ⟨fun h => by rw [h], fun h => Array.toList_inj.1 h⟩
theorem scEq_run {d : TypeDesc} {k : EK} {x y : LV} {X Y : Value} {t : Nat} (n : Nat) (hd : P.underlying t = some d) (hk : ekD d = some k)
    (hx : ekOf x = some k) (hy : ekOf y = some k) (hX : VR K I J w ρ x X) (hY : VR K I J w ρ y Y) : (Op.equalIn (n + 1) t X Y).run P w = .ok (scEq x y) w := by
  unfold Op.equalIn
  rw [Sem.run_bind, run_underlying hd, Result.andThen_ok]
  cases x <;> simp [ekOf] at hx <;> subst hx <;> cases y <;> simp [ekOf] at hy <;> cases hX <;> cases hY <;> cases d <;> simp [ekD] at hk
  · simp [scEq]
  · subst hk
    simp [scEq, hy]
  · simp [scEq, baBeq]
theorem eqLoop {C D : Array Value} {xs ys : List LV} {N : Nat} {P : Program} {g : Nat → Option (List EK)} (hC : CellsR K I J w ρ xs C) (hD : CellsR K I J w ρ ys D)
    (hun : ∀ t m, g t = some m → ∃ fd, P.underlying t = some fd)
    (ih : ∀ (t : Nat) (ks : List EK), g t = some ks → ∀ (xs ys : List LV) (X Y : Value) (td : TypeDesc), P.underlying t = some td → kindsOk xs ks = true → kindsOk ys ks = true →
      RepT K I J w ρ (isAggD td) xs X → RepT K I J w ρ (isAggD td) ys Y → (Op.equalIn N t X Y).run P w = .ok (eqC xs ys) w) (hone : ∀ (t : Nat) (ks : List EK) (td : TypeDesc), g t = some ks → P.underlying t = some td → isAggD td = false → ks.length = 1) :
    ∀ (fs : List Field) (acc ks : List EK), fs.foldl (kindStep P g) (some acc) = some ks → ∃ rest, ks = acc ++ rest ∧
      (kindsOk (xs.drop acc.length) rest = true → kindsOk (ys.drop acc.length) rest = true →
      (forIn (m := Sem) fs ((none, ()) : Option Bool × Unit) fun f (_ : Option Bool × Unit) =>
        if f.name ≠ "_" then do
          let x ← part f.type C f.offset
          let y ← part f.type D f.offset
          let r ← Op.equalIn N f.type x y
          if (!r) = true then pure (ForInStep.done (some false, ())) else pure (ForInStep.yield (none, ()))
        else pure (ForInStep.yield (none, ()))).run P w = .ok (if eqC (xs.drop acc.length) (ys.drop acc.length) = true then (none, ()) else (some false, ())) w)
  | [], acc, ks, h => by
    simp only [List.foldl_nil, Option.some.injEq] at h
    subst h
    refine ⟨[], by simp, fun h1 h2 => ?_⟩
    rw [List.eq_nil_of_length_eq_zero (kindsOk_len h1), List.eq_nil_of_length_eq_zero (kindsOk_len h2)]
    simp [eqC]
  | f :: fs, acc, ks, h => by
    simp only [List.foldl_cons] at h
    cases hst : kindStep P g (some acc) f with
    | none => rw [hst, kind_none] at h; cases h
    | some acc' =>
      rw [hst] at h
      simp only [kindStep, Option.bind_some] at hst
      obtain ⟨m, hm, hst⟩ := Option.bind_eq_some_iff.1 hst
      cases hc : (f.name != "_" && f.offset == acc.length && (P.info? f.type).map (·.size) == some m.length && decide (0 < m.length)) with
      | false => rw [hc] at hst; cases hst
      | true =>
        rw [hc] at hst
        simp only [cond_true, Option.some.injEq] at hst
        subst hst
        simp only [Bool.and_eq_true, bne_iff_ne, ne_eq, beq_iff_eq, decide_eq_true_eq] at hc
        obtain ⟨⟨⟨hnm, hoff⟩, hsz⟩, hm0⟩ := hc
        obtain ⟨rest, hks, hrec⟩ := eqLoop hC hD hun ih hone fs (acc ++ m) ks h
        obtain ⟨fd, hfd⟩ := hun f.type m hm
        refine ⟨m ++ rest, by rw [hks]; simp, fun h1 h2 => ?_⟩
        obtain ⟨a1, a2⟩ := kindsOk_append h1
        obtain ⟨b1, b2⟩ := kindsOk_append h2
        have lx := kindsOk_len h1
        have ly := kindsOk_len h2
        simp only [List.length_drop, List.length_append] at lx ly
        have e1 : (acc ++ m).length = acc.length + m.length := by simp
        rw [List.drop_drop] at a2 b2
        rw [e1] at hrec
        have hx1 := hone f.type m fd hm hfd
        · skip
          obtain ⟨X, hX, rX⟩ := run_part (P := P) (off := f.offset) hC hfd hsz hx1 (by omega)
          obtain ⟨Y, hY, rY⟩ := run_part (P := P) (off := f.offset) hD hfd hsz hx1 (by omega)
          rw [hoff] at rX rY
          have hrun := ih f.type m hm _ _ X Y fd hfd a1 b1 rX rY
          rw [List.forIn_cons]
          simp only [ne_eq, hnm, not_false_eq_true, if_true, Sem.run_bind, hX, hY, Result.andThen_ok, hrun]
          have hsplit : eqC (xs.drop acc.length) (ys.drop acc.length) = (eqC ((xs.drop acc.length).take m.length) ((ys.drop acc.length).take m.length) && eqC (xs.drop (acc.length + m.length)) (ys.drop (acc.length + m.length))) := by
            rw [← List.drop_drop, ← List.drop_drop, ← eqC_append (by simp; omega), List.take_append_drop, List.take_append_drop]
          rw [hsplit]
          cases hb : eqC ((xs.drop acc.length).take m.length) ((ys.drop acc.length).take m.length) with
          | true =>
            simp only [Bool.not_true, Bool.false_eq_true, if_false, Sem.run_pure, Result.andThen_ok, Bool.true_and]
            exact hrec a2 b2
          | false => simp
theorem eqKinds_un {d t : Nat} {ks : List EK} (h : eqKinds P d t = some ks) : ∃ fd, P.underlying t = some fd := by
  cases d with
  | zero => simp [eqKinds] at h
  | succ d => cases hu : P.underlying t with
    | none => simp [eqKinds, hu] at h
    | some fd => exact ⟨fd, rfl⟩
theorem eqKinds_one {d t : Nat} {ks : List EK} {td : TypeDesc} (h : eqKinds P d t = some ks) (hu : P.underlying t = some td) (ha : isAggD td = false) : ks.length = 1 := by
  cases d with
  | zero => simp [eqKinds] at h
  | succ d =>
    simp only [eqKinds, hu] at h
    cases td <;> simp [isAggD] at ha <;> simp at h <;> subst h <;> rfl
theorem eqIn_rel : ∀ (d t : Nat) (ks : List EK), eqKinds P d t = some ks → ∀ (N : Nat) (xs ys : List LV) (X Y : Value) (td : TypeDesc), d ≤ N → P.underlying t = some td →
    kindsOk xs ks = true → kindsOk ys ks = true → RepT K I J w ρ (isAggD td) xs X → RepT K I J w ρ (isAggD td) ys Y → (Op.equalIn N t X Y).run P w = .ok (eqC xs ys) w
  | 0, t, ks, h => by simp [eqKinds] at h
  | d + 1, t, ks, h => by
    intro N xs ys X Y td hN htd hxs hys hX hY
    obtain ⟨N, rfl⟩ : ∃ m, N = m + 1 := ⟨N - 1, by omega⟩
    simp only [eqKinds, htd] at h
    have prim : ∀ k, ks = [k] → ekD td = some k → isAggD td = false → (Op.equalIn (N + 1) t X Y).run P w = .ok (eqC xs ys) w := by
      intro k hks hk hag
      subst hks
      rw [hag] at hX hY
      simp only [RepT, Bool.false_eq_true, if_false] at hX hY
      obtain ⟨x, rfl, hX⟩ := hX
      obtain ⟨y, rfl, hY⟩ := hY
      simp only [kindsOk, Bool.and_eq_true, beq_iff_eq] at hxs hys
      rw [scEq_run N htd hk hxs.1 hys.1 hX hY]
      simp [eqC]
    cases td with
    | bool => simp only [Option.some.injEq] at h; exact prim .b h.symm rfl rfl
    | int k => simp only [Option.some.injEq] at h; exact prim (.i k) h.symm rfl rfl
    | string => simp only [Option.some.injEq] at h; exact prim .s h.symm rfl rfl
    | struct fields =>
      simp only at h
      cases hg : (P.stoodInHeld t || P.eqGuardType P.depth t) with
      | true => rw [hg] at h; cases h
      | false =>
        rw [hg, cond_false] at h
        simp only [Bool.or_eq_false_iff] at hg
        simp only [RepT, isAggD, if_true] at hX hY
        obtain ⟨C, rfl, hC⟩ : ∃ C, X = .agg C ∧ CellsR K I J w ρ xs C := by cases hX with | agg _ _ C h1 h2 h3 => exact ⟨C, rfl, h1, h2, h3⟩
        obtain ⟨D, rfl, hD⟩ : ∃ D, Y = .agg D ∧ CellsR K I J w ρ ys D := by cases hY with | agg _ _ C h1 h2 h3 => exact ⟨C, rfl, h1, h2, h3⟩
        obtain ⟨rest, hks, hrec⟩ := eqLoop (N := N) hC hD (fun t m hm => eqKinds_un hm) (fun t ks hk xs ys X Y td htd h1 h2 h3 h4 => eqIn_rel d t ks hk N xs ys X Y td (by omega) htd h1 h2 h3 h4)
          (fun t ks td hk hu ha => eqKinds_one hk hu ha) fields.toList [] ks h
        simp only [List.nil_append] at hks
        subst hks
        have := hrec (by simpa using hxs) (by simpa using hys)
        simp only [List.length_nil, List.drop_zero] at this
        unfold Op.equalIn
        simp only [Sem.run_bind, run_underlying htd, Result.andThen_ok, run_program, hg.1, Bool.false_eq_true, if_false]
        rw [← Array.forIn_toList, this]
        cases eqC xs ys <;> simp
    | _ => simp at h
end
end Go.LH


set_option linter.unusedVariables false
set_option linter.unusedSimpArgs false
namespace Go.LH
section
variable {K : Ctx} {P : Program} {Z : Nat → Prop} {I I' : CellP} {J J' : Nat → Prop} {w w' : World} {ρ ρ' : Env} {h h' : Heap}
theorem Fits.eq_of (F : Fits K P) {t : Nat} {ks : List EK} (he : (K.ti t).eq = some ks) (hk : (K.ti t).k ≠ .other) : eqKinds P 12 t = some ks := by
  have hh : K.has t = true := by simpa [Ctx.has] using hk
  obtain ⟨i, _, h2⟩ := F.has_info hh
  rw [h2] at he
  exact he
theorem keyOk_inv {t : Nat} {v : LV} (h : keyOk K t v = true) : ∃ ks, (K.ti t).eq = some ks ∧
    (((K.ti t).k = .prim ∧ kindsOk [v] ks = true) ∨ ∃ fs cs, (K.ti t).k = .struct fs ∧ v = .agg cs ∧ kindsOk cs ks = true) := by
  unfold keyOk at h
  cases he : (K.ti t).eq with
  | none => rw [he] at h; cases h
  | some ks =>
    rw [he] at h
    cases hk : (K.ti t).k <;> rw [hk] at h <;> first
      | exact ⟨ks, rfl, .inl ⟨rfl, h⟩⟩
      | (cases v <;> first | (cases h; done) | exact ⟨ks, rfl, .inr ⟨_, _, rfl, rfl, h⟩⟩)
      | cases h
theorem ekOf_of {v : LV} {ks : List EK} (h : kindsOk [v] ks = true) : ∃ k, ekOf v = some k := by
  cases ks with
  | nil => simp [kindsOk] at h
  | cons k ks => simp only [kindsOk, Bool.and_eq_true, beq_iff_eq] at h; exact ⟨k, h.1⟩
theorem key_rel (F : Fits K P) {t : Nat} {x y : LV} {X Y : Value} (hx : keyOk K t x = true) (hy : keyOk K t y = true) (hX : VR K I J w ρ x X) (hY : VR K I J w ρ y Y) :
    (Op.equal t X Y).run P w = .ok (keyEq x y) w := by
  obtain ⟨ks, he, hx'⟩ := keyOk_inv hx
  obtain ⟨ks', he', hy'⟩ := keyOk_inv hy
  clear hx hy
  rw [he] at he'
  cases he'
  rcases hx' with ⟨hk, hx⟩ | ⟨fs, cs, hk, rfl, hx⟩
  · rcases hy' with ⟨_, hy⟩ | ⟨fs, cs, hk', _⟩
    · have hkk := F.eq_of he (by rw [hk]; simp)
      obtain ⟨td, htd⟩ := eqKinds_un hkk
      have hag : isAggD td = false := by
        have h1 := F.tk (F.has_of hk (by simp))
        rw [hk] at h1
        unfold tkOf at h1
        rw [htd] at h1
        cases td <;> simp at h1 <;> rfl
      have := eqIn_rel (w := w) 12 t ks hkk Op.maxDepth [x] [y] X Y td (by decide) htd hx hy (by rw [hag]; exact ⟨x, rfl, hX⟩) (by rw [hag]; exact ⟨y, rfl, hY⟩)
      unfold Op.equal
      rw [this]
      obtain ⟨k, h1⟩ := ekOf_of hx
      simp only [eqC, Bool.and_true]
      cases x <;> first | rfl | simp [ekOf] at h1
    · rw [hk] at hk'; cases hk'
  · rcases hy' with ⟨hk', _⟩ | ⟨fs', ds, _, rfl, hy⟩
    · rw [hk] at hk'; cases hk'
    · have hkk := F.eq_of he (by rw [hk]; simp)
      obtain ⟨fields, hf, _⟩ := F.struct hk
      have := eqIn_rel (w := w) 12 t ks hkk Op.maxDepth cs ds X Y _ (by decide) hf hx hy (by simpa [RepT, isAggD] using hX) (by simpa [RepT, isAggD] using hY)
      unfold Op.equal
      rw [this]
      rfl
theorem eqGuard_key (F : Fits K P) {op : BinOp} {t : Nat} {x : LV} {X Y : Value} (xo yo : Operand) (hx : keyOk K t x = true) (hX : VR K I J w ρ x X) : (eqGuard op t xo yo X Y).run P w = .ok () w := by
  obtain ⟨ks, he, hx'⟩ := keyOk_inv hx
  clear hx
  rcases hx' with ⟨hk, hx⟩ | ⟨fs, cs, hk, rfl, hx⟩
  · obtain ⟨k, hk⟩ := ekOf_of hx
    unfold eqGuard
    cases x <;> simp [ekOf] at hk <;> cases hX <;> cases op <;> rfl
  · have hkk := F.eq_of he (by rw [hk]; simp)
    obtain ⟨fields, hf, _⟩ := F.struct hk
    have hg : P.eqGuardType P.depth t = false := by
      simp only [eqKinds, hf] at hkk
      cases hg : (P.stoodInHeld t || P.eqGuardType P.depth t) with
      | true => rw [hg] at hkk; cases hkk
      | false => simp only [Bool.or_eq_false_iff] at hg; exact hg.2
    cases hX
    unfold eqGuard
    cases op <;> cases Y <;> first | rfl | simp [hg]
theorem keyOk_un {t : Nat} : keyOk K t .un = false := by
  cases h : keyOk K t .un with
  | false => rfl
  | true =>
    obtain ⟨ks, _, h1⟩ := keyOk_inv h
    rcases h1 with ⟨_, h1⟩ | ⟨_, _, _, h1, _⟩
    · obtain ⟨k, hk⟩ := ekOf_of h1; simp [ekOf] at hk
    · cases h1
def NilR : TK → Bool → Value → Prop
  | .slice _, b, X => ∃ A l c, X = .slice A l c ∧ A.isNone = b
  | .map _ _, b, X => ∃ A, X = .map A ∧ A.isNone = b
  | .ptr _, b, X => ∃ A, X = .pointer A ∧ A.isNone = b
  | .func, b, X => (b = true ∧ X = .nilFunc) ∨ (b = false ∧ ∃ f a c, X = .func f a c)
  | _, _, _ => False
theorem nil_rel {k : TK} {x : LV} {X : Value} {b : Bool} (h : nilS k x = some b) (hX : VR K I J w ρ x X) : NilR k b X ∧ ∀ (op : BinOp) (t : TypeId) (xo yo : Operand) (Y : Value), (eqGuard op t xo yo X Y).run P w = .ok () w := by
  cases k <;> cases x <;> simp [nilS] at h <;> (try subst h) <;> cases hX <;> refine ⟨?_, fun op t xo yo Y => by unfold eqGuard; cases op <;> rfl⟩ <;> simp only [NilR]
  all_goals first
    | exact ⟨_, rfl, rfl⟩
    | exact ⟨_, _, _, rfl, by simp_all⟩
    | exact .inl ⟨rfl, rfl⟩
    | exact .inr ⟨rfl, _, _, _, rfl⟩
    | simp
theorem eqV_rel (F : Fits K P) {op : BinOp} {t : Nat} {x y : LV} {X Y : Value} {b : Bool} (xo yo : Operand) (h : eqV K t x y = some b) (hX : VR K I J w ρ x X) (hY : VR K I J w ρ y Y) :
    (eqGuard op t xo yo X Y).run P w = .ok () w ∧ (Op.equal t X Y).run P w = .ok b w := by
  unfold eqV at h
  cases hk : (keyOk K t x && keyOk K t y) with
  | true =>
    rw [hk, cond_true] at h
    cases h
    simp only [Bool.and_eq_true] at hk
    exact ⟨eqGuard_key F xo yo hk.1 hX, key_rel F hk.1 hk.2 hX hY⟩
  | false =>
    rw [hk, cond_false] at h
    clear hk
    obtain ⟨p, q, hp, hq, hb⟩ : ∃ p q, nilS (K.ti t).k x = some p ∧ nilS (K.ti t).k y = some q ∧ ((p = true ∧ b = q) ∨ (p = false ∧ q = true ∧ b = false)) := by
      cases hp : nilS (K.ti t).k x with
      | none => rw [hp] at h; cases h
      | some p => cases hq : nilS (K.ti t).k y with
        | none => rw [hp, hq] at h; cases p <;> cases h
        | some q =>
          rw [hp, hq] at h
          cases p <;> cases q <;> simp at h <;> subst h <;> exact ⟨_, _, rfl, rfl, by simp⟩
    obtain ⟨hsx, hgx⟩ := nil_rel (P := P) (w := w) hp hX
    obtain ⟨hsy, _⟩ := nil_rel (P := P) (w := w) hq hY
    refine ⟨hgx op t xo yo Y, ?_⟩
    show (Op.equalIn (9999 + 1) t X Y).run P w = _
    cases hkk : (K.ti t).k with
    | slice e =>
      rw [hkk] at hsx hsy
      obtain ⟨A, l, c, rfl, ha⟩ := hsx
      obtain ⟨B, l', c', rfl, hb'⟩ := hsy
      unfold Op.equalIn
      rw [Sem.run_bind, run_underlying (F.slice hkk), Result.andThen_ok]
      cases A <;> cases B <;> simp at ha hb' <;> subst ha <;> subst hb' <;> simp at hb <;> subst hb <;> rfl
    | map k e =>
      rw [hkk] at hsx hsy
      obtain ⟨A, rfl, ha⟩ := hsx
      obtain ⟨B, rfl, hb'⟩ := hsy
      unfold Op.equalIn
      rw [Sem.run_bind, run_underlying (F.map hkk), Result.andThen_ok]
      cases A <;> cases B <;> simp at ha hb' <;> subst ha <;> subst hb' <;> simp at hb <;> subst hb <;> rfl
    | ptr e =>
      rw [hkk] at hsx hsy
      obtain ⟨A, rfl, ha⟩ := hsx
      obtain ⟨B, rfl, hb'⟩ := hsy
      unfold Op.equalIn
      rw [Sem.run_bind, run_underlying (F.ptr hkk), Result.andThen_ok]
      cases A <;> cases B <;> simp at ha hb' <;> subst ha <;> subst hb' <;> simp at hb <;> subst hb <;> rfl
    | func =>
      rw [hkk] at hsx hsy
      obtain ⟨a1, a2, a3, hu⟩ := F.func hkk
      unfold Op.equalIn
      rw [Sem.run_bind, run_underlying hu, Result.andThen_ok]
      rcases hsx with ⟨rfl, rfl⟩ | ⟨rfl, f, a, c, rfl⟩ <;> rcases hsy with ⟨rfl, rfl⟩ | ⟨rfl, f', a', c', rfl⟩ <;> simp at hb <;> subst hb <;> rfl
    | _ => rw [hkk] at hsx; exact hsx.elim
theorem bin_rel (F : Fits K P) {op : BinOp} {t : Nat} {x y v : LV} {X Y : Value} (xo yo : Operand) (h : binV K op t x y = some v) (hX : VR K I J w ρ x X) (hY : VR K I J w ρ y Y) :
    ∃ V, (do eqGuard op t xo yo X Y; Go.binOp op t X Y : Sem Value).run P w = .ok V w ∧ VR K I J w ρ v V := by
  unfold binV at h
  split at h
  · rename_i k a k' b
    cases hX; cases hY
    obtain ⟨V, h1, h2⟩ := int_rel (P := P) (w := w) (K := K) (I := I) (J := J) (ρ := ρ) (t := t) h
    exact ⟨V, by simp only [Sem.run_bind, eqGuard_int, Result.andThen_ok, h1], h2⟩
  · rename_i a b
    cases hX; cases hY
    have hg := eqGuard_str (P := P) (w := w) op t xo yo a b
    split at h
    · cases hb : decide (a.size + b.size < 4611686018427387904) with
      | false => rw [hb] at h; cases h
      | true =>
        rw [hb] at h
        cases h
        have hb' : a.size + b.size < 4611686018427387904 := by simpa using hb
        refine ⟨.string (a ++ b), ?_, .str _ _⟩
        simp only [Sem.run_bind, hg, Result.andThen_ok, Go.binOp, Op.stringOp]
        rw [if_neg (by simp only [IntKind.max, IntKind.signed, IntKind.bits]; omega)]
        rfl
    · cases h; exact ⟨.bool (strEq a b), by simp only [Sem.run_bind, hg, Result.andThen_ok, Go.binOp, Op.stringOp, strEq_eq]; rfl, .bool _ _⟩
    · cases h; exact ⟨.bool (!strEq a b), by simp only [Sem.run_bind, hg, Result.andThen_ok, Go.binOp, Op.stringOp, strEq_eq]; rfl, .bool _ _⟩
    · cases h
  · rename_i hni hns
    have hnot : ∀ b, eqV K t x y = some b → Go.binOp .eql t X Y = (do pure (.bool (← Op.equal t X Y)) : Sem Value) ∧ Go.binOp .neq t X Y = (do pure (.bool (!(← Op.equal t X Y))) : Sem Value) := by
      intro b hb
      have hn : ∀ k, nilS k .un = none := fun k => by cases k <;> rfl
      have hxu : x ≠ .un := by
        rintro rfl
        simp [eqV, keyOk_un, hn] at hb
      have hyu : y ≠ .un := by
        rintro rfl
        simp only [eqV, keyOk_un, hn, Bool.and_false, cond_false] at hb
        cases hs : nilS (K.ti t).k x with
        | none => rw [hs] at hb; cases hb
        | some c => rw [hs] at hb; cases c <;> cases hb
      cases hX <;> cases hY <;> first
        | exact ⟨rfl, rfl⟩
        | exact absurd rfl hxu
        | exact absurd rfl hyu
        | exact absurd rfl (hni _ _ _ _ rfl)
        | exact absurd rfl (hns _ _ rfl)
        | (exfalso; exact hni _ _ _ _ rfl rfl)
        | (exfalso; exact hns _ _ rfl rfl)
    split at h
    · obtain ⟨b, hb, rfl⟩ := Option.map_eq_some_iff.1 h
      obtain ⟨h1, h2⟩ := eqV_rel F (op := .eql) xo yo hb hX hY
      exact ⟨.bool b, by rw [Sem.run_bind, h1, Result.andThen_ok, (hnot b hb).1]; simp [h2], .bool _ _⟩
    · obtain ⟨b, hb, rfl⟩ := Option.map_eq_some_iff.1 h
      obtain ⟨h1, h2⟩ := eqV_rel F (op := .neq) xo yo hb hX hY
      exact ⟨.bool (!b), by rw [Sem.run_bind, h1, Result.andThen_ok, (hnot b hb).2]; simp [h2], .bool _ _⟩
    · cases h
end
end Go.LH


set_option linter.unusedVariables false
set_option linter.unusedSimpArgs false
namespace Go.LH
section
variable {K : Ctx} {P : Program} {Z : Nat → Prop} {I I' : CellP} {J J' : Nat → Prop} {w w' : World} {ρ ρ' : Env} {h h' : Heap}
theorem baGet (s : ByteArray) (i : Nat) : s[i]? = s.data.toList[i]? := by
  cases s with | mk a =>
  show (if h : i < (ByteArray.mk a).size then some ((ByteArray.mk a)[i]) else none) = _
  have : (ByteArray.mk a).size = a.size := rfl
  by_cases h : i < a.size
  · rw [dif_pos (by simpa [this] using h)]
    simp only [Array.getElem?_toList, h, Array.getElem?_eq_getElem]
    rfl
  · rw [dif_neg (by simpa [this] using h)]
    simp [h]
theorem fieldAt_rel {off : Nat} {x v : LV} {X : Value} (hf : fieldAt off x = some v) (hX : VR K I J w ρ x X) :
    ∃ R o, X = .pointer (some ⟨R, o, none⟩) ∧ VR K I J w ρ v (.pointer (some ⟨R, o + off, none⟩)) := by
  unfold fieldAt at hf
  split at hf <;> first | (cases hf; done) | skip
  · cases hf
    cases hX with
    | ptr _ b o R base len hb => exact ⟨R, _, rfl, by rw [Nat.add_assoc]; exact .ptr _ _ _ _ _ _ hb⟩
  · cases hf
    cases hX with
    | rptr _ b i s o R base len hb => exact ⟨R, _, rfl, by rw [Nat.add_assoc]; exact .rptr _ _ _ _ _ _ _ _ hb⟩
  · cases hf
    cases hX with
    | eptr _ cs o R o' Vs h1 h2 => exact ⟨R, _, rfl, by rw [Nat.add_assoc]; exact .eptr _ _ _ _ _ Vs h1 h2⟩
theorem fieldAddr_rel (F : Fits K P) {t f : Nat} {fs : List (Nat × Nat)} {off ft : Nat} {x v : LV} {X : Value} (hk : (K.ti t).k = .struct fs) (hf : fs[f]? = some (off, ft)) (hs : 0 < (K.ti ft).sz) (hh : K.has ft = true)
    (hv : fieldAt off x = some v) (hX : VR K I J w ρ x X) : ∃ V, (Instr.fieldAt t X f).run P w = .ok V w ∧ VR K I J w ρ v V := by
  obtain ⟨fields, hu, hfs⟩ := F.struct hk
  obtain ⟨R, o, rfl, hV⟩ := fieldAt_rel hv hX
  rw [hfs] at hf
  simp only [List.getElem?_map, Option.map_eq_some_iff] at hf
  obtain ⟨fl, hfl, he⟩ := hf
  cases he
  have hfl' : fields[f]? = some fl := by simpa using hfl
  refine ⟨_, ?_, hV⟩
  simp only [Instr.fieldAt, Sem.run_bind, run_underlying hu, Result.andThen_ok, hfl', Instr.sureAddr, Sem.run_pure, fieldPlace, run_sizeOf F hh]
  rw [if_neg (by omega)]
  simp [add_none]
theorem partV_rel (F : Fits K P) {ft off : Nat} {cs : List LV} {C : Array Value} {v : LV} (hv : fieldV.partV K off ft cs = some v) (hC : CellsR K I J w ρ cs C) :
    ∃ V, (part ft C off).run P w = .ok V w ∧ VR K I J w ρ v V := by
  unfold fieldV.partV at hv
  have agg : ∀ {ds : List LV} {d : TypeDesc}, K.has ft = true → P.underlying ft = some d → isAggD d = true → getAt cs off (K.ti ft).sz = some ds → ∃ V, (part ft C off).run P w = .ok V w ∧ VR K I J w ρ (.agg ds) V := by
    intro ds d hh hd hda hg
    obtain ⟨h1, h2⟩ := getAt_spec hg
    refine ⟨.agg (C.extract off (off + (K.ti ft).sz)), ?_, ?_⟩
    · unfold part
      rw [Sem.run_bind, run_isAgg_true hd, Result.andThen_ok]
      simp [hda, run_sizeOf F hh]
    · have hle : ∀ j, j < (K.ti ft).sz → off + j < cs.length := fun j hj => by
        have h3 : ds[j]? = some ds[j] := List.getElem?_eq_getElem (by omega)
        rw [h2 j hj] at h3
        exact (List.getElem?_eq_some_iff.1 h3).1
      have hsz : (C.extract off (off + (K.ti ft).sz)).size = (K.ti ft).sz := by
        have hCs := hC.1
        rcases Nat.eq_zero_or_pos (K.ti ft).sz with h0 | h0
        · simp [h0]; omega
        · have := hle ((K.ti ft).sz - 1) (by omega)
          simp; omega
      refine .agg _ _ _ (by rw [hsz, h1]) (fun j V hV => ?_) (fun j u V hu hV => ?_)
      · rw [Array.getElem?_extract] at hV
        split at hV
        · exact hC.2.1 _ V hV
        · cases hV
      · rw [Array.getElem?_extract] at hV
        split at hV
        · rename_i hj
          have hj' : j < (K.ti ft).sz := by omega
          rw [h2 j hj'] at hu
          exact hC.2.2 _ u V hu hV
        · cases hV
  split at hv
  · cases hv
  · rename_i fs hk
    obtain ⟨ds, hds, rfl⟩ := Option.map_eq_some_iff.1 hv
    obtain ⟨fields, hf, _⟩ := F.struct hk
    exact agg (F.has_of hk (by simp)) hf rfl hds
  · rename_i n e hk
    obtain ⟨ds, hds, rfl⟩ := Option.map_eq_some_iff.1 hv
    exact agg (F.has_of hk (by simp)) (F.arr hk) rfl hds
  · rename_i h1 h2 h3
    have hh : K.has ft = true := by simp only [Ctx.has, bne_iff_ne, ne_eq]; exact h1
    obtain ⟨d, hd, hda⟩ := F.notAgg hh (fun fs => h2 fs) (fun n e => h3 n e)
    have hlt := (List.getElem?_eq_some_iff.1 hv).1
    have hlt' : off < C.size := by have := hC.1; omega
    refine ⟨C[off], ?_, hC.2.2 off v _ hv (by simp [hlt'])⟩
    unfold part
    rw [Sem.run_bind, run_isAgg_true hd, Result.andThen_ok]
    simp [hda, hlt']
theorem agg_inv {cs : List LV} {X : Value} (hX : VR K I J w ρ (.agg cs) X) : ∃ C, X = .agg C ∧ CellsR K I J w ρ cs C := by
  cases hX with | agg _ _ C h1 h2 h3 => exact ⟨C, rfl, h1, h2, h3⟩
theorem field_rel (F : Fits K P) {t f : Nat} {x v : LV} {X : Value} (hv : fieldV K t f x = some v) (hX : VR K I J w ρ x X) : ∃ V, (Instr.field t X f).run P w = .ok V w ∧ VR K I J w ρ v V := by
  unfold fieldV at hv
  split at hv
  · rename_i fs cs hk
    obtain ⟨C, rfl, hC⟩ := agg_inv hX
    split at hv
    · rename_i off ft hf
      obtain ⟨fields, hu, hfs⟩ := F.struct hk
      rw [hfs] at hf
      simp only [List.getElem?_map, Option.map_eq_some_iff] at hf
      obtain ⟨fl, hfl, he⟩ := hf
      cases he
      have hfl' : fields[f]? = some fl := by simpa using hfl
      obtain ⟨V, h1, h2⟩ := partV_rel F hv hC
      exact ⟨V, by simp [Instr.field, run_underlying hu, hfl', asAgg, h1], h2⟩
    · cases hv
  · cases hv
theorem index_rel (F : Fits K P) {t : Nat} {x ix v : LV} {X IX : Value} (hv : indexVal K t x ix = some v) (hX : VR K I J w ρ x X) (hI : VR K I J w ρ ix IX) :
    ∃ V, (Instr.index t X IX).run P w = .ok V w ∧ VR K I J w ρ v V := by
  unfold indexVal at hv
  split at hv
  case h_2 => cases hv
  rename_i k i
  cases hI
  cases h0 : decide (0 ≤ i) with
  | false => rw [h0] at hv; cases hv
  | true =>
    rw [h0, cond_true] at hv
    have h0' : 0 ≤ i := by simpa using h0
    split at hv
    · rename_i n e cs hk
      cases hc : (decide (i.toNat < n) && K.has e) with
      | false => rw [hc] at hv; cases hv
      | true =>
        rw [hc, cond_true] at hv
        simp only [Bool.and_eq_true, decide_eq_true_eq] at hc
        obtain ⟨C, rfl, hC⟩ := agg_inv hX
        obtain ⟨V, h1, h2⟩ := partV_rel F hv hC
        refine ⟨V, ?_, h2⟩
        simp only [Instr.index, Sem.run_bind, asIntOf, Sem.run_pure, Result.andThen_ok, run_underlying (F.arr hk)]
        rw [if_pos ⟨h0', by omega⟩]
        simp [run_sizeOf F hc.2, h1]
    · rename_i s hk
      cases hc : decide ((K.ti t).eq = some [.s]) with
      | false => rw [hc] at hv; cases hv
      | true =>
        rw [hc, cond_true] at hv
        have hkk : (K.ti t).k = .prim := by assumption
        have heq : eqKinds P 12 t = some [.s] := F.eq_of (by simpa using hc) (by rw [hkk]; simp)
        have hun : P.underlying t = some .string := by
          have h1 := F.tk (F.has_of hkk (by simp))
          rw [hkk] at h1
          unfold tkOf at h1
          simp only [eqKinds] at heq
          split at h1 <;> first | cases h1; done | skip
          all_goals (rename_i hu; simp [hu] at heq)
          exact hu
        cases hX
        split at hv
        · rename_i b hb
          cases hv
          refine ⟨_, ?_, .int _ _ _⟩
          simp only [Instr.index, Sem.run_bind, asIntOf, Sem.run_pure, Result.andThen_ok, run_underlying hun]
          rw [if_pos h0', baGet, hb]
          rfl
        · cases hv
    · cases hv
theorem indexAddr_rel (F : Fits K P) (H : Inv K Z I J ρ h w) {t : Nat} {x ix v : LV} {X IX : Value} (hv : indexV K h t x ix = some v) (hX : VR K I J w ρ x X) (hI : VR K I J w ρ ix IX) :
    ∃ V, (Instr.indexAt t X IX).run P w = .ok V w ∧ VR K I J w ρ v V := by
  unfold indexV at hv
  split at hv
  case h_2 => cases hv
  rename_i k i
  cases hI
  cases h0 : decide (0 ≤ i) with
  | false => rw [h0] at hv; cases hv
  | true =>
    rw [h0, cond_true] at hv
    have h0' : 0 ≤ i := by simpa using h0
    split at hv
    ·
      rename_i e s nl ex es hk
      cases hc : ((s == (K.ti e).sz) && K.has e) with
      | false => rw [hc] at hv; cases hv
      | true =>
        rw [hc, cond_true] at hv
        simp only [Bool.and_eq_true, beq_iff_eq] at hc
        obtain ⟨hs, hh⟩ := hc
        obtain ⟨el, hel, rfl⟩ := Option.map_eq_some_iff.1 hv
        have hil := (List.getElem?_eq_some_iff.1 hel).1
        cases hX with
        | slnil _ _ _ _ _ => simp at hil
        | slemp _ _ _ _ _ _ _ _ => simp at hil
        | sl _ _ _ _ _ R o cap Vs h1 h2 h3 h4 h5 h6 h7 =>
          have hw := h5 _ _ hel
          have hval : VR K I J w ρ (.eptr el 0) (.pointer (some ⟨R, (o + i.toNat * s) + 0, none⟩)) :=
            .eptr _ el 0 R (o + i.toNat * s) (Vs i.toNat) (fun k hk => h6 i.toNat k hil (by omega)) (fun k c hc => h7 i.toNat k el c hel hc)
          refine ⟨_, ?_, hval⟩
          simp only [Instr.indexAt, Sem.run_bind, asIntOf, Sem.run_pure, Result.andThen_ok, run_underlying (F.slice hk)]
          rw [if_pos ⟨h0', by omega⟩]
          simp [run_sizeOf F hh, ← hs, add_none]
    ·
      rename_i e b s hk
      split at hv
      · rename_i pu mv es s' e' hg
        cases hc : ((K.ti e).sz == s && K.has e) with
        | false => rw [hc] at hv; cases hv
        | true =>
          rw [hc, cond_true] at hv
          simp only [Bool.and_eq_true, beq_iff_eq] at hc
          obtain ⟨hs, hh⟩ := hc
          obtain ⟨el, hel, rfl⟩ := Option.map_eq_some_iff.1 hv
          have hil := (List.getElem?_eq_some_iff.1 hel).1
          cases hX with
          | row _ _ _ R base len cap Kc ty hb h2 h3 h4 =>
            obtain ⟨hl, _⟩ := H.rel b R base len _ hb (live_getD hg)
            have hval : VR K I J w ρ (.rptr b i.toNat s 0) (.pointer (some ⟨R, base + i.toNat * s + 0, none⟩)) := .rptr _ b i.toNat s 0 R base len hb
            refine ⟨_, ?_, hval⟩
            simp only [Instr.indexAt, Sem.run_bind, asIntOf, Sem.run_pure, Result.andThen_ok, run_underlying (F.slice hk)]
            rw [if_pos ⟨h0', by omega⟩]
            simp [run_sizeOf F hh, hs, add_none]
          | rowv _ _ _ A hb =>
            obtain ⟨pu', mv', s'', e'', hx, _⟩ := H.virt b _ hb (live_getD hg)
            cases hx
            simp at hil
      · cases hv
    ·
      rename_i e b s off n hk
      cases hc : (decide (i.toNat < n) && (K.ti e).sz == s && K.has e) with
      | false => rw [hc] at hv; cases hv
      | true =>
        rw [hc, cond_true] at hv
        simp only [Bool.and_eq_true, decide_eq_true_eq, beq_iff_eq] at hc
        obtain ⟨⟨hn, hs⟩, hh⟩ := hc
        cases hv
        cases hX with
        | part _ _ _ _ _ R base len cap Kc ty hb h2 h3 h4 h5 =>
          have hval : VR K I J w ρ (.rptr b (off + i.toNat) s 0) (.pointer (some ⟨R, base + (off + i.toNat) * s + 0, none⟩)) := .rptr _ b (off + i.toNat) s 0 R base len hb
          refine ⟨_, ?_, hval⟩
          simp only [Instr.indexAt, Sem.run_bind, asIntOf, Sem.run_pure, Result.andThen_ok, run_underlying (F.slice hk)]
          rw [if_pos ⟨h0', by omega⟩]
          simp [run_sizeOf F hh, hs, add_none, Nat.add_mul, Nat.add_assoc]
        | part0 _ _ _ _ _ _ _ => omega
    ·
      rename_i e b off s n hk
      cases hc : (decide (i.toNat < n) && (K.ti e).sz == s && K.has e) with
      | false => rw [hc] at hv; cases hv
      | true =>
        rw [hc, cond_true] at hv
        simp only [Bool.and_eq_true, decide_eq_true_eq, beq_iff_eq] at hc
        obtain ⟨⟨hn, hs⟩, hh⟩ := hc
        cases hv
        cases hX with
        | bsl _ _ _ _ _ R base len cap hb _ =>
          have hval : VR K I J w ρ (.ptr b (off + i.toNat * s)) (.pointer (some ⟨R, base + (off + i.toNat * s), none⟩)) := .ptr _ b _ R base len hb
          refine ⟨_, ?_, hval⟩
          simp only [Instr.indexAt, Sem.run_bind, asIntOf, Sem.run_pure, Result.andThen_ok, run_underlying (F.slice hk)]
          rw [if_pos ⟨h0', by omega⟩]
          simp [run_sizeOf F hh, hs, add_none, Nat.add_assoc]
    ·
      rename_i x' n e hk
      cases hc : (decide (i.toNat < n) && K.has e) with
      | false => rw [hc] at hv; cases hv
      | true =>
        rw [hc, cond_true] at hv
        simp only [Bool.and_eq_true, decide_eq_true_eq] at hc
        obtain ⟨R, o, rfl, hV⟩ := fieldAt_rel hv hX
        refine ⟨_, ?_, hV⟩
        simp only [Instr.indexAt, Sem.run_bind, asIntOf, Sem.run_pure, Result.andThen_ok, run_underlying (F.arr hk), Instr.sureAddr]
        rw [if_pos ⟨h0', by omega⟩]
        simp [run_sizeOf F hc.2, add_none]
    · cases hv
end
end Go.LH


set_option linter.unusedVariables false
set_option linter.unusedSimpArgs false
namespace Go.LH
section
variable {K : Ctx} {P : Program} {Z : Nat → Prop} {I I' : CellP} {J J' : Nat → Prop} {w w' : World} {ρ ρ' : Env} {h h' : Heap}
def OptR (K : Ctx) (I : CellP) (J : Nat → Prop) (w : World) (ρ : Env) : Option LV → Option Value → Prop
  | none, none => True
  | some v, some V => VR K I J w ρ v V
  | _, _ => False
theorem run_bound {k : IntKind} {i : Int} {y : Nat} (c : BoundsCode) (h0 : 0 ≤ i) (h1 : i.toNat ≤ y) : (Instr.sliceBound (.int k i) y c).run P w = .ok i.toNat w := by
  unfold Instr.sliceBound
  simp only [asIntOf, Sem.run_bind, Sem.run_pure, Result.andThen_ok]
  rw [if_pos ⟨h0, by omega⟩]
  simp
theorem bd_rel {o : Option LV} {O : Option Value} {d n l : Nat} (hb : sliceV.bd o d n = some l) (hO : OptR K I J w ρ o O) :
    (o = none ∧ O = none ∧ l = d) ∨ ∃ k i, o = some (.int k i) ∧ O = some (.int k i) ∧ 0 ≤ i ∧ i.toNat ≤ n ∧ l = i.toNat := by
  unfold sliceV.bd at hb
  split at hb
  · cases hb
    cases O with
    | none => exact .inl ⟨rfl, rfl, rfl⟩
    | some V => exact hO.elim
  · rename_i k i
    cases O with
    | none => exact hO.elim
    | some V =>
      have hV : VR K I J w ρ (.int k i) V := hO
      cases hV
      cases hc : (decide (0 ≤ i) && decide (i.toNat ≤ n)) with
      | false => rw [hc] at hb; cases hb
      | true =>
        rw [hc, cond_true] at hb
        simp only [Bool.and_eq_true, decide_eq_true_eq] at hc
        cases hb
        exact .inr ⟨k, i, rfl, rfl, hc.1, hc.2, rfl⟩
  · cases hb
theorem bounds_none {isSl : Bool} {len cap l hh : Nat} {lo hi : Option LV} {LO HI : Option Value} (hl : sliceV.bd lo 0 len = some l) (hhi : sliceV.bd hi len len = some hh) (hlh : l ≤ hh) (hc : len ≤ cap)
    (hLO : OptR K I J w ρ lo LO) (hHI : OptR K I J w ρ hi HI) : (Instr.sliceBounds isSl len cap LO HI none).run P w = .ok (l, hh, cap) w := by
  unfold Instr.sliceBounds
  rcases bd_rel hl hLO with ⟨rfl, rfl, rfl⟩ | ⟨k, i, rfl, rfl, h1, h2, rfl⟩ <;> rcases bd_rel hhi hHI with ⟨rfl, rfl, rfl⟩ | ⟨k', i', rfl, rfl, h3, h4, rfl⟩
  · simp
  · simp only [Sem.run_bind, Sem.run_pure, Result.andThen_ok]
    rw [run_bound _ h3 (by omega)]
    simp
  · simp only [Sem.run_bind, Sem.run_pure, Result.andThen_ok]
    rw [run_bound _ h1 (by omega)]
    simp
  · simp only [Sem.run_bind, Sem.run_pure, Result.andThen_ok]
    rw [run_bound _ h3 (by omega)]
    simp only [Result.andThen_ok, Sem.run_bind]
    rw [run_bound _ h1 (by omega)]
    simp
theorem bounds_some {isSl : Bool} {len cap l hh : Nat} {k : IntKind} {lo hi : Option LV} {LO HI : Option Value} (hl : sliceV.bd lo 0 len = some l) (hhi : sliceV.bd hi len len = some hh) (hlh : l ≤ hh) (hc : len ≤ cap)
    (hhl : hh ≤ len) (his : hi.isSome = true) (hLO : OptR K I J w ρ lo LO) (hHI : OptR K I J w ρ hi HI) : (Instr.sliceBounds isSl len cap LO HI (some (.int k (hh : Int)))).run P w = .ok (l, hh, hh) w := by
  unfold Instr.sliceBounds
  rcases bd_rel hhi hHI with ⟨rfl, rfl, rfl⟩ | ⟨k', i', rfl, rfl, h3, h4, rfl⟩
  · simp at his
  have hm : (Instr.sliceBound (.int k (i'.toNat : Int)) cap (if isSl then .slice3Acap else .slice3Alen)).run P w = .ok i'.toNat w := by
    rw [run_bound _ (by omega) (by omega), Int.toNat_natCast]
  rcases bd_rel hl hLO with ⟨rfl, rfl, rfl⟩ | ⟨k, i, rfl, rfl, h1, h2, rfl⟩
  · simp only [Sem.run_bind, Sem.run_pure, Result.andThen_ok, hm]
    rw [run_bound _ h3 (by omega)]
    simp
  · simp only [Sem.run_bind, Sem.run_pure, Result.andThen_ok, hm]
    rw [run_bound _ h3 (by omega)]
    simp only [Result.andThen_ok, Sem.run_bind]
    rw [run_bound _ h1 (by omega)]
    simp
theorem run_sliceAt {t et : Nat} {A : Option Addr} {len cap l hh m : Nat} {LO HI MX : Option Value} (F : Fits K P) (hk : (K.ti t).k = .slice et) (hh' : K.has et = true)
    (hb : (Instr.sliceBounds true len cap LO HI MX).run P w = .ok (l, hh, m) w) :
    (Instr.sliceAt t (.slice A len cap) LO HI MX).run P w = .ok (.slice (if m = l then A else A.map (·.add (l * (K.ti et).sz))) (hh - l) (m - l)) w := by
  unfold Instr.sliceAt
  simp only [Sem.run_bind, run_underlying (F.slice hk), Result.andThen_ok]
  unfold Instr.slice
  simp only [Sem.run_bind, run_underlying (F.slice hk), Result.andThen_ok, hb, run_sizeOf F hh']
  rfl
theorem run_sliceArr {t et n : Nat} {R o : Nat} {l hh m : Nat} {LO HI MX : Option Value} (F : Fits K P) (hk : (K.ti t).k = .arr n et) (hh' : K.has et = true)
    (hb : (Instr.sliceBounds false n n LO HI MX).run P w = .ok (l, hh, m) w) :
    (Instr.sliceAt t (.pointer (some ⟨R, o, none⟩)) LO HI MX).run P w = .ok (.slice (some (if m = l then ⟨R, o, none⟩ else ⟨R, o + l * (K.ti et).sz, none⟩)) (hh - l) (m - l)) w := by
  unfold Instr.sliceAt
  simp only [Sem.run_bind, run_underlying (F.arr hk), Result.andThen_ok, hb, run_sizeOf F hh', Instr.sureAddr, Sem.run_pure, add_none]
theorem chunk_spec : ∀ {cs : List LV} {n off s : Nat} {es : List (List LV)}, chunk cs off s n = some es → es.length = n ∧
    ∀ (i : Nat) (e : List LV), es[i]? = some e → e.length = s ∧ ∀ k, k < s → e[k]? = cs[off + i * s + k]?
  | cs, 0, off, s, es, hc => by simp [chunk] at hc; subst hc; exact ⟨rfl, fun i e he => by simp at he⟩
  | cs, n + 1, off, s, es, hc => by
    simp only [chunk] at hc
    split at hc
    · rename_i e r h1 h2
      cases hc
      obtain ⟨h3, h4⟩ := getAt_spec h1
      obtain ⟨h5, h6⟩ := chunk_spec h2
      refine ⟨by simp [h5], fun i e' he => ?_⟩
      cases i with
      | zero => simp at he; subst he; exact ⟨h3, fun k hk => by simpa using h4 k hk⟩
      | succ i =>
        simp at he
        obtain ⟨h7, h8⟩ := h6 i e' he
        refine ⟨h7, fun k hk => ?_⟩
        rw [h8 k hk]
        congr 1
        rw [Nat.add_mul]
        omega
    · cases hc
theorem slice_rel (F : Fits K P) (H : Inv K Z I J ρ h w) {t : Nat} {x v : LV} {X : Value} {lo hi mx : Option LV} {LO HI MX : Option Value} (hv : sliceV K h t x lo hi mx = some v) (hX : VR K I J w ρ x X)
    (hLO : OptR K I J w ρ lo LO) (hHI : OptR K I J w ρ hi HI) (hMX : OptR K I J w ρ mx MX) : ∃ V, (Instr.sliceAt t X LO HI MX).run P w = .ok V w ∧ VR K I J w ρ v V := by
  unfold sliceV at hv
  split at hv
  ·
    rename_i et s nl ex es hk
    cases hc : ((s == (K.ti et).sz || es.isEmpty) && K.has et) with
    | false => rw [hc] at hv; cases hv
    | true =>
      rw [hc] at hv
      simp only [Bool.not_true, cond_false] at hv
      simp only [Bool.and_eq_true, Bool.or_eq_true, beq_iff_eq, List.isEmpty_iff] at hc
      obtain ⟨hs, hhas⟩ := hc
      split at hv
      case h_2 => cases hv
      rename_i l hh h1 h2
      cases hd : (decide (l ≤ hh) && decide (hh ≤ es.length)) with
      | false => rw [hd] at hv; cases hv
      | true =>
        rw [hd, cond_true] at hv
        simp only [Bool.and_eq_true, decide_eq_true_eq] at hd
        obtain ⟨hlh, hhl⟩ := hd
        have key : ∀ (A : Option Addr) (cap m : Nat) (ex' : Bool), VR K I J w ρ (.sl s nl ex es) (.slice A es.length cap) → es.length ≤ cap → (m = cap ∨ m = hh) → (ex' = true → m = hh) → hh ≤ m →
            VR K I J w ρ (.sl s (if nl = some true then some true else none) ex' ((es.take hh).drop l)) (.slice (if m = l then A else A.map (·.add (l * (K.ti et).sz))) (hh - l) (m - l)) := by
          intro A cap m ex' hvr hcap hm hex hhm
          have hlen : ((es.take hh).drop l).length = hh - l := by simp; omega
          generalize hx : LV.sl s nl ex es = x at hvr
          generalize hy : Value.slice A es.length cap = y at hvr
          cases hvr with
          | slnil _ _ _ _ hnl =>
            cases hx
            cases hy
            simp only [List.length_nil, Nat.le_zero] at hhl hcap
            subst hhl
            have hl0 : l = 0 := by omega
            subst hl0
            have hm0 : m = 0 := by rcases hm with h | h <;> omega
            subst hm0
            exact .slnil _ _ _ _ (by cases nl with | none => simp | some b => cases b <;> simp_all)
          | slemp _ _ _ _ a _ hnl hex0 =>
            cases hx
            cases hy
            simp only [List.length_nil, Nat.le_zero] at hhl
            subst hhl
            have hl0 : l = 0 := by omega
            subst hl0
            simp only [List.take_nil, List.drop_nil, Option.map_some]
            have : (if m = 0 then some a else some (a.add (0 * (K.ti et).sz))) = some a := by
              split
              · rfl
              · simp [Addr.add]
            rw [this]
            refine .slemp _ _ _ _ _ _ ?_ (fun h => by have := hex h; omega)
            cases nl with | none => simp | some b => cases b <;> simp_all
          | sl _ _ _ _ _ R o _ Vs h3 h4 h5 h6 h7 h8 h9 =>
            cases hx
            cases hy
            have hnl : nl ≠ some true := h3
            have hnl' : (if nl = some true then some true else (none : Option Bool)) ≠ some true := by rw [if_neg hnl]; simp
            rcases Nat.eq_zero_or_pos (hh - l) with he | he
            · have : (es.take hh).drop l = [] := List.eq_nil_of_length_eq_zero (by omega)
              rw [this, he]
              have : ∃ A', (if m = l then some (⟨R, o, none⟩ : Addr) else (some (⟨R, o, none⟩ : Addr)).map (·.add (l * (K.ti et).sz))) = some A' := by
                split <;> exact ⟨_, rfl⟩
              obtain ⟨A', hA⟩ := this
              rw [hA]
              exact .slemp _ _ _ _ _ _ hnl' (fun h => by have := hex h; omega)
            · have hs' : s = (K.ti et).sz := by
                rcases hs with h | h
                · exact h
                · subst h; simp at hhl; omega
              have hml : m ≠ l := by omega
              rw [if_neg hml]
              simp only [Option.map_some, add_none]
              rw [← hs', ← hlen]
              have hget : ∀ (i : Nat) (e : List LV), ((es.take hh).drop l)[i]? = some e → es[l + i]? = some e := by
                intro i e hie
                rw [List.getElem?_drop, List.getElem?_take] at hie
                split at hie
                · exact hie
                · cases hie
              refine .sl _ _ _ _ _ R (o + l * s) (m - l) (fun i => Vs (l + i)) hnl' (by omega) (fun h => by have := hex h; omega) h6 (fun i e hie => h7 _ _ (hget i e hie)) (fun i k hi hk => ?_) (fun i k e c hie hck => h9 (l + i) k e c (hget i e hie) hck)
              have := h8 (l + i) k (by omega) hk
              rw [show o + l * s + i * s + k = o + (l + i) * s + k by rw [Nat.add_mul]; omega]
              exact this
          | _ => cases hx
        have hinv : ∃ A cap, X = .slice A es.length cap ∧ es.length ≤ cap ∧ (ex = true → cap = es.length) := by
          cases hX with
          | slnil _ _ _ _ _ => exact ⟨none, 0, rfl, by simp, fun _ => rfl⟩
          | slemp _ _ _ _ a cap h3 h4 => exact ⟨some a, cap, rfl, by simp, fun h => by simpa using h4 h⟩
          | sl _ _ _ _ _ R o cap Vs h3 h4 h5 => exact ⟨some ⟨R, o, none⟩, cap, rfl, h4, h5⟩
        obtain ⟨A, cap, rfl, hcap, hex⟩ := hinv
        cases mx with
        | none =>
          cases MX with
          | some M => exact hMX.elim
          | none =>
            simp only [Option.some.injEq] at hv
            subst hv
            refine ⟨_, run_sliceAt F hk hhas (bounds_none h1 h2 hlh hcap hLO hHI), key A cap cap _ hX hcap (.inl rfl) (fun h => ?_) (by omega)⟩
            simp only [Bool.and_eq_true, decide_eq_true_eq] at h
            rw [hex h.1, h.2]
        | some m =>
          cases MX with
          | none => exact hMX.elim
          | some M =>
            simp only at hv
            split at hv
            case isFalse => cases hv
            rename_i hm
            obtain ⟨hm, his⟩ := hm
            cases hv
            cases m <;> simp only [intOf?] at hm <;> try (cases hm; done)
            rename_i k n
            cases hm
            have hM : VR K I J w ρ (.int k (hh : Int)) M := hMX
            cases hM
            exact ⟨_, run_sliceAt F hk hhas (bounds_some h1 h2 hlh hcap hhl his hLO hHI), key A cap hh true hX hcap (.inr rfl) (fun _ => rfl) (Nat.le_refl _)⟩
  ·
    rename_i et b s vw hk
    cases hc : ((s == (K.ti et).sz) && K.has et) with
    | false => rw [hc] at hv; cases hv
    | true =>
      rw [hc] at hv
      simp only [Bool.not_true, cond_false] at hv
      simp only [Bool.and_eq_true, beq_iff_eq] at hc
      obtain ⟨hs, hhas⟩ := hc
      split at hv
      case h_2 => cases hv
      rename_i off n hvw
      split at hv
      case h_2 => cases hv
      rename_i l hh h1 h2
      cases MX with
      | some M => exact hMX.elim
      | none =>
      cases hd : (decide (l ≤ hh) && decide (hh ≤ n)) with
      | false => rw [hd] at hv; cases hv
      | true =>
        rw [hd, cond_true] at hv
        simp only [Bool.and_eq_true, decide_eq_true_eq] at hd
        obtain ⟨hlh, hhn⟩ := hd
        cases hv
        have hinv : (∃ A, X = .slice A 0 0 ∧ n = 0 ∧ ∃ l, ρ b = some l) ∨ ∃ R base len cap Kc ty, X = .slice (some ⟨R, base + off * s, none⟩) n cap ∧ ρ b = some (.at R base len) ∧ off + n ≤ len ∧ n ≤ cap ∧ w.shape? R = some (ty, Kc) ∧ base + (off + cap) * s ≤ Kc := by
          cases hX with
          | row _ _ _ R base len cap Kc ty hb h3 h4 h5 =>
            simp only at hvw
            split at hvw
            · rename_i pu mv es s' e hg
              cases hvw
              obtain ⟨hl, _⟩ := H.rel b R base len _ hb (live_getD hg)
              exact .inr ⟨R, base, len, cap, Kc, ty, by simp [hl], hb, by omega, by omega, h4, by simpa using h5⟩
            · cases hvw
          | rowv _ _ _ A hb =>
            simp only at hvw
            split at hvw
            · rename_i pu mv es s' e hg
              cases hvw
              obtain ⟨pu', mv', s'', e'', hx, _⟩ := H.virt b _ hb (live_getD hg)
              cases hx
              exact .inl ⟨A, rfl, rfl, _, hb⟩
            · cases hvw
          | part _ _ _ off' n' R base len cap Kc ty hb h3 h4 h5 h6 =>
            simp only [Option.some.injEq, Prod.mk.injEq] at hvw
            obtain ⟨rfl, rfl⟩ := hvw
            exact .inr ⟨R, base, len, cap, Kc, ty, rfl, hb, h3, h4, h5, h6⟩
          | part0 _ _ _ off' A l' hb =>
            simp only [Option.some.injEq, Prod.mk.injEq] at hvw
            obtain ⟨rfl, rfl⟩ := hvw
            exact .inl ⟨A, rfl, rfl, l', hb⟩
        rcases hinv with ⟨A, rfl, rfl, l', hb⟩ | ⟨R, base, len, cap, Kc, ty, rfl, hb, h3, h4, h5, h6⟩
        · have hl0 : l = 0 := by omega
          have hh0 : hh = 0 := by omega
          subst hl0
          subst hh0
          refine ⟨_, run_sliceAt F hk hhas (bounds_none h1 h2 hlh (Nat.le_refl _) hLO hHI), ?_⟩
          simp only [if_true, Nat.sub_self]
          exact .part0 _ _ _ _ _ l' hb
        · refine ⟨_, run_sliceAt F hk hhas (bounds_none h1 h2 hlh h4 hLO hHI), ?_⟩
          by_cases hcl : cap = l
          · subst hcl
            have : hh - cap = 0 := by omega
            rw [if_pos rfl, this, Nat.sub_self]
            exact .part0 _ _ _ _ _ _ hb
          · rw [if_neg hcl, ← hs]
            simp only [Option.map_some, add_none]
            rw [show base + off * s + l * s = base + (off + l) * s by rw [Nat.add_mul]; omega]
            exact .part _ b s (off + l) (hh - l) R base len (cap - l) Kc ty hb (by omega) (by omega) h5 (by rw [show off + l + (cap - l) = off + cap by omega]; exact h6)
  ·
    rename_i n et b o hk
    split at hv
    case h_2 => cases hv
    rename_i l hh h1 h2
    cases MX with
    | some M => exact hMX.elim
    | none =>
    cases hd : (decide (l < n) && decide (l ≤ hh) && decide (hh ≤ n) && decide (0 < (K.ti et).sz) && K.has et) with
    | false => rw [hd] at hv; cases hv
    | true =>
      rw [hd, cond_true] at hv
      simp only [Bool.and_eq_true, decide_eq_true_eq] at hd
      obtain ⟨⟨⟨⟨hln, hlh⟩, hhn⟩, hs0⟩, hhas⟩ := hd
      cases hv
      cases hX with
      | ptr _ _ _ R base len hb =>
        refine ⟨_, run_sliceArr F hk hhas (bounds_none h1 h2 hlh (Nat.le_refl _) hLO hHI), ?_⟩
        rw [if_neg (by omega), Nat.add_assoc]
        exact .bsl _ _ _ _ _ R base len _ hb (by omega)
  ·
    rename_i n et cs o hk
    split at hv
    case h_2 => cases hv
    rename_i l hh h1 h2
    cases MX with
    | some M => exact hMX.elim
    | none =>
    cases hd : (decide (l < n) && decide (l ≤ hh) && decide (hh ≤ n) && decide (0 < (K.ti et).sz) && K.has et) with
    | false => rw [hd] at hv; cases hv
    | true =>
      rw [hd, cond_true] at hv
      simp only [Bool.and_eq_true, decide_eq_true_eq] at hd
      obtain ⟨⟨⟨⟨hln, hlh⟩, hhn⟩, hs0⟩, hhas⟩ := hd
      obtain ⟨es, hes, rfl⟩ := Option.map_eq_some_iff.1 hv
      obtain ⟨h3, h4⟩ := chunk_spec hes
      cases hX with
      | eptr _ _ _ R oo Vs h5 h6 =>
        refine ⟨_, run_sliceArr F hk hhas (bounds_none h1 h2 hlh (Nat.le_refl _) hLO hHI), ?_⟩
        rw [if_neg (by omega), ← h3]
        rcases Nat.eq_zero_or_pos es.length with he | he
        · have : es = [] := List.eq_nil_of_length_eq_zero he
          subst this
          exact .slemp _ _ _ _ _ _ (by simp) (by simp)
        · have hin : ∀ i k, i < es.length → k < (K.ti et).sz → o + l * (K.ti et).sz + i * (K.ti et).sz + k < cs.length := by
            intro i k hi hk
            obtain ⟨h7, h8⟩ := h4 i es[i] (by simp [hi])
            have h9 := h8 k hk
            rw [List.getElem?_eq_getElem (by omega)] at h9
            exact (List.getElem?_eq_some_iff.1 h9.symm).1
          refine .sl _ _ _ _ _ R (oo + o + l * (K.ti et).sz) (n - l) (fun i k => Vs (o + l * (K.ti et).sz + i * (K.ti et).sz + k)) (by simp) (by omega) (by simp) hs0 (fun i e hie => (h4 i e hie).1) (fun i k hi hk => ?_) (fun i k e c hie hck => ?_)
          · have := h5 _ (hin i k hi hk)
            rw [show oo + o + l * (K.ti et).sz + i * (K.ti et).sz + k = oo + (o + l * (K.ti et).sz + i * (K.ti et).sz + k) by omega]
            exact this
          · obtain ⟨h7, h8⟩ := h4 i e hie
            have hk' := (List.getElem?_eq_some_iff.1 hck).1
            rw [h7] at hk'
            exact h6 _ c ((h8 k hk').symm.trans hck)
  · cases hv
end
end Go.LH


set_option linter.unusedVariables false
set_option linter.unusedSimpArgs false
namespace Go.LH
section
variable {K : Ctx} {P : Program} {Z : Nat → Prop} {I I' : CellP} {J J' : Nat → Prop} {w w' : World} {ρ ρ' : Env} {h h' : Heap}
theorem ckLoop {C : Array Value} {xs : List LV} {em : Bool} {N : Nat} {g : Nat → Option (List EK)} (hC : CellsR K I J w ρ xs C)
    (hun : ∀ t m, g t = some m → ∃ fd, P.underlying t = some fd)
    (ih : ∀ (t : Nat) (ks : List EK), g t = some ks → ∀ (xs : List LV) (X : Value) (td : TypeDesc), P.underlying t = some td → kindsOk xs ks = true →
      RepT K I J w ρ (isAggD td) xs X → (Instr.checkKey em N t X).run P w = .ok () w) (hone : ∀ (t : Nat) (ks : List EK) (td : TypeDesc), g t = some ks → P.underlying t = some td → isAggD td = false → ks.length = 1) :
    ∀ (fs : List Field) (acc ks : List EK), fs.foldl (kindStep P g) (some acc) = some ks → ∃ rest, ks = acc ++ rest ∧
      (kindsOk (xs.drop acc.length) rest = true →
      (forIn (m := Sem) fs PUnit.unit fun f (_ : PUnit) =>
        if f.name ≠ "_" then do
          let x ← part f.type C f.offset
          Instr.checkKey em N f.type x
          pure (ForInStep.yield PUnit.unit)
        else pure (ForInStep.yield PUnit.unit)).run P w = .ok PUnit.unit w)
  | [], acc, ks, h => by
    simp only [List.foldl_nil, Option.some.injEq] at h
    subst h
    refine ⟨[], by simp, fun h1 => ?_⟩
    simp
  | f :: fs, acc, ks, h => by
    simp only [List.foldl_cons] at h
    cases hst : kindStep P g (some acc) f with
    | none => rw [hst, kind_none] at h; cases h
    | some acc' =>
      rw [hst] at h
      simp only [kindStep, Option.bind_some] at hst
      obtain ⟨m, hm, hst⟩ := Option.bind_eq_some_iff.1 hst
      cases hc : (f.name != "_" && f.offset == acc.length && (P.info? f.type).map (·.size) == some m.length && decide (0 < m.length)) with
      | false => rw [hc] at hst; cases hst
      | true =>
        rw [hc] at hst
        simp only [cond_true, Option.some.injEq] at hst
        subst hst
        simp only [Bool.and_eq_true, bne_iff_ne, ne_eq, beq_iff_eq, decide_eq_true_eq] at hc
        obtain ⟨⟨⟨hnm, hoff⟩, hsz⟩, hm0⟩ := hc
        obtain ⟨rest, hks, hrec⟩ := ckLoop hC hun ih hone fs (acc ++ m) ks h
        obtain ⟨fd, hfd⟩ := hun f.type m hm
        refine ⟨m ++ rest, by rw [hks]; simp, fun h1 => ?_⟩
        obtain ⟨a1, a2⟩ := kindsOk_append h1
        have lx := kindsOk_len h1
        simp only [List.length_drop, List.length_append] at lx
        have e1 : (acc ++ m).length = acc.length + m.length := by simp
        rw [List.drop_drop] at a2
        rw [e1] at hrec
        have hx1 := hone f.type m fd hm hfd
        obtain ⟨X, hX, rX⟩ := run_part (P := P) (off := f.offset) hC hfd hsz hx1 (by omega)
        rw [hoff] at rX
        have hrun := ih f.type m hm _ X fd hfd a1 rX
        rw [List.forIn_cons]
        simp only [ne_eq, hnm, not_false_eq_true, if_true, Sem.run_bind, hX, Result.andThen_ok, hrun, Sem.run_pure]
        exact hrec a2
theorem ckIn_rel {em : Bool} : ∀ (d t : Nat) (ks : List EK), eqKinds P d t = some ks → ∀ (N : Nat) (xs : List LV) (X : Value) (td : TypeDesc), d ≤ N → P.underlying t = some td →
    kindsOk xs ks = true → RepT K I J w ρ (isAggD td) xs X → (Instr.checkKey em N t X).run P w = .ok () w
  | 0, t, ks, h => by simp [eqKinds] at h
  | d + 1, t, ks, h => by
    intro N xs X td hN htd hxs hX
    obtain ⟨N, rfl⟩ : ∃ m, N = m + 1 := ⟨N - 1, by omega⟩
    simp only [eqKinds, htd] at h
    cases td with
    | bool => unfold Instr.checkKey; simp [run_underlying htd]
    | int k => unfold Instr.checkKey; simp [run_underlying htd]
    | string => unfold Instr.checkKey; simp [run_underlying htd]
    | struct fields =>
      simp only at h
      cases hg : (P.stoodInHeld t || P.eqGuardType P.depth t) with
      | true => rw [hg] at h; cases h
      | false =>
        rw [hg, cond_false] at h
        simp only [RepT, isAggD, if_true] at hX
        obtain ⟨C, rfl, hC⟩ : ∃ C, X = .agg C ∧ CellsR K I J w ρ xs C := by cases hX with | agg _ _ C h1 h2 h3 => exact ⟨C, rfl, h1, h2, h3⟩
        obtain ⟨rest, hks, hrec⟩ := ckLoop (em := em) (N := N) hC (fun t m hm => eqKinds_un hm) (fun t ks hk xs X td htd h1 h3 => ckIn_rel d t ks hk N xs X td (by omega) htd h1 h3)
          (fun t ks td hk hu ha => eqKinds_one hk hu ha) fields.toList [] ks h
        simp only [List.nil_append] at hks
        subst hks
        have := hrec (by simpa using hxs)
        unfold Instr.checkKey
        simp only [Sem.run_bind, run_underlying htd, Result.andThen_ok]
        rw [← Array.forIn_toList]
        rw [this]
        rfl
    | _ => simp at h
theorem check_rel (F : Fits K P) {t : Nat} {x : LV} {X : Value} {em : Bool} (hx : keyOk K t x = true) (hX : VR K I J w ρ x X) : (Instr.checkKey em 10000 t X).run P w = .ok () w := by
  obtain ⟨ks, he, hx'⟩ := keyOk_inv hx
  clear hx
  rcases hx' with ⟨hk, hx⟩ | ⟨fs, cs, hk, rfl, hx⟩
  · have hkk := F.eq_of he (by rw [hk]; simp)
    obtain ⟨td, htd⟩ := eqKinds_un hkk
    have hag : isAggD td = false := by
      have h1 := F.tk (F.has_of hk (by simp))
      rw [hk] at h1
      unfold tkOf at h1
      rw [htd] at h1
      cases td <;> simp at h1 <;> rfl
    exact ckIn_rel 12 t ks hkk 10000 [x] X td (by decide) htd hx (by rw [hag]; exact ⟨x, rfl, hX⟩)
  · have hkk := F.eq_of he (by rw [hk]; simp)
    obtain ⟨fields, hf, _⟩ := F.struct hk
    exact ckIn_rel 12 t ks hkk 10000 cs X _ (by decide) hf hx (by simpa [RepT, isAggD] using hX)
def FoundR (i : Nat) (es : List MapEntry) : Option Nat → Option (Nat × Value) → Prop
  | none, none => True
  | some j, some (j', V) => j' = j ∧ i ≤ j ∧ ∃ e, es[j - i]? = some e ∧ V = e.val
  | _, _ => False
theorem findNow_rel {td : TypeDesc} {k : LV} {X : Value} {kk : EK} (hd : ekD td = some kk) (hk : ekOf k = some kk) (hX : VR K I J w ρ k X) :
    ∀ (ks : List LV) (es : List MapEntry) (i : Nat), ks.length = es.length → (∀ (j : Nat) (x : LV), ks[j]? = some x → ekOf x = some kk) →
      (∀ (j : Nat) (x : LV) (e : MapEntry), ks[j]? = some x → es[j]? = some e → VR K I J w noEnv x e.key) →
      ∃ r, Instr.findNow td X es i = some r ∧ FoundR i es (findK k ks i) r
  | [], [], i, hl, h1, h2 => ⟨none, rfl, trivial⟩
  | [], e :: es, i, hl, h1, h2 => by simp at hl
  | x :: ks, [], i, hl, h1, h2 => by simp at hl
  | x :: ks, e :: es, i, hl, h1, h2 => by
    have hx := h1 0 x (by simp)
    have hxe := h2 0 x e (by simp) (by simp)
    have hsame : Instr.sameNow td X e.key = some (keyEq k x) := by
      generalize e.key = E at hxe
      cases k <;> simp [ekOf] at hk <;> subst hk <;> cases x <;> simp [ekOf] at hx <;> cases hX <;> cases hxe <;> cases td <;> simp [ekD] at hd
      · simp [Instr.sameNow, keyEq, scEq]
      · subst hd
        simp [Instr.sameNow, keyEq, scEq, hx]
      · simp [Instr.sameNow, keyEq, scEq, baBeq]
    simp only [Instr.findNow, hsame, findK]
    cases hq : keyEq k x with
    | true => exact ⟨_, rfl, rfl, Nat.le_refl _, e, by simp, rfl⟩
    | false =>
      obtain ⟨r, h3, h4⟩ := findNow_rel hd hk hX ks es (i + 1) (by simpa using hl) (fun j y hy => h1 (j + 1) y (by simpa using hy)) (fun j y f hy hf => h2 (j + 1) y f (by simpa using hy) (by simpa using hf))
      refine ⟨r, h3, ?_⟩
      simp only [cond_false]
      revert h4
      cases findK k ks (i + 1) <;> cases r <;> simp only [FoundR] <;> first | exact fun h => h | skip
      rename_i j jr
      rintro ⟨rfl, h5, f, h6, h7⟩
      exact ⟨rfl, by omega, f, by rw [show jr.1 - i = (jr.1 - (i + 1)) + 1 by omega]; simpa using h6, h7⟩
theorem findAsk_rel (F : Fits K P) {t : Nat} {k : LV} {X : Value} (hk : keyOk K t k = true) (hX : VR K I J w ρ k X) :
    ∀ (ks : List LV) (es : List MapEntry) (i : Nat), ks.length = es.length → (∀ (j : Nat) (x : LV), ks[j]? = some x → keyOk K t x = true) →
      (∀ (j : Nat) (x : LV) (e : MapEntry), ks[j]? = some x → es[j]? = some e → VR K I J w noEnv x e.key) →
      ∃ r, (Instr.findAsking t X es i).run P w = .ok r w ∧ FoundR i es (findK k ks i) r
  | [], [], i, hl, h1, h2 => ⟨none, by simp [Instr.findAsking], trivial⟩
  | [], e :: es, i, hl, h1, h2 => by simp at hl
  | x :: ks, [], i, hl, h1, h2 => by simp at hl
  | x :: ks, e :: es, i, hl, h1, h2 => by
    have hx := h1 0 x (by simp)
    have hxe := (h2 0 x e (by simp) (by simp)).up ρ
    have heq := key_rel F hk hx hX hxe
    simp only [Instr.findAsking, findK, Sem.run_bind, heq, Result.andThen_ok]
    cases hq : keyEq k x with
    | true => exact ⟨some (i, e.val), by simp, rfl, Nat.le_refl _, e, by simp, rfl⟩
    | false =>
      obtain ⟨r, h3, h4⟩ := findAsk_rel F hk hX ks es (i + 1) (by simpa using hl) (fun j y hy => h1 (j + 1) y (by simpa using hy)) (fun j y f hy hf => h2 (j + 1) y f (by simpa using hy) (by simpa using hf))
      refine ⟨r, by simpa using h3, ?_⟩
      simp only [cond_false]
      revert h4
      cases findK k ks (i + 1) <;> cases r <;> simp only [FoundR] <;> first | exact fun h => h | skip
      rename_i j jr
      rintro ⟨rfl, h5, f, h6, h7⟩
      exact ⟨rfl, by omega, f, by rw [show jr.1 - i = (jr.1 - (i + 1)) + 1 by omega]; simpa using h6, h7⟩
theorem find_rel (F : Fits K P) {t : Nat} {k : LV} {X : Value} (hk : keyOk K t k = true) (hX : VR K I J w ρ k X)
    (ks : List LV) (es : List MapEntry) (hl : ks.length = es.length) (h1 : ∀ (j : Nat) (x : LV), ks[j]? = some x → keyOk K t x = true)
    (h2 : ∀ (j : Nat) (x : LV) (e : MapEntry), ks[j]? = some x → es[j]? = some e → VR K I J w noEnv x e.key) :
    ∃ r, (Instr.findKey t X es).run P w = .ok r w ∧ FoundR 0 es (findK k ks 0) r := by
  obtain ⟨kks, he, hk'⟩ := keyOk_inv hk
  rcases hk' with ⟨hkt, hkk⟩ | ⟨fs, cs, hkt, rfl, hkk⟩
  · have heq := F.eq_of he (by rw [hkt]; simp)
    obtain ⟨td, htd⟩ := eqKinds_un heq
    obtain ⟨kk, hek, rfl⟩ : ∃ kk, ekD td = some kk ∧ kks = [kk] := by
      have h3 := F.tk (F.has_of hkt (by simp))
      rw [hkt] at h3
      unfold tkOf at h3
      rw [htd] at h3
      simp only [eqKinds, htd] at heq
      cases td <;> simp at h3 heq <;> exact ⟨_, rfl, heq.symm⟩
    have hone : ∀ {v : LV}, keyOk K t v = true → ekOf v = some kk := by
      intro v hv
      obtain ⟨ks', he', hv'⟩ := keyOk_inv hv
      rw [he] at he'
      cases he'
      rcases hv' with ⟨_, hv'⟩ | ⟨_, _, h3, _⟩
      · simpa [kindsOk] using hv'
      · rw [hkt] at h3; cases h3
    obtain ⟨r, h3, h4⟩ := findNow_rel hek (hone hk) hX ks es 0 hl (fun j x hx => hone (h1 j x hx)) h2
    exact ⟨r, by simp [Instr.findKey, run_underlying htd, h3], h4⟩
  · obtain ⟨fields, hf, _⟩ := F.struct hkt
    obtain ⟨r, h3, h4⟩ := findAsk_rel F hk hX ks es 0 hl h1 h2
    cases es with
    | nil =>
      cases ks with
      | nil => exact ⟨none, by simp [Instr.findKey, run_underlying hf, Instr.findNow], trivial⟩
      | cons a b => simp at hl
    | cons e es =>
      refine ⟨r, ?_, h4⟩
      have : Instr.findNow (.struct fields) X (e :: es) 0 = none := by simp [Instr.findNow, Instr.sameNow]
      simp [Instr.findKey, run_underlying hf, this, h3]
theorem zeroV_rel (F : Fits K P) {t : Nat} (hh : K.has t = true) (hz : (K.ti t).zok = true) : ∃ Zv, (zeroValue t).run P w = .ok Zv w ∧ VR K I J w ρ (zeroV K t) Zv := by
  obtain ⟨Zv, h1, h2, h3, h4, h5⟩ := zero_rel (I := I) (J := J) (w := w) (ρ := ρ) F hh hz
  refine ⟨Zv, h1, ?_⟩
  unfold zeroV
  rw [hz, hh]
  simp only [Bool.and_self, cond_true]
  have hcase : ∀ {b : Bool}, aggK (K.ti t).k = b → isAggV Zv = b := fun h => h5.trans h
  split
  · rename_i fs hk
    have := hcase (b := true) (by rw [hk]; rfl)
    cases Zv <;> simp [isAggV] at this
    exact .agg _ _ _ h3.1 h3.2.1 h3.2.2
  · rename_i n e hk
    have := hcase (b := true) (by rw [hk]; rfl)
    cases Zv <;> simp [isAggV] at this
    exact .agg _ _ _ h3.1 h3.2.1 h3.2.2
  · rename_i hn1 hn2
    have hag : aggK (K.ti t).k = false := by
      cases hk : (K.ti t).k <;> first | rfl | skip
      · exact absurd hk (by intro h; exact hn2 _ _ h)
      · exact absurd hk (by intro h; exact hn1 _ h)
    have hna := hcase hag
    have hc : Zv.cells = #[Zv] := by cases Zv <;> first | rfl | simp [isAggV] at hna
    cases hzz : (K.ti t).zero with
    | nil => exact .un _ _
    | cons a r =>
      rw [hzz, hc] at h3
      simpa using h3.2.2 0 a Zv (by simp) (by simp)
theorem map_inv (H : Inv K Z I J ρ h w) {m : LV} {M : Value} {kt : Nat} {ks vs : List LV} (hm : (match m with
        | .nmap => some ([], [])
        | .pmap kt' ks vs => if kt' = kt then some (ks, vs) else none
        | .map b => match h.getD b none with
          | some (.map _ kt' ks vs) => if kt' = kt then some (ks, vs) else none
          | _ => none
        | _ => none : Option (List LV × List LV)) = some (ks, vs)) (hM : VR K I J w ρ m M) :
    (M = .map none ∧ ks = [] ∧ vs = []) ∨ ∃ R es clock, M = .map (some R) ∧ w.heap[R]? = some (.map es clock) ∧ ks.length = es.size ∧ vs.length = es.size ∧
      (∀ (i : Nat) (k : LV), ks[i]? = some k → keyOk K kt k = true) ∧ (∀ (i : Nat) (k : LV) (e : MapEntry), ks[i]? = some k → es[i]? = some e → VR K I J w noEnv k e.key) ∧
      (∀ (i : Nat) (v : LV) (e : MapEntry), vs[i]? = some v → es[i]? = some e → VR K I J w ρ v e.val) := by
  split at hm
  · cases hm; cases hM; exact .inl ⟨rfl, rfl, rfl⟩
  · split at hm
    case isFalse => cases hm
    rename_i hk
    subst hk
    cases hm
    cases hM with
    | pmap _ _ _ _ R es clock h1 h2 h3 h4 h5 h6 h7 h8 h9 => exact .inr ⟨R, es, clock, rfl, h2, h3, h4, h5, h6, fun i v e a b => (h7 i v e a b).up ρ⟩
  · rename_i b
    split at hm
    · rename_i pu kt' ks' vs' hg
      split at hm
      case isFalse => cases hm
      rename_i hk
      subst hk
      cases hm
      cases hM with
      | map _ _ R base len hb =>
        obtain ⟨es, clock, h1, h2, h3, h4, h5, h6, h7, h8⟩ := H.rel b R base len _ hb (live_getD hg)
        refine .inr ⟨R, es, clock, rfl, h1, h2, h3, h4, h5, fun i v e a b => ?_⟩
        have := h6 i v e a b
        cases pu with
        | true => exact VR.up this ρ
        | false => exact this
    · cases hm
  · cases hm
theorem lookup_rel (F : Fits K P) (H : Inv K Z I J ρ h w) {t : Nat} {m k v : LV} {M X : Value} {ok : Bool} (hv : lookupV K h t m k ok = some v) (hM : VR K I J w ρ m M) (hX : VR K I J w ρ k X) :
    ∃ V, (Instr.lookup t M X ok).run P w = .ok V w ∧ VR K I J w ρ v V := by
  unfold lookupV at hv
  split at hv
  case h_2 => cases hv
  rename_i kt et hk
  cases hkey : keyOk K kt k with
  | false => rw [hkey] at hv; cases hv
  | true =>
    rw [hkey, cond_true] at hv
    cases hhas : ((K.ti et).zok && K.has et) with
    | false => rw [hhas] at hv; cases hv
    | true =>
    rw [hhas, cond_true] at hv
    simp only [Bool.and_eq_true] at hhas
    split at hv
    case h_2 => cases hv
    rename_i ks vs hm
    obtain ⟨Zv, hz1, hz2⟩ := zeroV_rel (I := I) (J := J) (w := w) (ρ := ρ) F hhas.2 hhas.1
    have tupR : ∀ (a : LV) (A : Value) (b : Bool), VR K I J w ρ a A → VR K I J w ρ (.tup [a, .bool b]) (.tuple #[A, .bool b]) := by
      intro a A b hA
      refine .tup _ _ _ rfl (fun i v V hv hV => ?_)
      match i with
      | 0 => simp at hv hV; subst hv; subst hV; exact hA
      | 1 => simp at hv hV; subst hv; subst hV; exact .bool _ _
      | i + 2 => simp at hv
    have fin : ∀ (a : LV) (A : Value) (b : Bool), VR K I J w ρ a A → v = (bif ok then .tup [a, .bool b] else a) → VR K I J w ρ v (if ok then .tuple #[A, .bool b] else A) := by
      intro a A b hA hve
      subst hve
      cases ok with
      | true => exact tupR a A b hA
      | false => exact hA
    rcases map_inv H hm hM with ⟨rfl, rfl, rfl⟩ | ⟨R, es, clock, rfl, h1, h2, h3, h4, h5, h6⟩
    · simp only [findK, Option.some.injEq] at hv
      refine ⟨_, ?_, fin (zeroV K et) Zv false hz2 hv.symm⟩
      obtain ⟨r, h7, h8⟩ := find_rel (w := w) F hkey hX [] [] rfl (by simp) (by simp)
      cases r with
      | some r => exact h8.elim
      | none =>
        simp only [Instr.lookup, Sem.run_bind, run_underlying (F.map hk), Result.andThen_ok, Sem.run_pure, check_rel F hkey hX, h7, hz1]
    · obtain ⟨r, h7, h8⟩ := find_rel (w := w) F hkey hX ks es.toList (by simpa using h2) h4 (fun j x e hx he => h5 j x e hx (by simpa using he))
      have hobj : (getObj R).run P w = .ok (.map es clock) w := by simp [getObj, Sem.run, h1]
      cases hf : findK k ks 0 with
      | none =>
        rw [hf] at hv h8
        cases r with
        | some r => exact h8.elim
        | none =>
          simp only [Option.some.injEq] at hv
          refine ⟨_, ?_, fin (zeroV K et) Zv false hz2 hv.symm⟩
          simp only [Instr.lookup, Sem.run_bind, run_underlying (F.map hk), Result.andThen_ok, Sem.run_pure, hobj, check_rel F hkey hX, h7, hz1]
      | some j =>
        rw [hf] at hv h8
        cases r with
        | none => exact h8.elim
        | some r =>
          obtain ⟨j', V⟩ := r
          obtain ⟨rfl, _, e, h9, rfl⟩ := h8
          simp only [Option.some.injEq, Nat.sub_zero] at hv h9
          have he : es[j']? = some e := by simpa using h9
          have hjl : j' < vs.length := by have := (Array.getElem?_eq_some_iff.1 he).1; omega
          have hvj : VR K I J w ρ (vs.getD j' .un) e.val := by
            rw [List.getD_eq_getElem?_getD, List.getElem?_eq_getElem hjl]
            exact h6 j' _ e (List.getElem?_eq_getElem hjl) he
          refine ⟨_, ?_, fin _ e.val true hvj hv.symm⟩
          simp only [Instr.lookup, Sem.run_bind, run_underlying (F.map hk), Result.andThen_ok, Sem.run_pure, hobj, check_rel F hkey hX, h7]
end
end Go.LH


set_option linter.unusedVariables false
set_option linter.unusedSimpArgs false
namespace Go.LH
section
variable {K : Ctx} {P : Program} {Z : Nat → Prop} {I I' : CellP} {J J' : Nat → Prop} {w w' : World} {ρ ρ' : Env} {h h' : Heap}
theorem heap_alloc (w : World) (o : Obj) : (w.alloc o).heap = w.heap.push o := rfl
theorem ext_alloc (w : World) (o : Obj) : Ext w (w.alloc o) := Ext.push (heap_alloc w o) ⟨rfl, rfl⟩
theorem alloc_at (w : World) (o : Obj) : (w.alloc o).heap[w.heap.size]? = some o := by simp [heap_alloc]
theorem alloc_size (w : World) (o : Obj) : (w.alloc o).heap.size = w.heap.size + 1 := by simp [heap_alloc]
theorem run_newRow (e : Nat) (C : Array Value) : (newRow e C).run P w = .ok ⟨w.heap.size, 0, none⟩ (w.alloc (.cells C e (0, 0))) := by
  simp [newRow, Sem.run_bind]
theorem Lays.alloc (I : CellP) (J : Nat → Prop) (w : World) (o : Obj) : Lays I I J J w (w.alloc o) := Lays.of_ext I J (ext_alloc w o)
theorem VR.lay {v : LV} {V : Value} {id : Nat} {l : Loc} (hv : VR K I J w ρ v V) (L : Lays I I' J J' w w') (hid : ρ id = none) : VR K I' J' w' (upd ρ id l) v V :=
  hv.mono L.i L.j (L.ext.keep I J) (fun b hb => by
    obtain ⟨l', hl⟩ := hv.dom b hb
    exact upd_ne (fun e => by subst e; rw [hid] at hl; cases hl))
theorem VR.lays {v : LV} {V : Value} (hv : VR K I J w ρ v V) (L : Lays I I' J J' w w') : VR K I' J' w' ρ v V :=
  hv.mono L.i L.j (L.ext.keep I J) (fun _ _ => rfl)
def QPost (K : Ctx) (I : CellP) (J : Nat → Prop) (ρ : Env) (h : Heap) (id : Nat) (w : World) (v : LV) (ob : Option Blk) (V : Value) (w' : World) : Prop :=
  ∃ I' J', Lays I I' J J' w w' ∧ match ob with
    | none => VR K I' J' w' ρ v V
    | some x => ∃ R len, w.heap.size ≤ R ∧ R < w'.heap.size ∧ (∀ o, ¬ I' R o) ∧ ¬ J' R ∧ VR K I' J' w' (upd ρ id (.at R 0 len)) v V ∧ BlkRel K I' J' w' (upd ρ id (.at R 0 len)) R 0 len x ∧
        ∀ m, x.iterOf = some m → ∃ pu kt ks vs, live h m (.map pu kt ks vs)
theorem QPost.pure {id : Nat} {v : LV} {V : Value} (hv : VR K I J w ρ v V) : QPost K I J ρ h id w v none V w := ⟨I, J, Lays.refl I J w, hv⟩
theorem QPost.new (H : Inv K Z I J ρ h w) {id : Nat} {v : LV} {V : Value} {o : Obj} {x : Blk} {len : Nat} (hid : ρ id = none)
    (hv : VR K I J (w.alloc o) (upd ρ id (.at w.heap.size 0 len)) v V) (hb : BlkRel K I J (w.alloc o) (upd ρ id (.at w.heap.size 0 len)) w.heap.size 0 len x)
    (hm : ∀ m, x.iterOf = some m → ∃ pu kt ks vs, live h m (.map pu kt ks vs)) : QPost K I J ρ h id w v (some x) V (w.alloc o) :=
  ⟨I, J, Lays.alloc I J w o, w.heap.size, len, Nat.le_refl _, by rw [alloc_size]; omega, fun o hi => absurd (H.ilt _ _ hi) (by omega), fun hj => absurd (H.jlt _ hj) (by omega), hv, hb, hm⟩
theorem box_post (H : Inv K Z I J ρ h w) {id t : Nat} {cs : List LV} {C : Array Value} (hid : ρ id = none) (hC : CellsR K I J w ρ cs C) :
    QPost K I J ρ h id w (.ptr id 0) (some (.cells cs t)) (.pointer (some ⟨w.heap.size, 0, none⟩)) (w.alloc (.cells C t (0, 0))) := by
  refine QPost.new (len := 0) H hid ?_ ⟨rfl, C, alloc_at _ _, hC.1, hC.2.1, fun i v V hv hV => (hC.2.2 i v V hv hV).lay (Lays.alloc I J w _) hid⟩ (fun m hm => by cases hm)
  exact .ptr _ id 0 w.heap.size 0 0 (upd_same _ _ _)
theorem row_post (H : Inv K Z I J ρ h w) {id s t : Nat} {pu mv : Bool} {es : List (List LV)} {C : Array Value} (hid : ρ id = none) (hs : 0 < s) (hw : ∀ (i : Nat) (el : List LV), es[i]? = some el → el.length = s)
    (hl : C.size = es.length * s) (hone : ∀ (i : Nat) (V : Value), C[i]? = some V → V.oneCell' = true)
    (hrel : ∀ (i k : Nat) (el : List LV) (c : LV) (V : Value), es[i]? = some el → el[k]? = some c → C[i * s + k]? = some V → VR K I J w (mapEnv pu ρ) c V) :
    QPost K I J ρ h id w (.row id s none) (some (.row pu mv es s t)) (.slice (some ⟨w.heap.size, 0, none⟩) es.length es.length) (w.alloc (.cells C t (0, 0))) := by
  refine QPost.new (len := es.length) H hid ?_ ⟨rfl, hs, hw, C, alloc_at _ _, by omega, hone, fun i k el c V hel hc hV => ?_⟩ (fun m hm => by cases hm)
  · exact .row _ id s w.heap.size 0 es.length es.length C.size t (upd_same _ _ _) (Nat.le_refl _) (shape_of (alloc_at _ _)) (by omega)
  · rw [Nat.zero_add] at hV
    have h1 := hrel i k el c V hel hc hV
    cases pu with
    | true => exact VR.lays h1 (Lays.alloc I J w _)
    | false => exact VR.lay h1 (Lays.alloc I J w _) hid
theorem sl_post (H : Inv K Z I J ρ h w) {id s t : Nat} {es : List (List LV)} {C : Array Value} (hs : 0 < s ∨ es = []) (hw : ∀ (i : Nat) (el : List LV), es[i]? = some el → el.length = s)
    (hl : C.size = es.length * s) (hone : ∀ (i : Nat) (V : Value), C[i]? = some V → V.oneCell' = true)
    (hrel : ∀ (i k : Nat) (el : List LV) (c : LV) (V : Value), es[i]? = some el → el[k]? = some c → C[i * s + k]? = some V → VR K I J w noEnv c V) :
    QPost K I J ρ h id w (.sl s (some false) true es) none (.slice (some ⟨w.heap.size, 0, none⟩) es.length es.length) (w.alloc (.cells C t (0, 0))) := by
  have L : Lays I (fun R o => I R o ∨ R = w.heap.size) J J w (w.alloc (.cells C t (0, 0))) :=
    ⟨ext_alloc _ _, fun R o h => .inl h, fun _ h => h, fun R o h => h.imp (fun x => x) (fun e => ⟨by omega, by rw [alloc_size]; omega⟩), fun _ h => .inl h⟩
  refine ⟨_, J, L, ?_⟩
  rcases Nat.eq_zero_or_pos es.length with he | he
  · have : es = [] := List.eq_nil_of_length_eq_zero he
    subst this
    exact .slemp _ _ _ _ _ _ (by simp) (by simp)
  · have hs0 : 0 < s := by
      rcases hs with h | h
      · exact h
      · subst h; simp at he
    refine .sl _ _ _ _ _ w.heap.size 0 es.length (fun i k => C[i * s + k]?.getD default) (by simp) (Nat.le_refl _) (fun _ => rfl) hs0 hw (fun i k hi hk => ?_) (fun i k e c hie hck => ?_)
    · have := mul_lt_of hi hk
      have hlt : i * s + k < C.size := by omega
      rw [Nat.zero_add]
      refine ⟨(cell_of (alloc_at _ _)).trans (by simp [hlt]), .inr rfl, ?_⟩
      have := hone (i * s + k) C[i * s + k] (by simp [hlt])
      simpa [hlt] using this
    · have hi := (List.getElem?_eq_some_iff.1 hie).1
      have hk := (List.getElem?_eq_some_iff.1 hck).1
      rw [hw i e hie] at hk
      have := mul_lt_of hi hk
      have hlt : i * s + k < C.size := by omega
      have h1 := hrel i k e c C[i * s + k] hie hck (by simp [hlt])
      have h2 := VR.lays h1 L
      simpa [hlt] using h2
theorem fold_set (off : Nat) : ∀ (l : List Value) (n : Nat) (C : Array Value),
    ((l.zipIdx n).foldl (fun cs (x : Value × Nat) => cs.setIfInBounds (off + x.2) x.1) C).size = C.size ∧
    ∀ j, j < C.size → ((l.zipIdx n).foldl (fun cs (x : Value × Nat) => cs.setIfInBounds (off + x.2) x.1) C)[j]? = if off + n ≤ j ∧ j < off + n + l.length then l[j - (off + n)]? else C[j]?
  | [], n, C => ⟨rfl, fun j hj => by rw [if_neg (by simp)]; rfl⟩
  | v :: l, n, C => by
    obtain ⟨h1, h2⟩ := fold_set off l (n + 1) (C.setIfInBounds (off + n) v)
    rw [List.zipIdx_cons, List.foldl_cons]
    refine ⟨by rw [h1]; simp, fun j hj => ?_⟩
    rw [h2 j (by simpa using hj)]
    simp only [List.length_cons]
    by_cases ha : j = off + n
    · subst ha
      rw [if_neg (by omega), if_pos (by omega), Array.getElem?_setIfInBounds_self_of_lt hj]
      simp
    · by_cases hb : off + (n + 1) ≤ j ∧ j < off + (n + 1) + l.length
      · rw [if_pos hb, if_pos (by omega), show j - (off + n) = (j - (off + (n + 1))) + 1 by omega]
        simp
      · rw [if_neg hb, if_neg (by omega), Array.getElem?_setIfInBounds_ne (by omega)]
theorem fold_arr (off : Nat) (A C : Array Value) : (A.zipIdx.foldl (fun cs (x : Value × Nat) => cs.setIfInBounds (off + x.2) x.1) C).size = C.size ∧
    ∀ j, j < C.size → (A.zipIdx.foldl (fun cs (x : Value × Nat) => cs.setIfInBounds (off + x.2) x.1) C)[j]? = if off ≤ j ∧ j < off + A.size then A[j - off]? else C[j]? := by
  obtain ⟨h1, h2⟩ := fold_set off A.toList 0 C
  rw [← Array.foldl_toList, Array.toList_zipIdx]
  refine ⟨h1, fun j hj => ?_⟩
  rw [h2 j hj]
  simp
theorem fill_step {place : Nat → Option (Nat × Nat)} {C : Array Value} {i off size : Nat} {V : Value} {rest : List (Nat × Value)} (hp : place i = some (off, size)) (hs : V.cells.size = size) (hl : off + size ≤ C.size) :
    Instr.fill place C ((i, V) :: rest) = Instr.fill place (V.cells.zipIdx.foldl (fun cs (x : Value × Nat) => cs.setIfInBounds (off + x.2) x.1) C) rest := by
  simp only [Instr.fill, hp]
  rw [if_neg (by simp [hs]; omega)]
theorem fill_rel {e : Operand → LV} {E : Operand → Value} (he : ∀ x, VR K I J w ρ (e x) (E x)) {place place' : Nat → Option (Nat × Nat)} (hp : ∀ i x, place i = some x → place' i = some x) :
    ∀ (l : List (Nat × Operand)) (cs ds : List LV) (C : Array Value), CellsR K I J w ρ cs C → fillL place cs (l.map fun (i, x) => (i, e x)) = some ds →
      ∃ D, Instr.fill place' C (l.map fun (i, x) => (i, E x)) = some D ∧ CellsR K I J w ρ ds D
  | [], cs, ds, C, hC, hf => by simp [fillL] at hf; subst hf; exact ⟨C, rfl, hC⟩
  | (i, x) :: l, cs, ds, C, hC, hf => by
    simp only [List.map_cons, fillL] at hf
    split at hf
    · rename_i off size ns h1 h2
      split at hf
      case isFalse => cases hf
      rename_i h3
      obtain ⟨cs', h4, h5⟩ := Option.bind_eq_some_iff.1 hf
      obtain ⟨h6, h7, h8⟩ := setAt_spec h4
      have hcr := cells_rel (he x) h2
      have hCs := hC.1
      have hns := hcr.1
      obtain ⟨h9, h10⟩ := fold_arr off (E x).cells C
      simp only [List.map_cons]
      rw [fill_step (hp _ _ h1) (by omega) (by omega)]
      refine fill_rel he hp l cs' ds _ ⟨by omega, fun j V hV => ?_, fun j v V hv hV => ?_⟩ h5
      · have hj := (Array.getElem?_eq_some_iff.1 hV).1
        rw [h10 j (by omega)] at hV
        split at hV
        · exact hcr.2.1 _ V hV
        · exact hC.2.1 j V hV
      · have hj := (Array.getElem?_eq_some_iff.1 hV).1
        rw [h10 j (by omega)] at hV
        rw [h8 j] at hv
        rw [← hns] at hV
        split at hV
        · rename_i hi; rw [if_pos hi] at hv; exact hcr.2.2 _ v V hv hV
        · rename_i hi; rw [if_neg hi] at hv; exact hC.2.2 j v V hv hV
    · cases hf
def ElemsR (K : Ctx) (I : CellP) (J : Nat → Prop) (w : World) (ρ : Env) (s : Nat) (es : List (List LV)) (C : Array Value) : Prop :=
  C.size = es.length * s ∧ (∀ (i : Nat) (el : List LV), es[i]? = some el → el.length = s) ∧ (∀ (i : Nat) (V : Value), C[i]? = some V → V.oneCell' = true) ∧
    ∀ (i k : Nat) (el : List LV) (c : LV) (V : Value), es[i]? = some el → el[k]? = some c → C[i * s + k]? = some V → VR K I J w ρ c V
theorem fillE_rel {e : Operand → LV} {E : Operand → Value} (he : ∀ x, VR K I J w ρ (e x) (E x)) {s : Nat} :
    ∀ (l : List (Nat × Operand)) (es ds : List (List LV)) (C : Array Value), ElemsR K I J w ρ s es C → fillE s es (l.map fun (i, x) => (i, e x)) = some ds →
      ∃ D, Instr.fill (fun i => some (i * s, s)) C (l.map fun (i, x) => (i, E x)) = some D ∧ ElemsR K I J w ρ s ds D ∧ ds.length = es.length
  | [], es, ds, C, hC, hf => by simp [fillE] at hf; subst hf; exact ⟨C, rfl, hC, rfl⟩
  | (i, x) :: l, es, ds, C, hC, hf => by
    simp only [List.map_cons, fillE] at hf
    split at hf
    · rename_i ns h2
      split at hf
      case isFalse => cases hf
      rename_i h3
      simp only [Bool.and_eq_true, decide_eq_true_eq] at h3
      obtain ⟨h3, hil⟩ := h3
      have hcr := cells_rel (he x) h2
      have hns := hcr.1
      obtain ⟨hs, hw, hone, hrel⟩ := hC
      have hmul : (i + 1) * s ≤ es.length * s := Nat.mul_le_mul_right s hil
      rw [Nat.add_mul] at hmul
      obtain ⟨h9, h10⟩ := fold_arr (i * s) (E x).cells C
      simp only [List.map_cons]
      rw [fill_step rfl (by omega) (by omega)]
      obtain ⟨D, h11, h12, h13⟩ := fillE_rel he l (es.set i ns) ds (Array.foldl (fun cs (x : Value × Nat) => cs.setIfInBounds (i * s + x.2) x.1) C (E x).cells.zipIdx) (by
        refine ⟨by rw [h9]; simp [hs], fun j el hel => ?_, fun j V hV => ?_, fun j k el c V hel hc hV => ?_⟩
        · rw [List.getElem?_set] at hel
          by_cases hij : i = j
          · subst hij; rw [if_pos rfl, if_pos hil] at hel; cases hel; exact h3
          · rw [if_neg hij] at hel; exact hw j el hel
        · have hj := (Array.getElem?_eq_some_iff.1 hV).1
          rw [h10 j (by omega)] at hV
          split at hV
          · exact hcr.2.1 _ V hV
          · exact hone j V hV
        · have hj := (Array.getElem?_eq_some_iff.1 hV).1
          rw [h10 _ (by omega)] at hV
          rw [List.getElem?_set] at hel
          by_cases hij : i = j
          · subst hij
            rw [if_pos rfl, if_pos hil] at hel
            cases hel
            have hkl := (List.getElem?_eq_some_iff.1 hc).1
            rw [if_pos (by omega), show i * s + k - i * s = k by omega] at hV
            exact hcr.2.2 k c V hc hV
          · rw [if_neg hij] at hel
            have hkl := (List.getElem?_eq_some_iff.1 hc).1
            rw [hw j el hel] at hkl
            have hnot : ¬ (i * s ≤ j * s + k ∧ j * s + k < i * s + (E x).cells.size) := by
              rintro ⟨h12, h13⟩
              rcases Nat.lt_or_gt_of_ne hij with hlt | hgt
              · have := Nat.mul_le_mul_right s hlt; rw [Nat.succ_mul] at this; omega
              · have := Nat.mul_le_mul_right s hgt; rw [Nat.succ_mul] at this; omega
            rw [if_neg hnot] at hV
            exact hrel j k el c V hel hc hV) hf
      exact ⟨D, h11, h12, by simpa using h13⟩
    · cases hf
theorem zeros_rel {zs : List LV} {Zc : Array Value} {s n : Nat} (hz : CellsR K I J w ρ zs Zc) (hs : Zc.size = s) :
    ElemsR K I J w ρ s (List.replicate n zs) ((Array.range (n * s)).map (fun i => Zc[i % Zc.size]!)) := by
  have get : ∀ i V, ((Array.range (n * s)).map (fun i => Zc[i % Zc.size]!))[i]? = some V → 0 < s ∧ i < n * s ∧ Zc[i % s]? = some V := by
    intro i V hV
    have hi := (Array.getElem?_eq_some_iff.1 hV).1
    simp only [Array.size_map, Array.size_range] at hi
    have hs0 : 0 < s := by
      rcases Nat.eq_zero_or_pos s with h | h
      · subst h; simp at hi
      · exact h
    have hm : i % s < Zc.size := by rw [hs]; exact Nat.mod_lt _ hs0
    refine ⟨hs0, hi, ?_⟩
    simp only [Array.getElem?_map, Array.getElem?_range, hi, if_true, Option.map_some, Option.some.injEq, hs] at hV
    rw [← hV]
    simp [hm]
  refine ⟨by simp, fun i el hel => ?_, fun i V hV => ?_, fun i k el c V hel hc hV => ?_⟩
  · rw [List.getElem?_replicate] at hel
    split at hel
    · cases hel; rw [hz.1, hs]
    · cases hel
  · obtain ⟨_, _, h1⟩ := get i V hV
    exact hz.2.1 _ V h1
  · rw [List.getElem?_replicate] at hel
    split at hel
    · cases hel
      obtain ⟨h0, h1, h2⟩ := get _ V hV
      have hk := (List.getElem?_eq_some_iff.1 hc).1
      rw [hz.1, hs] at hk
      rw [show (i * s + k) % s = k by rw [Nat.mul_comm, Nat.mul_add_mod]; exact Nat.mod_eq_of_lt hk] at h2
      exact hz.2.2 k c V hc h2
    · cases hel
end
end Go.LH


set_option linter.unusedVariables false
set_option linter.unusedSimpArgs false
namespace Go.LH
section
variable {K : Ctx} {P : Program} {Z : Nat → Prop} {I I' : CellP} {J J' : Nat → Prop} {w w' : World} {ρ ρ' : Env} {h h' : Heap}
theorem un_rel {op : UnOp} {x v : LV} {X : Value} (hv : unV op x = some v) (hX : VR K I J w ρ x X) : ∃ V, (Op.unary op X).run P w = .ok V w ∧ VR K I J w ρ v V := by
  unfold unV at hv
  split at hv
  · rename_i k n
    cases hX
    simp only [intOp, Option.some.injEq] at hv
    subst hv
    exact ⟨_, by simp [Op.unary, Op.intArith], .int _ _ _⟩
  · rename_i k n
    cases hX
    simp only [intOp, Option.some.injEq] at hv
    subst hv
    exact ⟨_, by simp [Op.unary, Op.intBits], .int _ _ _⟩
  · cases hX
    cases hv
    exact ⟨_, by simp [Op.unary], .bool _ _⟩
  · cases hv
theorem list_rel {e : Operand → LV} {E : Operand → Value} (he : ∀ x, VR K I J w ρ (e x) (E x)) (xs : Array Operand) :
    (xs.toList.map e).length = (xs.map E).size ∧ ∀ (i : Nat) (v : LV) (V : Value), (xs.toList.map e)[i]? = some v → (xs.map E)[i]? = some V → VR K I J w ρ v V := by
  refine ⟨by simp, fun i v V hv hV => ?_⟩
  simp only [List.getElem?_map, Option.map_eq_some_iff, Array.getElem?_map] at hv hV
  obtain ⟨x, hx, rfl⟩ := hv
  obtain ⟨y, hy, rfl⟩ := hV
  have : x = y := by
    rw [Array.getElem?_toList, hy] at hx
    cases hx; rfl
  subst this
  exact he x
theorem opt_rel {e : Operand → LV} {E : Operand → Value} (he : ∀ x, VR K I J w ρ (e x) (E x)) (o : Option Operand) : OptR K I J w ρ (o.map e) (o.map E) := by
  cases o with
  | none => trivial
  | some x => exact he x
theorem build_rel (F : Fits K P) {t : Nat} {parts : Array (Nat × Operand)} {e : Operand → LV} {E : Operand → Value} (he : ∀ x, VR K I J w ρ (e x) (E x)) {id : Nat} {v : LV} {ob : Option Blk} (hq : qop K id h e (.build t parts) = some (v, ob)) :
    ∃ V, (Instr.build t (parts.map fun (i, x) => (i, E x))).run P w = .ok V w ∧ VR K I J w ρ v V ∧ ob = none := by
  have hl : (parts.map fun (i, x) => (i, E x)).toList = parts.toList.map fun (i, x) => (i, E x) := by simp
  simp only [qop] at hq
  split at hq
  · rename_i fs hk
    cases hz : ((K.ti t).zok && fs.all fun f => K.has f.2) with
    | false => rw [hz] at hq; cases hq
    | true =>
      rw [hz] at hq
      simp only [Bool.not_true, cond_false] at hq
      simp only [Bool.and_eq_true, List.all_eq_true] at hz
      obtain ⟨cs, hcs, he'⟩ := Option.map_eq_some_iff.1 hq
      cases he'
      obtain ⟨Zv, h1, _, h3, h4, _⟩ := zero_rel (I := I) (J := J) (w := w) (ρ := ρ) F (F.has_of hk (by simp)) hz.1
      obtain ⟨fields, hu, hfs⟩ := F.struct hk
      have hpl : (fields.toList.mapM fun f => (P.info? f.type).map fun i => (f.offset, i.size)) = some (fields.toList.map fun f => (f.offset, (K.ti f.type).sz)) := by
        have : ∀ l : List Field, (∀ f ∈ l, K.has f.type = true) → (l.mapM fun f => (P.info? f.type).map fun i => (f.offset, i.size)) = some (l.map fun f => (f.offset, (K.ti f.type).sz)) := by
          intro l
          induction l with
          | nil => intro _; rfl
          | cons f l ih =>
            intro hl
            obtain ⟨i, h5, h6⟩ := F.has_info (hl f (by simp))
            have h7 : (K.ti f.type).sz = i.size := by rw [h6]
            rw [List.mapM_cons, ih (fun g hg => hl g (by simp [hg])), h5]
            simp [h7]
        refine this _ (fun f hf => ?_)
        have h5 := hz.2 (f.offset, f.type) (by rw [hfs]; exact List.mem_map.2 ⟨f, hf, rfl⟩)
        exact h5
      obtain ⟨D, h5, h6⟩ := fill_rel (K := K) he (place' := ((fields.toList.map fun f => (f.offset, (K.ti f.type).sz)).toArray[·]?)) (fun i x hx => by
        rw [hfs] at hx
        simp only [List.getElem?_map, Option.map_map] at hx
        simpa using hx) parts.toList _ cs _ h3 hcs
      refine ⟨.agg D, ?_, .agg _ _ _ h6.1 h6.2.1 h6.2.2, rfl⟩
      simp at h5
      simp [Instr.build, h1, run_underlying hu, Array.mapM_eq_mapM_toList, run_places w _ _ hpl, h5]
  · rename_i n et hk
    cases hz : ((K.ti t).zok && K.has et) with
    | false => rw [hz] at hq; cases hq
    | true =>
      rw [hz] at hq
      simp only [Bool.not_true, cond_false] at hq
      simp only [Bool.and_eq_true] at hz
      obtain ⟨cs, hcs, he'⟩ := Option.map_eq_some_iff.1 hq
      cases he'
      obtain ⟨Zv, h1, _, h3, h4, _⟩ := zero_rel (I := I) (J := J) (w := w) (ρ := ρ) F (F.has_of hk (by simp)) hz.1
      obtain ⟨D, h5, h6⟩ := fill_rel (K := K) he (place' := (fun i => some (i * (K.ti et).sz, (K.ti et).sz))) (fun i x hx => hx) parts.toList _ cs _ h3 hcs
      refine ⟨.agg D, ?_, .agg _ _ _ h6.1 h6.2.1 h6.2.2, rfl⟩
      simp at h5
      simp [Instr.build, h1, run_underlying (F.arr hk), run_sizeOf F hz.2, h5]
  · cases hq
theorem ElemsR.mono' {s : Nat} {es : List (List LV)} {C : Array Value} (hE : ElemsR K I J w ρ s es C) (hr : noRefs es = true) : ElemsR K I J w noEnv s es C := by
  refine ⟨hE.1, hE.2.1, hE.2.2.1, fun i k el c V hel hc hV => (hE.2.2.2 i k el c V hel hc hV).noRefs ?_⟩
  simp only [noRefs, List.all_eq_true, List.isEmpty_iff] at hr
  exact refsL_nil (hr el (List.mem_of_getElem? hel)) hc
theorem buildSlice_rel (F : Fits K P) (H : Inv K Z I J ρ h w) {t len : Nat} {parts : Array (Nat × Operand)} {e : Operand → LV} {E : Operand → Value} (he : ∀ x, VR K I J w ρ (e x) (E x)) {id : Nat} (hid : ρ id = none)
    {v : LV} {ob : Option Blk} (hq : qop K id h e (.buildSlice t len parts) = some (v, ob)) :
    ∃ V w', (Instr.buildSlice t len (parts.map fun (i, x) => (i, E x))).run P w = .ok V w' ∧ QPost K I J ρ h id w v ob V w' ∧
      (ob = none → ∀ blk, asRow K t v = some blk → QPost K I J ρ h id w (match blk with | .row _ _ _ s _ => .row id s none | _ => .un) (some blk) V w') := by
  have hl : (parts.map fun (i, x) => (i, E x)).toList = parts.toList.map fun (i, x) => (i, E x) := by simp
  simp only [qop] at hq
  split at hq
  case h_2 => cases hq
  rename_i et hk
  cases hc : (decide (len * (K.ti et).sz ≤ 16777216) && (K.ti et).zok && K.has et) with
  | false => rw [hc] at hq; cases hq
  | true =>
    rw [hc, cond_true] at hq
    simp only [Bool.and_eq_true, decide_eq_true_eq] at hc
    obtain ⟨⟨hlim, hz⟩, hh⟩ := hc
    split at hq
    case h_2 => cases hq
    rename_i es hes
    obtain ⟨Zv, h1, _, h3, h4, _⟩ := zero_rel (I := I) (J := J) (w := w) (ρ := ρ) F hh hz
    obtain ⟨D, h5, h6, h7⟩ := fillE_rel (K := K) he parts.toList _ es _ (zeros_rel (n := len) h3 h4) hes
    simp only [List.length_replicate] at h7
    have hrun : (Instr.buildSlice t len (parts.map fun (i, x) => (i, E x))).run P w = .ok (.slice (some ⟨w.heap.size, 0, none⟩) len len) (w.alloc (.cells D et (0, 0))) := by
      have hlim' : ¬ (len * (K.ti et).sz > 2 ^ 24) := by omega
      rw [← hl] at h5
      unfold Instr.buildSlice
      simp only [Sem.run_bind, run_underlying (F.slice hk), Result.andThen_ok, run_sizeOf F hh]
      rw [if_neg hlim']
      by_cases h0 : len * (K.ti et).sz = 0
      · have : ((Array.range (len * (K.ti et).sz)).map fun i => Zv.cells[i % Zv.cells.size]!) = ((Array.range (len * (K.ti et).sz)).map fun i => (#[] : Array Value)[i % (#[] : Array Value).size]!) := by rw [h0]; simp
        rw [this] at h5
        simp only [h0, if_true, Sem.run_pure, Result.andThen_ok, Sem.run_bind] at h5 ⊢
        rw [h5]
        simp [run_newRow]
      · simp only [if_neg h0, Sem.run_bind, h1, Result.andThen_ok, Sem.run_pure]
        rw [h5]
        simp [run_newRow]
    refine ⟨_, _, hrun, ?_⟩
    have hlen : len = es.length := h7.symm
    rw [hlen]
    cases hn : (noRefs es && (decide (0 < (K.ti et).sz) || es.isEmpty)) with
    | true =>
      rw [hn, cond_true] at hq
      simp only [Option.some.injEq, Prod.mk.injEq] at hq
      obtain ⟨rfl, rfl⟩ := hq
      simp only [Bool.and_eq_true, Bool.or_eq_true, decide_eq_true_eq, List.isEmpty_iff] at hn
      have h8 := h6.mono' hn.1
      refine ⟨sl_post H hn.2 h8.2.1 h8.1 h8.2.2.1 h8.2.2.2, fun _ blk hb => ?_⟩
      simp only [asRow, hk] at hb
      cases hs0 : decide (0 < (K.ti et).sz) with
      | false => rw [hs0] at hb; cases hb
      | true =>
        rw [hs0] at hb
        cases hb
        exact row_post H hid (by simpa using hs0) h8.2.1 h8.1 h8.2.2.1 (pu := true) h8.2.2.2
    | false =>
      rw [hn, cond_false] at hq
      cases hs0 : decide (0 < (K.ti et).sz) with
      | false => rw [hs0] at hq; cases hq
      | true =>
        rw [hs0, cond_true] at hq
        simp only [Option.some.injEq, Prod.mk.injEq] at hq
        obtain ⟨rfl, rfl⟩ := hq
        exact ⟨row_post H hid (by simpa using hs0) h6.2.1 h6.1 h6.2.2.1 (pu := false) h6.2.2.2, fun h => by cases h⟩
theorem len_rel (F : Fits K P) (H : Inv K Z I J ρ h w) {t n : Nat} {ts : Array Nat} {ty : Nat} {x : LV} {X : Value} (ht : ts[0]? = some t) (hn : lenOf K h t x = some n) (hX : VR K I J w ρ x X) :
    (Builtin.len_ ts ty #[X]).run P w = .ok (.int .i64 n) w := by
  unfold lenOf at hn
  unfold Builtin.len_
  simp only [ht, List.getElem?_toArray, List.getElem?_cons_zero]
  split at hn
  · rename_i e s nl ex es hk
    cases hn
    cases hX <;> simp [run_underlying (F.slice hk), goInt]
  · rename_i e b s hk
    split at hn
    · rename_i pu mv es s' e' hg
      cases hn
      cases hX with
      | row _ _ _ R base len cap Kc ty hb =>
        obtain ⟨hl, _⟩ := H.rel b R base len _ hb (live_getD hg)
        simp [run_underlying (F.slice hk), goInt, hl]
      | rowv _ _ _ A hb =>
        obtain ⟨pu', mv', s'', e'', hx, _⟩ := H.virt b _ hb (live_getD hg)
        cases hx
        simp [run_underlying (F.slice hk), goInt]
    · cases hn
  · rename_i e b s off n hk
    cases hn
    cases hX <;> simp [run_underlying (F.slice hk), goInt]
  · rename_i e b off s n hk
    cases hn
    cases hX <;> simp [run_underlying (F.slice hk), goInt]
  · rename_i s hk
    cases hc : decide ((K.ti t).eq = some [.s]) with
    | false => rw [hc] at hn; cases hn
    | true =>
      rw [hc] at hn
      cases hn
      have hkk : (K.ti t).k = .prim := by assumption
      have heq : eqKinds P 12 t = some [.s] := F.eq_of (by simpa using hc) (by rw [hkk]; simp)
      have hun : P.underlying t = some .string := by
        have h1 := F.tk (F.has_of hkk (by simp))
        rw [hkk] at h1
        unfold tkOf at h1
        simp only [eqKinds] at heq
        split at h1 <;> first | cases h1; done | skip
        all_goals (rename_i hu; simp [hu] at heq)
        exact hu
      cases hX
      simp [run_underlying hun, goInt]
  · rename_i k e hk
    cases hn
    cases hX
    simp [run_underlying (F.map hk), goInt]
  · rename_i k e kt ks vs hk
    cases hn
    cases hX with
    | pmap _ _ _ _ R es clock h1 h2 h3 =>
      have hobj : (getObj R).run P w = .ok (.map es clock) w := by simp [getObj, Sem.run, h2]
      simp [run_underlying (F.map hk), goInt, hobj, h3]
  · rename_i k e b hk
    split at hn
    · rename_i pu kt ks vs hg
      cases hn
      cases hX with
      | map _ _ R base len hb =>
        obtain ⟨es, clock, h1, h2, _⟩ := H.rel b R base len _ hb (live_getD hg)
        have hobj : (getObj R).run P w = .ok (.map es clock) w := by simp [getObj, Sem.run, h1]
        simp [run_underlying (F.map hk), goInt, hobj, h2]
    · cases hn
  · rename_i x' m e hk
    cases hn
    simp [run_underlying (F.arr hk), goInt]
  · rename_i x' a hk
    split at hn
    · rename_i m e hk'
      cases hn
      simp [run_underlying (F.ptr hk), run_underlying (F.arr hk'), goInt]
    · cases hn
  · cases hn
theorem fold_max_rel : ∀ (l : List Operand) {x v : LV} {X : Value} {e : Operand → LV} {E : Operand → Value} (he : ∀ x, VR K I J w ρ (e x) (E x)), foldO maxL x (l.map e) = some v → VR K I J w ρ x X →
    ∃ V, ((l.map E).foldlM Builtin.max2 X).run P w = .ok V w ∧ VR K I J w ρ v V
  | [], x, v, X, e, E, he, hf, hX => by simp [foldO] at hf; subst hf; exact ⟨X, by simp, hX⟩
  | y :: l, x, v, X, e, E, he, hf, hX => by
    simp only [List.map_cons, foldO] at hf
    obtain ⟨z, hz, hf⟩ := Option.bind_eq_some_iff.1 hf
    have hy := he y
    unfold maxL at hz
    split at hz
    · rename_i k a k' b h1
      cases hX
      rw [h1] at hy
      cases hz
      generalize E y = Y at hy
      obtain ⟨V, h2, h3⟩ := fold_max_rel l he hf (X := .int k (if b > a then b else a)) (by
        cases hd : decide (b > a) with
        | true => simp only [decide_eq_true_eq] at hd; simp only [hd, if_true, cond_true]; exact .int _ _ _
        | false => simp only [decide_eq_false_iff_not] at hd; simp only [hd, if_false, cond_false]; exact .int _ _ _)
      refine ⟨V, ?_, h3⟩
      have hEy : E y = .int k' b := by have := he y; rw [h1] at this; generalize E y = Y at this; cases this; rfl
      simp [List.foldlM_cons, Builtin.max2, hEy]
      simpa using h2
    · cases hz
theorem fold_min_rel : ∀ (l : List Operand) {x v : LV} {X : Value} {e : Operand → LV} {E : Operand → Value} (he : ∀ x, VR K I J w ρ (e x) (E x)), foldO minL x (l.map e) = some v → VR K I J w ρ x X →
    ∃ V, ((l.map E).foldlM Builtin.min2 X).run P w = .ok V w ∧ VR K I J w ρ v V
  | [], x, v, X, e, E, he, hf, hX => by simp [foldO] at hf; subst hf; exact ⟨X, by simp, hX⟩
  | y :: l, x, v, X, e, E, he, hf, hX => by
    simp only [List.map_cons, foldO] at hf
    obtain ⟨z, hz, hf⟩ := Option.bind_eq_some_iff.1 hf
    unfold minL at hz
    split at hz
    · rename_i k a k' b h1
      cases hX
      cases hz
      obtain ⟨V, h2, h3⟩ := fold_min_rel l he hf (X := .int k (if b < a then b else a)) (by
        cases hd : decide (b < a) with
        | true => simp only [decide_eq_true_eq] at hd; simp only [hd, if_true, cond_true]; exact .int _ _ _
        | false => simp only [decide_eq_false_iff_not] at hd; simp only [hd, if_false, cond_false]; exact .int _ _ _)
      refine ⟨V, ?_, h3⟩
      have hEy : E y = .int k' b := by have := he y; rw [h1] at this; generalize E y = Y at this; cases this; rfl
      simp [List.foldlM_cons, Builtin.min2, hEy]
      simpa using h2
    · cases hz
theorem tup2 {a b : LV} {A B : Value} (hA : VR K I J w ρ a A) (hB : VR K I J w ρ b B) : VR K I J w ρ (.tup [a, b]) (.tuple #[A, B]) := by
  refine .tup _ _ _ rfl (fun i v V hv hV => ?_)
  match i with
  | 0 => simp at hv hV; subst hv; subst hV; exact hA
  | 1 => simp at hv hV; subst hv; subst hV; exact hB
  | i + 2 => simp at hv
theorem born_inj {es : Array MapEntry} (hs : ∀ (i j : Nat) (e f : MapEntry), es[i]? = some e → es[j]? = some f → i < j → e.born < f.born) {i j : Nat} {e f : MapEntry}
    (hi : es[i]? = some e) (hj : es[j]? = some f) (hb : e.born = f.born) : i = j := by
  rcases Nat.lt_trichotomy i j with h | h | h
  · have := hs i j e f hi hj h; omega
  · exact h
  · have := hs j i f e hj hi h; omega
theorem entry_rel (H : Inv K Z I J ρ h w) {b : Nat} {k v : LV} {mb : Option Nat} {ks vs : List LV} {X : Value} (hg : h.getD b none = some (.iter mb ks vs (some (k, v)))) (hX : VR K I J w ρ (.ptr b 0) X) :
    ∃ V, (Instr.entry X).run P w = .ok V w ∧ VR K I J w ρ (.tup [k, v]) V := by
  cases hX with
  | ptr _ _ _ R base len hb =>
    obtain ⟨h0, m, since, seen, stepped, h1, h2⟩ := H.rel b R base len _ hb (live_getD hg)
    subst h0
    cases m with
    | none => obtain ⟨_, _, h3, _⟩ := h2; cases h3
    | some M =>
      obtain ⟨_, es, clock, h4, h5⟩ := h2
      obtain ⟨h6, h7, h8, h9, _, h10⟩ := h5
      obtain ⟨e, h11, ⟨i, h12⟩, h13, h14⟩ := h10 k v rfl
      have o1 : (getObj R).run P w = .ok (.mapIter (some M) since seen stepped) w := by simp [getObj, Sem.run, h1]
      have o2 : (getObj M).run P w = .ok (.map es clock) w := by simp [getObj, Sem.run, h4]
      have hfind : es.find? (fun x => x.born == e.born) = some e := by
        cases hf : es.find? (fun x => x.born == e.born) with
        | none =>
          rw [Array.find?_eq_none] at hf
          have := hf e (Array.mem_of_getElem? h12)
          simp at this
        | some f =>
          have hfb := Array.find?_some hf
          have hfm := Array.mem_of_find?_eq_some hf
          obtain ⟨j, hj⟩ := Array.getElem?_of_mem hfm
          have : i = j := born_inj h8 h12 hj (by simpa using (beq_iff_eq.1 hfb).symm)
          subst this
          rw [h12] at hj
          cases hj
          rfl
      refine ⟨_, ?_, tup2 (h13.up ρ) h14⟩
      simp only [Instr.entry, Sem.run_bind, Nat.add_zero, o1, Result.andThen_ok, h11, o2, hfind]
      simp [h7]
theorem range_rel (F : Fits K P) (H : Inv K Z I J ρ h w) {t id : Nat} {v : LV} {ob : Option Blk} {e : Operand → LV} {E : Operand → Value} {xo : Operand} (hid : ρ id = none) (he : ∀ x, VR K I J w ρ (e x) (E x))
    (hq : qop K id h e (.range t xo) = some (v, ob)) : ∃ V w', (Instr.range t (E xo)).run P w = .ok V w' ∧ QPost K I J ρ h id w v ob V w' := by
  have hX := he xo
  simp only [qop] at hq
  generalize e xo = x at hq hX
  generalize E xo = X at hX
  split at hq
  · rename_i kt et hk
    cases hq
    cases hX
    refine ⟨_, _, by simp [Instr.range, run_underlying (F.map hk)], QPost.new (len := 0) H hid (.ptr _ id 0 w.heap.size 0 0 (upd_same _ _ _)) ⟨rfl, none, 0, #[], 0, alloc_at _ _, rfl, rfl, rfl, rfl⟩ (fun m hm => by cases hm)⟩
  · rename_i kt et kt' ks vs hk
    cases hq
    cases hX with
    | pmap _ _ _ _ R es clock h1 h2 h3 h4 h5 h6 h7 h8 h9 =>
      have hobj : (getObj R).run P w = .ok (.map es clock) w := by simp [getObj, Sem.run, h2]
      refine ⟨_, _, by simp [Instr.range, run_underlying (F.map hk), hobj], QPost.new (len := 0) H hid (.ptr _ id 0 w.heap.size 0 0 (upd_same _ _ _))
        ⟨rfl, some R, clock, #[], clock, alloc_at _ _, h1, es, clock, (ext_alloc _ _).obj h2, rfl, rfl, h8, h9, ⟨es.toList, by simp, by simpa using h3, by simpa using h4, fun i k e a b => ?_, fun i v e a b => ?_⟩, fun k v hkv => by cases hkv⟩ (fun m hm => by cases hm)⟩
      · exact VR.lays (h6 i k e a (by simpa using b)) (Lays.alloc I J w _)
      · exact ((h7 i v e a (by simpa using b)).up ρ).lay (Lays.alloc I J w _) hid
  · rename_i kt et b hk
    split at hq
    · rename_i pu kt' ks vs hg
      cases hq
      cases hX with
      | map _ _ R base len hb =>
        obtain ⟨es, clock, h1, h2, h3, h4, h5, h6, h7, h8⟩ := H.rel b R base len _ hb (live_getD hg)
        have hobj : (getObj R).run P w = .ok (.map es clock) w := by simp [getObj, Sem.run, h1]
        have hbid : b ≠ id := fun e => by subst e; rw [hid] at hb; cases hb
        refine ⟨_, _, by simp [Instr.range, run_underlying (F.map hk), hobj], QPost.new (len := 0) H hid (.ptr _ id 0 w.heap.size 0 0 (upd_same _ _ _))
          ⟨rfl, some R, clock, #[], clock, alloc_at _ _, ⟨base, len, (upd_ne hbid).trans hb⟩, es, clock, (ext_alloc _ _).obj h1, rfl, rfl, h7, h8, ⟨es.toList, by simp, by simpa using h2, by simpa using h3, fun i k e a b => ?_, fun i v e a b => ?_⟩, fun k v hkv => by cases hkv⟩
          (fun m hm => by cases hm; exact ⟨pu, kt', ks, vs, live_getD hg⟩)⟩
        · exact VR.lays (h5 i k e a (by simpa using b)) (Lays.alloc I J w _)
        · have h9 := h6 i v e a (by simpa using b)
          cases pu with
          | true => exact (VR.up h9 ρ).lay (Lays.alloc I J w _) hid
          | false => exact VR.lay h9 (Lays.alloc I J w _) hid
    · cases hq
  · cases hq
theorem ex_v {s : Sem Value} {V : Value} (hs : s.run P w = .ok V w') : (do pure (Next.value (← s)) : Sem Next).run P w = .ok (.value V) w' := by
  simp [hs]
theorem call_value {c : Call} {b : Builtin} {ty : Nat} {E : Operand → Value} {s : Sem Value} {V : Value} (hc : c.callee = .builtin b)
    (hb : ∀ consts, builtin b c.argTypes ty consts (c.args.map E) = (do pure (Next.value (← s)))) (hs : s.run P w = .ok V w') :
    (do let d ← resolve E c ty; invoke d.target d.args : Sem Next).run P w = .ok (.value V) w' := by
  simp only [resolve, hc, Sem.run_bind, Sem.run_pure, Result.andThen_ok, invoke, hb]
  simp [hs]
theorem map_list (xs : Array Operand) (E : Operand → Value) (l : List Operand) (h : xs.toList = l) : xs.map E = (l.map E).toArray := by
  subst h
  apply Array.ext'
  simp
theorem qop_rel (F : Fits K P) (H : Inv K Z I J ρ h w) {id : Nat} (hid : ρ id = none) {o : Oper} {e : Operand → LV} {E : Operand → Value} (he : ∀ x, VR K I J w ρ (e x) (E x)) {v : LV} {ob : Option Blk}
    (hq : qop K id h e o.op = some (v, ob)) : ∃ V w', (execOp E o).run P w = .ok (.value V) w' ∧ QPost K I J ρ h id w v ob V w' := by
  have fin : ∀ {s : Sem Value} {x : Option LV}, x.map (fun v => (v, (none : Option Blk))) = some (v, ob) → (∀ u, x = some u → ∃ V, s.run P w = .ok V w ∧ VR K I J w ρ u V) →
      ∃ V w', (do pure (Next.value (← s)) : Sem Next).run P w = .ok (.value V) w' ∧ QPost K I J ρ h id w v ob V w' := by
    intro s x hx hs
    obtain ⟨u, hu, h1⟩ := Option.map_eq_some_iff.1 hx
    cases h1
    obtain ⟨V, h2, h3⟩ := hs v hu
    exact ⟨V, w, ex_v h2, QPost.pure h3⟩
  cases hop : o.op with
  | move x =>
    rw [hop] at hq; simp only [qop, Option.some.injEq, Prod.mk.injEq] at hq; obtain ⟨rfl, rfl⟩ := hq
    exact ⟨_, w, by simp [execOp, hop], QPost.pure (he x)⟩
  | assign x =>
    rw [hop] at hq; simp only [qop, Option.some.injEq, Prod.mk.injEq] at hq; obtain ⟨rfl, rfl⟩ := hq
    exact ⟨_, w, by simp [execOp, hop], QPost.pure (he x)⟩
  | pick c a b =>
    rw [hop] at hq; simp only [qop] at hq
    have hc := he c
    split at hq
    · rename_i t ht
      cases hq
      rw [ht] at hc
      generalize hEc : E c = Ec at hc
      cases hc
      refine ⟨_, w, by simp [execOp, hop, hEc, asBool]; rfl, QPost.pure ?_⟩
      have ha := he a
      have hb := he b
      unfold pickV
      split
      · rename_i p q hp hq
        rw [hp] at ha
        rw [hq] at hb
        cases t with
        | true => simpa using ha
        | false => simpa using hb
      · cases t with
        | true => simpa using ha
        | false => simpa using hb
    · cases hq
  | alloc t =>
    rw [hop] at hq; simp only [qop] at hq
    cases hc : ((K.ti t).zok && K.has t) with
    | false => rw [hc] at hq; cases hq
    | true =>
      rw [hc] at hq; simp only [cond_true, Option.some.injEq, Prod.mk.injEq] at hq; obtain ⟨rfl, rfl⟩ := hq
      simp only [Bool.and_eq_true] at hc
      obtain ⟨Zv, h1, _, h3, _⟩ := zero_rel (I := I) (J := J) (w := w) (ρ := ρ) F hc.2 hc.1
      refine ⟨_, _, ?_, box_post (t := t) H hid h3⟩
      simp [execOp, hop, Instr.alloc, h1, newVar, run_newRow]
  | box t x =>
    rw [hop] at hq; simp only [qop] at hq
    split at hq
    · rename_i cs hcs
      cases hq
      refine ⟨_, _, ?_, box_post (t := t) H hid (cells_rel (he x) hcs)⟩
      simp [execOp, hop, Instr.box, newVar, run_newRow]
    · cases hq
  | build t parts =>
    rw [hop] at hq
    obtain ⟨V, h1, h2, rfl⟩ := build_rel (P := P) (w := w) F he hq
    exact ⟨V, w, by simp only [execOp, hop]; exact ex_v h1, QPost.pure h2⟩
  | buildSlice t len parts =>
    rw [hop] at hq
    obtain ⟨V, w', h1, h2, _⟩ := buildSlice_rel F H he hid hq
    exact ⟨V, w', by simp only [execOp, hop]; exact ex_v h1, h2⟩
  | load t a =>
    rw [hop] at hq; simp only [qop] at hq
    simp only [execOp, hop]
    exact fin hq (fun u hu => load_rel F H hu (he a))
  | nilCheck x =>
    rw [hop] at hq; simp only [qop] at hq
    have hx := he x
    split at hq <;> first | cases hq; done | skip
    all_goals
      rename_i hxe
      cases hq
      rw [hxe] at hx
      generalize hE : E x = X at hx
      have hx0 := hx
      cases hx
      simp only [execOp, hop, hE]
    · exact ⟨_, w, rfl, QPost.pure hx0⟩
    · exact ⟨_, w, rfl, QPost.pure hx0⟩
    · exact ⟨_, w, rfl, QPost.pure hx0⟩
    · rename_i f' A B hf h1 h2 h3 h4
      cases hf
      exact ⟨_, w, rfl, QPost.pure hx0⟩
  | binOp op t x y xx =>
    rw [hop] at hq; simp only [qop] at hq
    simp only [execOp, hop]
    exact fin hq (fun u hu => bin_rel F x y hu (he x) (he y))
  | unOp op t x =>
    rw [hop] at hq; simp only [qop] at hq
    simp only [execOp, hop]
    exact fin hq (fun u hu => un_rel hu (he x))
  | convert src dst x =>
    rw [hop] at hq; simp only [qop] at hq
    have hx := he x
    split at hq
    · rename_i k k' n hk hxe
      cases hc : (K.has src && K.has dst) with
      | false => rw [hc] at hq; cases hq
      | true =>
        rw [hc] at hq; simp only [cond_true, Option.some.injEq, Prod.mk.injEq] at hq; obtain ⟨rfl, rfl⟩ := hq
        simp only [Bool.and_eq_true] at hc
        rw [hxe] at hx
        generalize hE : E x = X at hx
        cases hx
        obtain ⟨d, hd⟩ := F.has_un hc.1
        refine ⟨_, w, ?_, QPost.pure (.int _ _ _)⟩
        simp [execOp, hop, hE, convert, run_underlying hd, run_underlying (F.int hc.2 hk), Conv.intToInt]
    · cases hq
  | makeInterface t x =>
    rw [hop] at hq; simp only [qop] at hq
    cases hc : (K.has t && (K.ti t).k != .iface) with
    | false => rw [hc] at hq; cases hq
    | true =>
      rw [hc] at hq; simp only [cond_true, Option.some.injEq, Prod.mk.injEq] at hq; obtain ⟨rfl, rfl⟩ := hq
      simp only [Bool.and_eq_true, bne_iff_ne, ne_eq] at hc
      obtain ⟨d, hd, hni⟩ := F.noIface hc.1 hc.2
      refine ⟨_, w, ?_, QPost.pure (.ifc _ _ _ _ (he x))⟩
      simp only [execOp, hop, Instr.makeInterface, Sem.run_bind, run_underlying hd, Result.andThen_ok]
      cases d <;> first | (exact absurd rfl (hni _)) | simp
  | makeFunc f first caps =>
    rw [hop] at hq; simp only [qop] at hq
    split at hq
    · cases hq
      obtain ⟨a1, a2⟩ := list_rel he first
      obtain ⟨b1, b2⟩ := list_rel he caps
      exact ⟨_, w, by simp [execOp, hop, Instr.makeFunc], QPost.pure (.fn _ _ _ _ _ _ _ (.func _) a1 b1 a2 b2)⟩
    · cases hq
  | makeMap t r =>
    rw [hop] at hq
    cases r with
    | some r => simp [qop] at hq
    | none =>
      simp only [qop] at hq
      split at hq
      · rename_i kt et hk
        cases hq
        refine ⟨_, _, by simp [execOp, hop, Instr.makeMap], QPost.new (len := 0) H hid (.map _ id w.heap.size 0 0 (upd_same _ _ _)) ⟨#[], 0, alloc_at _ _, rfl, rfl, ?_, ?_, ?_, ?_, ?_⟩ (fun m hm => by cases hm)⟩
        all_goals simp
      · cases hq
  | makeSlice t l c =>
    rw [hop] at hq; simp only [qop] at hq
    have hl := he l
    have hcc := he c
    split at hq
    · rename_i et k n k' m hk hle hce
      cases hc : (decide (0 ≤ n) && n == m && decide (n ≤ 1048576) && decide ((K.ti et).by_ ≤ 65536) && (K.ti et).zok && K.has et && decide (0 < (K.ti et).sz)) with
      | false => rw [hc] at hq; cases hq
      | true =>
        rw [hc] at hq; simp only [cond_true, Option.some.injEq, Prod.mk.injEq] at hq; obtain ⟨rfl, rfl⟩ := hq
        simp only [Bool.and_eq_true, decide_eq_true_eq, beq_iff_eq] at hc
        obtain ⟨⟨⟨⟨⟨⟨h0, rfl⟩, hlim⟩, hby⟩, hz⟩, hh⟩, hs0⟩ := hc
        rw [hle] at hl
        rw [hce] at hcc
        generalize hE : E l = X at hl
        generalize hE' : E c = X' at hcc
        cases hl
        cases hcc
        obtain ⟨Zv, h1, _, h3, h4, _⟩ := zero_rel (I := I) (J := J) (w := w) (ρ := noEnv) F hh hz
        obtain ⟨i, hi1, hi2⟩ := F.has_info hh
        have hsz : (K.ti et).sz = i.size := by rw [hi2]
        have hbi : (K.ti et).by_ = i.bytes := by rw [hi2]
        have hiz : i.zero = some Zv := by
          cases hzz : i.zero with
          | none => rw [hi2] at hz; simp [zokOf, hzz] at hz
          | some Z' => simp [zeroValue, typeInfo, hi1, hzz] at h1; rw [h1]
        have hb2 : (i.bytes : Int) * n ≤ 281474976710656 := by
          have h5 : (i.bytes : Int) ≤ 65536 := by omega
          have h6 : (i.bytes : Int) * n ≤ 65536 * 1048576 := Int.mul_le_mul h5 hlim h0 (by decide)
          omega
        have hrun := run_make w t et i Zv (F.slice hk) hi1 hiz k k' n n h0 (Int.le_refl _) hb2 (by omega)
        have hE3 := zeros_rel (n := n.toNat) h3 h4
        have h7 := row_post (K := K) (I := I) (J := J) (t := et) (pu := true) (mv := true) H hid hs0 hE3.2.1 hE3.1 hE3.2.2.1 (fun i k el c V a b d => hE3.2.2.2 i k el c V a b d)
        refine ⟨_, _, by simp only [execOp, hop, hE, hE']; exact ex_v hrun, ?_⟩
        simp only [List.length_replicate] at h7
        rw [hsz] at h7 ⊢
        exact h7
    · cases hq
  | slice t x lo hi mx =>
    rw [hop] at hq; simp only [qop] at hq
    simp only [execOp, hop]
    exact fin hq (fun u hu => slice_rel F H hu (he x) (opt_rel he lo) (opt_rel he hi) (opt_rel he mx))
  | fieldAddr t x f =>
    rw [hop] at hq; simp only [qop] at hq
    simp only [execOp, hop]
    split at hq
    · rename_i fs hk
      split at hq
      · rename_i off ft hf
        cases hc : (decide (0 < (K.ti ft).sz) && K.has ft) with
        | false => rw [hc] at hq; cases hq
        | true =>
          rw [hc, cond_true] at hq
          simp only [Bool.and_eq_true, decide_eq_true_eq] at hc
          exact fin hq (fun u hu => fieldAddr_rel F hk hf hc.1 hc.2 hu (he x))
      · cases hq
    · cases hq
  | field t x f =>
    rw [hop] at hq; simp only [qop] at hq
    simp only [execOp, hop]
    exact fin hq (fun u hu => field_rel F hu (he x))
  | indexAddr t x ix =>
    rw [hop] at hq; simp only [qop] at hq
    simp only [execOp, hop]
    exact fin hq (fun u hu => indexAddr_rel F H hu (he x) (he ix))
  | index t x ix =>
    rw [hop] at hq; simp only [qop] at hq
    simp only [execOp, hop]
    exact fin hq (fun u hu => index_rel F hu (he x) (he ix))
  | lookup t x ix ok =>
    rw [hop] at hq; simp only [qop] at hq
    simp only [execOp, hop]
    exact fin hq (fun u hu => lookup_rel F H hu (he x) (he ix))
  | entry x =>
    rw [hop] at hq; simp only [qop] at hq
    simp only [execOp, hop]
    have hx := he x
    split at hq
    · rename_i b hxe
      split at hq
      · rename_i k u hg
        cases hq
        rw [hxe] at hx
        obtain ⟨V, h1, h2⟩ := entry_rel (P := P) H hg hx
        exact ⟨V, w, ex_v h1, QPost.pure h2⟩
      · cases hq
    · cases hq
  | extract x i =>
    rw [hop] at hq; simp only [qop] at hq
    simp only [execOp, hop]
    have hx := he x
    split at hq
    · rename_i vs hxe
      rw [hxe] at hx
      refine fin hq (fun u hu => ?_)
      generalize E x = X at hx ⊢
      cases hx with
      | tup _ _ C h1 h2 =>
        have hl := (List.getElem?_eq_some_iff.1 hu).1
        have hl' : i < C.size := by omega
        exact ⟨C[i], by simp [Instr.extract, hl'], h2 i u C[i] hu (by simp [hl'])⟩
    · cases hq
  | range t x =>
    rw [hop] at hq
    obtain ⟨V, w', h1, h2⟩ := range_rel F H hid he hq
    exact ⟨V, w', by simp only [execOp, hop]; exact ex_v h1, h2⟩
  | call c =>
    rw [hop] at hq; simp only [qop] at hq
    simp only [execOp, hop]
    split at hq
    · rename_i x hc hargs
      have hX : ∃ xo, c.args.toList = [xo] ∧ e xo = x := by
        cases hl : c.args.toList with
        | nil => rw [hl] at hargs; cases hargs
        | cons a l => cases l with
          | nil => rw [hl] at hargs; simp at hargs; exact ⟨a, rfl, hargs⟩
          | cons b l => rw [hl] at hargs; simp at hargs
      obtain ⟨xo, hxo, rfl⟩ := hX
      split at hq
      · rename_i t ht
        obtain ⟨n, hn, h1⟩ := Option.map_eq_some_iff.1 hq
        cases h1
        have h2 := len_rel (P := P) (w := w) (ty := o.type) F H ht hn (he xo)
        refine ⟨_, w, call_value hc (s := Builtin.len_ c.argTypes o.type #[E xo]) (fun consts => ?_) h2, QPost.pure (.int _ _ _)⟩
        rw [map_list _ _ _ hxo]
        rfl
      · cases hq
    · rename_i x r hc hargs
      obtain ⟨xo, l, hxo, rfl, rfl⟩ : ∃ xo l, c.args.toList = xo :: l ∧ e xo = x ∧ l.map e = r := by
        cases hl : c.args.toList with
        | nil => rw [hl] at hargs; cases hargs
        | cons a l => rw [hl] at hargs; simp at hargs; exact ⟨a, l, rfl, hargs.1, hargs.2⟩
      obtain ⟨u, hu, h1⟩ := Option.map_eq_some_iff.1 hq
      cases h1
      obtain ⟨V, h2, h3⟩ := fold_max_rel (P := P) (w := w) l he hu (he xo)
      refine ⟨V, w, call_value hc (s := (l.map E).foldlM Builtin.max2 (E xo)) (fun consts => ?_) h2, QPost.pure h3⟩
      rw [map_list _ _ _ hxo]
      rfl
    · rename_i x r hc hargs
      obtain ⟨xo, l, hxo, rfl, rfl⟩ : ∃ xo l, c.args.toList = xo :: l ∧ e xo = x ∧ l.map e = r := by
        cases hl : c.args.toList with
        | nil => rw [hl] at hargs; cases hargs
        | cons a l => rw [hl] at hargs; simp at hargs; exact ⟨a, l, rfl, hargs.1, hargs.2⟩
      obtain ⟨u, hu, h1⟩ := Option.map_eq_some_iff.1 hq
      cases h1
      obtain ⟨V, h2, h3⟩ := fold_min_rel (P := P) (w := w) l he hu (he xo)
      refine ⟨V, w, call_value hc (s := (l.map E).foldlM Builtin.min2 (E xo)) (fun consts => ?_) h2, QPost.pure h3⟩
      rw [map_list _ _ _ hxo]
      rfl
    · cases hq
  | _ => rw [hop] at hq; simp [qop] at hq
end
end Go.LH


set_option linter.unusedVariables false
set_option linter.unusedSimpArgs false
namespace Go.LH
def isLoop : Option Blk → Bool
  | some (.loop _ _ _ _ _ _ _) => true
  | _ => false
def kd (x : Option Blk) : Bool × Bool := (isRow x, isLoop x)
theorem kd_row {x y : Option Blk} (h : kd x = kd y) : isRow x = isRow y := congrArg Prod.fst h
def shapeLe (x y : Option Blk) : Prop := (x = none → y = none) ∧ (y = none ∨ (kd x = kd y ∧ (moved x = true → moved y = true)))
theorem shapeLe.loop {x y : Option Blk} (h : shapeLe x y) (hy : isLoop y = true) : isLoop x = true := by
  rcases h.2 with rfl | ⟨h1, _⟩
  · cases hy
  · rw [show isLoop x = isLoop y from congrArg Prod.snd h1]; exact hy
structure Stab (h : Heap) (ρ : Env) (h' : Heap) (ρ' : Env) : Prop where
  len : h.length ≤ h'.length
  le : ∀ b, b < h.length → shapeLe (h.getD b none) (h'.getD b none)
  env : ∀ b, b < h.length → ρ' b = ρ b ∨ moved (h'.getD b none) = true ∨ (h'.getD b none = none ∧ isRow (h.getD b none) = true)
theorem shapeLe.refl (x : Option Blk) : shapeLe x x := ⟨fun h => h, .inr ⟨rfl, fun h => h⟩⟩
theorem shapeLe.trans {x y z : Option Blk} (h : shapeLe x y) (k : shapeLe y z) : shapeLe x z := by
  refine ⟨fun e => k.1 (h.1 e), ?_⟩
  rcases k.2 with e | ⟨k1, k2⟩
  · exact .inl e
  · rcases h.2 with e | ⟨h1, h2⟩
    · exact .inl (k.1 e)
    · exact .inr ⟨h1.trans k1, fun m => k2 (h2 m)⟩
theorem moved_isRow {x : Option Blk} (h : moved x = true) : isRow x = true := by
  cases x with
  | none => cases h
  | some b => cases b <;> first | rfl | cases h
theorem Stab.refl (h : Heap) (ρ : Env) : Stab h ρ h ρ := ⟨Nat.le_refl _, fun _ _ => shapeLe.refl _, fun _ _ => .inl rfl⟩
theorem Stab.trans {a b c : Heap} {ρ ρ' ρ'' : Env} (h : Stab a ρ b ρ') (k : Stab b ρ' c ρ'') : Stab a ρ c ρ'' := by
  refine ⟨Nat.le_trans h.len k.len, fun i hi => (h.le i hi).trans (k.le i (Nat.lt_of_lt_of_le hi h.len)), fun i hi => ?_⟩
  have hb := Nat.lt_of_lt_of_le hi h.len
  have kl := k.le i hb
  have hl := h.le i hi
  rcases k.env i hb with e | e | ⟨e1, e2⟩
  · rcases h.env i hi with e' | e' | ⟨e1', e2'⟩
    · exact .inl (e.trans e')
    · rcases kl.2 with n | ⟨n1, n2⟩
      · refine .inr (.inr ⟨n, ?_⟩)
        rcases hl.2 with m | ⟨m1, _⟩
        · rw [m] at e'; cases e'
        · rw [kd_row m1]; exact moved_isRow e'
      · exact .inr (.inl (n2 e'))
    · exact .inr (.inr ⟨kl.1 e1', e2'⟩)
  · exact .inr (.inl e)
  · rcases hl.2 with m | ⟨m1, _⟩
    · rw [m] at e2; cases e2
    · exact .inr (.inr ⟨e1, by rw [kd_row m1]; exact e2⟩)
theorem Stab.same {h h' : Heap} {ρ : Env} (hl : h.length ≤ h'.length) (hs : ∀ b, b < h.length → shapeLe (h.getD b none) (h'.getD b none)) : Stab h ρ h' ρ :=
  ⟨hl, hs, fun _ _ => .inl rfl⟩
theorem getD_live {h : Heap} {b : Nat} {x : Blk} (e : live h b x) : h.getD b none = some x := by
  unfold live at e
  rw [List.getD_eq_getElem?_getD, e]; rfl
theorem Stab.set {h : Heap} {ρ : Env} {b : Nat} {x y : Blk} (hx : live h b x) (hr : kd (some x) = kd (some y)) (hm : moved (some x) = true → moved (some y) = true) : Stab h ρ (h.set b (some y)) ρ := by
  refine Stab.same (by simp) (fun c hc => ?_)
  by_cases e : c = b
  · subst e
    rw [getD_live hx, getD_live (live_set_self y hx)]
    exact ⟨fun h => (by cases h), .inr ⟨hr, hm⟩⟩
  · rw [List.getD_eq_getElem?_getD, List.getD_eq_getElem?_getD, List.getElem?_set_ne (Ne.symm e)]
    exact shapeLe.refl _
theorem Stab.append {h : Heap} {ρ ρ' : Env} (l : Heap) (hρ : ∀ b, b < h.length → ρ' b = ρ b) : Stab h ρ (h ++ l) ρ' := by
  refine ⟨by simp, fun c hc => ?_, fun b hb => .inl (hρ b hb)⟩
  rw [List.getD_eq_getElem?_getD, List.getD_eq_getElem?_getD, List.getElem?_append_left hc]
  exact shapeLe.refl _
theorem dropIters_at (b : Nat) (h : Heap) (c : Nat) : (dropIters b h).getD c none = (match h.getD c none with
    | some (.iter (some b') ks vs l) => bif b == b' then none else some (.iter (some b') ks vs l)
    | x => x) := by
  unfold dropIters
  simp only [List.getD_eq_getElem?_getD, List.getElem?_map]
  cases h[c]? with
  | none => rfl
  | some x => rfl
theorem dropIters_live {b : Nat} {h : Heap} {c : Nat} {x : Blk} (e : live (dropIters b h) c x) : live h c x ∧ x.iterOf ≠ some b := by
  have h1 := getD_live e
  rw [dropIters_at] at h1
  split at h1
  · rename_i b' ks vs l hg
    cases hb : b == b' with
    | true => rw [hb] at h1; cases h1
    | false => rw [hb] at h1; cases h1; exact ⟨live_getD hg, fun e => by simp [Blk.iterOf] at e; subst e; simp at hb⟩
  · rename_i hn
    refine ⟨live_getD h1, fun e => ?_⟩
    cases x with
    | iter mb ks vs l => simp only [Blk.iterOf] at e; subst e; exact hn _ _ _ _ h1
    | _ => simp [Blk.iterOf] at e
theorem live_dropIters {b : Nat} {h : Heap} {c : Nat} {x : Blk} (e : live h c x) (hn : x.iterOf ≠ some b) : live (dropIters b h) c x := by
  apply live_getD
  rw [dropIters_at, getD_live e]
  cases x with
  | iter mb ks vs l =>
    cases mb with
    | none => rfl
    | some b' =>
      simp only [Blk.iterOf, ne_eq, Option.some.injEq] at hn
      have : (b == b') = false := by simp; exact fun e => hn e.symm
      simp [this]
  | _ => rfl
theorem Stab.dropIters {h : Heap} {ρ : Env} (b : Nat) : Stab h ρ (dropIters b h) ρ := by
  refine Stab.same (by simp [Go.LH.dropIters]) (fun c hc => ?_)
  rw [dropIters_at]
  split
  · rename_i b' ks vs l hg
    cases hb : b == b' with
    | true => exact ⟨fun _ => rfl, .inl rfl⟩
    | false => rw [hg]; exact shapeLe.refl _
  · exact shapeLe.refl _
section
variable {K : Ctx} {P : Program} {Z : Nat → Prop} {I I' : CellP} {J J' : Nat → Prop} {w w' : World} {ρ ρ' : Env} {h h' : Heap}
theorem strEq_same {a b : ByteArray} (h : strEq a b = true) : a = b := by
  unfold strEq at h
  cases a with | mk a => cases b with | mk b =>
  rw [beq_iff_eq] at h
  exact congrArg _ (Array.toList_inj.1 h)
theorem scEq_same {x y : LV} {k : EK} {X Y : Value} {ρ₁ ρ₂ : Env} (hx : ekOf x = some k) (hy : ekOf y = some k) (he : scEq x y = true) (hX : VR K I J w ρ₁ x X) (hY : VR K I J w ρ₂ y Y) : X = Y := by
  cases x <;> simp [ekOf] at hx <;> subst hx <;> cases y <;> simp [ekOf] at hy <;> cases hX <;> cases hY <;> simp [scEq] at he
  · rw [he]
  · rw [he, hy]
  · exact congrArg _ (strEq_same he)
theorem eqC_same : ∀ {xs ys : List LV} {ks : List EK} {C D : Array Value} {ρ₁ ρ₂ : Env}, kindsOk xs ks = true → kindsOk ys ks = true → eqC xs ys = true → ∀ (o : Nat), xs.length + o = C.size → ys.length + o = D.size →
    (∀ i v V, xs[i]? = some v → C[o + i]? = some V → VR K I J w ρ₁ v V) → (∀ i v V, ys[i]? = some v → D[o + i]? = some V → VR K I J w ρ₂ v V) → ∀ i, o ≤ i → C[i]? = D[i]?
  | [], ys, ks, C, D, _, _, hx, hy, he, o, h1, h2, _, _ => by
    intro i hi
    cases ys with
    | nil => simp at h1 h2; rw [Array.getElem?_eq_none (by omega), Array.getElem?_eq_none (by omega)]
    | cons y ys => simp [eqC] at he
  | x :: xs, [], ks, C, D, _, _, hx, hy, he, o, h1, h2, _, _ => by simp [eqC] at he
  | x :: xs, y :: ys, [], C, D, _, _, hx, hy, he, o, h1, h2, _, _ => by simp [kindsOk] at hx
  | x :: xs, y :: ys, k :: ks, C, D, ρ₁, ρ₂, hx, hy, he, o, h1, h2, h3, h4 => by
    simp only [kindsOk, Bool.and_eq_true, beq_iff_eq] at hx hy
    simp only [eqC, Bool.and_eq_true] at he
    simp only [List.length_cons] at h1 h2
    intro i hi
    by_cases e : i = o
    · subst e
      have l1 : i < C.size := by omega
      have l2 : i < D.size := by omega
      rw [Array.getElem?_eq_getElem l1, Array.getElem?_eq_getElem l2]
      exact congrArg some (scEq_same hx.1 hy.1 he.1 (h3 0 x _ (by simp) (by simp [l1])) (h4 0 y _ (by simp) (by simp [l2])))
    · exact eqC_same hx.2 hy.2 he.2 (o + 1) (by omega) (by omega) (fun j v V hv hV => h3 (j + 1) v V (by simpa using hv) (by rw [show o + (j + 1) = o + 1 + j by omega]; exact hV))
        (fun j v V hv hV => h4 (j + 1) v V (by simpa using hv) (by rw [show o + (j + 1) = o + 1 + j by omega]; exact hV)) i (by omega)
theorem key_same {t : Nat} {x y : LV} {X Y : Value} {ρ₁ ρ₂ : Env} (hx : keyOk K t x = true) (hy : keyOk K t y = true) (he : keyEq x y = true) (hX : VR K I J w ρ₁ x X) (hY : VR K I J w ρ₂ y Y) : X = Y := by
  obtain ⟨ks, h1, hx'⟩ := keyOk_inv hx
  obtain ⟨ks', h1', hy'⟩ := keyOk_inv hy
  rw [h1] at h1'
  cases h1'
  rcases hx' with ⟨hk, hx'⟩ | ⟨fs, cs, hk, rfl, hx'⟩
  · rcases hy' with ⟨_, hy'⟩ | ⟨fs, cs, hk', _⟩
    · cases ks with
      | nil => simp [kindsOk] at hx'
      | cons k ks =>
        simp only [kindsOk, Bool.and_eq_true, beq_iff_eq] at hx' hy'
        have : scEq x y = true := by
          cases x <;> simp [ekOf] at hx' <;> simpa [keyEq] using he
        exact scEq_same hx'.1 hy'.1 this hX hY
    · rw [hk] at hk'; cases hk'
  · rcases hy' with ⟨hk', _⟩ | ⟨fs', ds, _, rfl, hy'⟩
    · rw [hk] at hk'; cases hk'
    · cases hX with
      | agg _ _ C a1 a2 a3 =>
        cases hY with
        | agg _ _ D b1 b2 b3 =>
          have := eqC_same hx' hy' (by simpa [keyEq] using he) 0 (by simpa using a1) (by simpa using b1) (fun i v V hv hV => a3 i v V hv (by simpa using hV)) (fun i v V hv hV => b3 i v V hv (by simpa using hV))
          congr 1
          apply Array.ext_getElem?
          intro i
          exact this i (Nat.zero_le _)
theorem ek_refs {v : LV} {k : EK} (h : ekOf v = some k) : v.refs = [] := by
  cases v <;> simp [ekOf] at h <;> rfl
theorem kinds_refs : ∀ {cs : List LV} {ks : List EK}, kindsOk cs ks = true → refsL cs = []
  | [], _, _ => rfl
  | c :: cs, [], h => by simp [kindsOk] at h
  | c :: cs, k :: ks, h => by
    simp only [kindsOk, Bool.and_eq_true, beq_iff_eq] at h
    simp [refsL, ek_refs h.1, kinds_refs h.2]
theorem key_refs {t : Nat} {v : LV} (h : keyOk K t v = true) : v.refs = [] := by
  obtain ⟨ks, _, h1⟩ := keyOk_inv h
  rcases h1 with ⟨_, h1⟩ | ⟨_, cs, _, rfl, h1⟩
  · obtain ⟨k, hk⟩ := ekOf_of h1; exact ek_refs hk
  · simpa [LV.refs] using kinds_refs h1
theorem same_sc {x : LV} {k : EK} {X : Value} (n : Nat) (hx : ekOf x = some k) (hX : VR K I J w ρ x X) : Instr.sameBits n X X = true := by
  cases x <;> simp [ekOf] at hx <;> cases hX <;> cases n <;> simp [Instr.sameBits, baBeq, strEq]
theorem kinds_get : ∀ {cs : List LV} {ks : List EK} {i : Nat} {v : LV}, kindsOk cs ks = true → cs[i]? = some v → ∃ k, ekOf v = some k
  | [], _, _, _, _, h => by simp at h
  | c :: cs, [], _, _, h, _ => by simp [kindsOk] at h
  | c :: cs, k :: ks, 0, v, h, hv => by
    simp only [kindsOk, Bool.and_eq_true, beq_iff_eq] at h
    simp at hv; subst hv; exact ⟨k, h.1⟩
  | c :: cs, k :: ks, i + 1, v, h, hv => by
    simp only [kindsOk, Bool.and_eq_true, beq_iff_eq] at h
    exact kinds_get h.2 (by simpa using hv)
theorem key_bits {t : Nat} {x : LV} {X : Value} (hx : keyOk K t x = true) (hX : VR K I J w ρ x X) : Instr.sameBits 10000 X X = true := by
  obtain ⟨ks, _, h1⟩ := keyOk_inv hx
  rcases h1 with ⟨_, h1⟩ | ⟨_, cs, _, rfl, h1⟩
  · obtain ⟨k, hk⟩ := ekOf_of h1; exact same_sc _ hk hX
  · cases hX with
    | agg _ _ C a1 a2 a3 =>
      show (C.size == C.size && (C.toList.zip C.toList).all fun (x, y) => Instr.sameBits 9999 x y) = true
      simp only [beq_self_eq_true, Bool.true_and, List.all_eq_true]
      rintro ⟨a, b⟩ hab
      obtain ⟨i, hi⟩ := List.getElem?_of_mem hab
      rw [List.getElem?_zip_eq_some] at hi
      obtain ⟨h2, h3⟩ := hi
      simp only at h2 h3
      rw [h2] at h3
      cases h3
      have hiC : C[i]? = some a := by simpa using h2
      have hl : i < cs.length := by have := (Array.getElem?_eq_some_iff.1 hiC).1; omega
      obtain ⟨k, hk⟩ := kinds_get h1 (List.getElem?_eq_getElem hl)
      exact same_sc _ hk (a3 i cs[i] a (List.getElem?_eq_getElem hl) hiC)
theorem run_setObj {R : Nat} {x y : Obj} (hR : w.heap[R]? = some x) (hx : ∀ C e f, x ≠ .cells C e f) : ∃ w', (setObj R y).run P w = .ok () w' ∧ Mut w w' R y := by
  refine ⟨{ w with heap := w.heap.setIfInBounds R y }, ?_, ⟨by simp, fun R' hne => ?_, by simp [Array.getElem?_setIfInBounds_self_of_lt (some_lt hR)], ⟨rfl, rfl⟩⟩⟩
  · simp only [setObj, Sem.run, hR]
  · simp [Array.getElem?_setIfInBounds_ne (Ne.symm hne)]
theorem Inv.mapSet (H : Inv K Z I J ρ h w) {b R base len : Nat} {pu : Bool} {kt : Nat} {ks vs ks' vs' : List LV} {es es' : Array MapEntry} {clock clock' : Nat} (hb : ρ b = some (.at R base len)) (hx : live h b (.map pu kt ks vs))
    (hR : w.heap[R]? = some (.map es clock)) (M : Mut w w' R (.map es' clock')) (hrel : Keep I J w w' → MapR K I J w' (mapEnv pu ρ) kt ks' vs' es' clock') :
    Inv K Z I J ρ (dropIters b (h.set b (some (.map pu kt ks' vs')))) w' ∧ Chg Z I J w w' := by
  have ho := H.own b R base len _ hb hx
  have hsh := M.shapeObj hR (by simp)
  have hk := M.keep hsh ho.2.1 ho.2.2.1
  refine ⟨H.mut hb hx M hsh (fun _ _ => rfl) hb (live_dropIters (live_set_self _ hx) (by simp [Blk.iterOf])) (fun b' y hne hy => (live_set_ne hne).1 (dropIters_live hy).1) (.inl rfl) ⟨es', clock', M.here, hrel hk⟩ ?_ ?_ ?_, M.chg hsh ho.1 ho.2.1 ho.2.2.1⟩
  · intro i Ri bi li m ks vs last hne hri hi e
    subst e
    exact (dropIters_live hi).2 rfl
  · intro m hm; cases hm
  · intro m pu' kt' ks'' vs'' hne hm
    exact ⟨pu', kt', ks'', vs'', live_dropIters ((live_set_ne hne).2 hm) (by simp [Blk.iterOf])⟩
theorem update_rel (F : Fits K P) (H : Inv K Z I J ρ h w) {t : Nat} {m k v : LV} {M X V : Value} (hu : updateV K h t m k v = some h') (hM : VR K I J w ρ m M) (hX : VR K I J w ρ k X) (hV : VR K I J w ρ v V) :
    ∃ w', (Instr.mapUpdate t M X V).run P w = .ok () w' ∧ Inv K Z I J ρ h' w' ∧ Chg Z I J w w' ∧ Stab h ρ h' ρ ∧ h'.length = h.length := by
  unfold updateV at hu
  split at hu
  case h_2 => cases hu
  rename_i kt et b hk
  cases hkey : keyOk K kt k with
  | false => rw [hkey] at hu; cases hu
  | true =>
    rw [hkey, cond_true] at hu
    split at hu
    case h_2 => cases hu
    rename_i pu kt' ks vs hg
    split at hu
    case isFalse => cases hu
    rename_i hc
    simp only [Bool.and_eq_true, decide_eq_true_eq, Bool.or_eq_true, Bool.not_eq_true', List.isEmpty_iff] at hc
    obtain ⟨rfl, hpu⟩ := hc
    have hx := live_getD hg
    cases hM with
    | map _ _ R base len hb =>
      obtain ⟨es, clock, h1, h2, h3, h4, h5, h6, h7, h8⟩ := H.rel b R base len _ hb hx
      have hobj : (getObj R).run P w = .ok (.map es clock) w := by simp [getObj, Sem.run, h1]
      obtain ⟨r, h9, h10⟩ := find_rel (w := w) F hkey hX ks es.toList (by simpa using h2) h4 (fun j x e hx he => h5 j x e hx (by simpa using he))
      have hvp : VR K I J w (mapEnv pu ρ) v V := by
        cases pu with
        | true =>
          simp only [Bool.true_eq_false, false_or] at hpu
          exact hV.noRefs hpu
        | false => exact hV
      have hXp : VR K I J w noEnv k X := hX.noRefs (key_refs hkey)
      cases hf : findK k ks 0 with
      | some i =>
        rw [hf] at hu h10
        cases r with
        | none => exact h10.elim
        | some r =>
          obtain ⟨i', U⟩ := r
          obtain ⟨rfl, _, e, h11, rfl⟩ := h10
          simp only [Option.some.injEq, Nat.sub_zero] at hu h11
          subst hu
          have he : es[i']? = some e := by simpa using h11
          have hil := (Array.getElem?_eq_some_iff.1 he).1
          have hki : ks[i']? = some ks[i'] := List.getElem?_eq_getElem (by omega)
          have hfk : keyEq k ks[i'] = true := by
            have : ∀ (l : List LV) (j a : Nat), findK k l j = some a → ∃ x, l[a - j]? = some x ∧ keyEq k x = true ∧ j ≤ a := by
              intro l
              induction l with
              | nil => intro j a h; cases h
              | cons x l ih =>
                intro j a h
                simp only [findK] at h
                cases hq : keyEq k x with
                | true => rw [hq] at h; cases h; exact ⟨x, by simp, hq, Nat.le_refl _⟩
                | false =>
                  rw [hq] at h
                  obtain ⟨y, h1, h2, h3⟩ := ih (j + 1) a h
                  exact ⟨y, by rw [show a - j = (a - (j + 1)) + 1 by omega]; simpa using h1, h2, by omega⟩
            obtain ⟨x, hx1, hx2, _⟩ := this ks 0 i' hf
            simp only [Nat.sub_zero] at hx1
            rw [hki] at hx1
            cases hx1
            exact hx2
          have hsame : X = e.key := key_same hkey (h4 i' _ hki) hfk hXp (h5 i' _ e hki he)
          have hbits : (Instr.keyThatStays e.key X).run P w = .ok X w := by
            unfold Instr.keyThatStays
            rw [← hsame, key_bits hkey hX]
            simp
          obtain ⟨w', h12, Mw⟩ := run_setObj (P := P) (y := .map (es.modify i' fun e => { e with key := X, val := V }) clock) h1 (by simp)
          obtain ⟨hI, hC⟩ := H.mapSet (ks' := ks) (vs' := vs.set i' v) hb hx h1 Mw (fun hk => by
            refine ⟨by simp [h2], by simp [h3], h4, fun j k' e' hk' he' => ?_, fun j v' e' hv' he' => ?_, fun i j e f hi hj hij => ?_, fun i e hi => ?_⟩
            · rw [Array.getElem?_modify] at he'
              by_cases hj : i' = j
              · subst hj
                rw [if_pos rfl, he] at he'
                cases he'
                have := h5 i' k' e hk' he
                rw [← hsame] at this
                exact this.same hk
              · rw [if_neg hj] at he'
                exact (h5 j k' e' hk' he').same hk
            · rw [Array.getElem?_modify] at he'
              rw [List.getElem?_set] at hv'
              by_cases hj : i' = j
              · subst hj
                rw [if_pos rfl, he] at he'
                rw [if_pos rfl, if_pos (by omega)] at hv'
                cases he'
                cases hv'
                exact hvp.same hk
              · rw [if_neg hj] at he' hv'
                exact (h6 j v' e' hv' he').same hk
            · rw [Array.getElem?_modify] at hi hj
              have get : ∀ {n : Nat} {g : MapEntry}, (if i' = n then (fun e => { e with key := X, val := V }) <$> es[n]? else es[n]?) = some g → ∃ g', es[n]? = some g' ∧ g'.born = g.born := by
                intro n g hg
                split at hg
                · cases hn : es[n]? with
                  | none => rw [hn] at hg; cases hg
                  | some g' => rw [hn] at hg; cases hg; exact ⟨g', rfl, rfl⟩
                · exact ⟨g, hg, rfl⟩
              obtain ⟨e1, a1, a2⟩ := get hi
              obtain ⟨f1, b1, b2⟩ := get hj
              rw [← a2, ← b2]
              exact h7 i j e1 f1 a1 b1 hij
            · rw [Array.getElem?_modify] at hi
              split at hi
              · cases hn : es[i]? with
                | none => rw [hn] at hi; cases hi
                | some g' => rw [hn] at hi; cases hi; exact h8 i g' hn
              · exact h8 i e hi)
          refine ⟨w', ?_, hI, hC, (Stab.set (y := .map pu kt' ks (vs.set i' v)) hx rfl (fun h => h)).trans (Stab.dropIters b), by simp [dropIters]⟩
          simp only [Instr.mapUpdate, Sem.run_bind, run_underlying (F.map hk), Result.andThen_ok, hobj, check_rel F hkey hX, h9, he, Option.map_some, Option.getD_some, hbits]
          exact h12
      | none =>
        rw [hf] at hu h10
        cases r with
        | some r => exact h10.elim
        | none =>
          simp only [Option.some.injEq] at hu
          subst hu
          obtain ⟨w', h12, Mw⟩ := run_setObj (P := P) (y := .map (es.push { key := X, val := V, born := clock }) (clock + 1)) h1 (by simp)
          have getp : ∀ {n : Nat} {g : MapEntry}, (es.push { key := X, val := V, born := clock })[n]? = some g → (n < es.size ∧ es[n]? = some g) ∨ (n = es.size ∧ g = { key := X, val := V, born := clock }) := by
            intro n g hg
            rw [Array.getElem?_push] at hg
            split at hg
            · rename_i e; cases hg; exact .inr ⟨e, rfl⟩
            · have := (Array.getElem?_eq_some_iff.1 hg).1; exact .inl ⟨this, hg⟩
          obtain ⟨hI, hC⟩ := H.mapSet (ks' := ks ++ [k]) (vs' := vs ++ [v]) hb hx h1 Mw (fun hk => by
            refine ⟨by simp [h2], by simp [h3], fun j k' hk' => ?_, fun j k' e' hk' he' => ?_, fun j v' e' hv' he' => ?_, fun i j e f hi hj hij => ?_, fun i e hi => ?_⟩
            · rw [List.getElem?_append] at hk'
              split at hk'
              · exact h4 j k' hk'
              · rw [List.getElem?_singleton] at hk'
                split at hk'
                · cases hk'; exact hkey
                · cases hk'
            · rcases getp he' with ⟨hn, he'⟩ | ⟨hn, rfl⟩
              · rw [List.getElem?_append_left (by omega)] at hk'
                exact (h5 j k' e' hk' he').same hk
              · rw [List.getElem?_append_right (by omega), show j - ks.length = 0 by omega] at hk'
                simp at hk'
                subst hk'
                exact hXp.same hk
            · rcases getp he' with ⟨hn, he'⟩ | ⟨hn, rfl⟩
              · rw [List.getElem?_append_left (by omega)] at hv'
                exact (h6 j v' e' hv' he').same hk
              · rw [List.getElem?_append_right (by omega), show j - vs.length = 0 by omega] at hv'
                simp at hv'
                subst hv'
                exact hvp.same hk
            · rcases getp hi with ⟨hn, hi⟩ | ⟨hn, rfl⟩ <;> rcases getp hj with ⟨hn', hj⟩ | ⟨hn', rfl⟩
              · exact h7 i j e f hi hj hij
              · exact h8 i e hi
              · omega
              · omega
            · rcases getp hi with ⟨hn, hi⟩ | ⟨hn, rfl⟩
              · have := h8 i e hi; omega
              · exact Nat.lt_succ_self _)
          refine ⟨w', ?_, hI, hC, (Stab.set (y := .map pu kt' (ks ++ [k]) (vs ++ [v])) hx rfl (fun h => h)).trans (Stab.dropIters b), by simp [dropIters]⟩
          simp only [Instr.mapUpdate, Sem.run_bind, run_underlying (F.map hk), Result.andThen_ok, hobj, check_rel F hkey hX, h9]
          exact h12
end
end Go.LH


set_option linter.unusedVariables false
set_option linter.unusedSimpArgs false
namespace Go.LH
theorem erase_filter : ∀ (l : List MapEntry) (i : Nat) (e : MapEntry), l.Pairwise (fun a b => a.born < b.born) → l[i]? = some e → l.filter (fun x => !(x.born == e.born)) = l.eraseIdx i
  | [], i, e, hp, hi => by simp at hi
  | x :: l, 0, e, hp, hi => by
    simp at hi
    subst hi
    rw [List.pairwise_cons] at hp
    simp only [List.eraseIdx_cons_zero, List.filter_cons, beq_self_eq_true, Bool.not_true, Bool.false_eq_true, if_false]
    rw [List.filter_eq_self]
    intro y hy
    have := hp.1 y hy
    simp
    omega
  | x :: l, i + 1, e, hp, hi => by
    simp at hi
    rw [List.pairwise_cons] at hp
    have hlt := hp.1 e (List.mem_of_getElem? hi)
    have hne : (!(x.born == e.born)) = true := by simp; omega
    simp only [List.eraseIdx_cons_succ, List.filter_cons, hne, if_true]
    rw [erase_filter l i e hp.2 hi]
theorem pairwise_of {es : Array MapEntry} (hs : ∀ (i j : Nat) (e f : MapEntry), es[i]? = some e → es[j]? = some f → i < j → e.born < f.born) : es.toList.Pairwise (fun a b => a.born < b.born) := by
  rw [List.pairwise_iff_getElem]
  intro i j hi hj hij
  exact hs i j _ _ (by simpa using hi) (by simpa using hj) hij
section
variable {K : Ctx} {P : Program} {Z : Nat → Prop} {I I' : CellP} {J J' : Nat → Prop} {w w' : World} {ρ ρ' : Env} {h h' : Heap}
theorem tup3 {a b c : LV} {A B C : Value} (hA : VR K I J w ρ a A) (hB : VR K I J w ρ b B) (hC : VR K I J w ρ c C) : VR K I J w ρ (.tup [a, b, c]) (.tuple #[A, B, C]) := by
  refine .tup _ _ _ rfl (fun i v V hv hV => ?_)
  match i with
  | 0 => simp at hv hV; subst hv; subst hV; exact hA
  | 1 => simp at hv hV; subst hv; subst hV; exact hB
  | 2 => simp at hv hV; subst hv; subst hV; exact hC
  | i + 3 => simp at hv
theorem tup1 {a : LV} {A : Value} (hA : VR K I J w ρ a A) : VR K I J w ρ (.tup [a]) (.tuple #[A]) := by
  refine .tup _ _ _ rfl (fun i v V hv hV => ?_)
  match i with
  | 0 => simp at hv hV; subst hv; subst hV; exact hA
  | i + 1 => simp at hv
theorem next_rel (H : Inv K Z I J ρ h w) {b ty : Nat} {mb : Option Nat} {ks vs : List LV} {last : Option (LV × LV)} {X : Value} (hg : h.getD b none = some (.iter mb ks vs last)) (hX : VR K I J w ρ (.ptr b 0) X) :
    (ks = [] ∧ ∃ V, (Instr.next X false ty).run P w = .ok V w ∧ VR K I J w ρ (.tup [.bool false]) V) ∨
    (ks ≠ [] ∧ ∃ i V w', i < ks.length ∧ (Instr.next X false ty).run P w = .ok V w' ∧ VR K I J w' ρ (.tup [.bool true, ks.getD i .un, vs.getD i .un]) V ∧
      Inv K Z I J ρ (h.set b (some (.iter mb (ks.eraseIdx i) (vs.eraseIdx i) (some (ks.getD i .un, vs.getD i .un))))) w' ∧ Chg Z I J w w') := by
  have hx := live_getD hg
  cases hX with
  | ptr _ _ _ R base len hb =>
    obtain ⟨h0, m, since, seen, stepped, h1, h2⟩ := H.rel b R base len _ hb hx
    subst h0
    have o1 : (getObj R).run P w = .ok (.mapIter m since seen stepped) w := by simp [getObj, Sem.run, h1]
    cases m with
    | none =>
      obtain ⟨rfl, rfl, rfl, rfl⟩ := h2
      refine .inl ⟨rfl, _, ?_, tup1 (.bool _ false)⟩
      simp [Instr.next, o1]
    | some M =>
      obtain ⟨hM, es, clock, h4, h5⟩ := h2
      obtain ⟨rfl, rfl, h8, h9, ⟨l, h10, h11, h12, h13, h14⟩, h15⟩ := h5
      have o2 : (getObj M).run P w = .ok (.map es stepped) w := by simp [getObj, Sem.run, h4]
      have hguard : (!seen.isEmpty && !es.isEmpty && es.all (fun e => decide (e.born ≥ stepped))) = false := by
        cases hes : es.isEmpty with
        | true => simp
        | false =>
          have hpos : 0 < es.size := by
            rcases Nat.eq_zero_or_pos es.size with h | h
            · have : es = #[] := Array.eq_empty_of_size_eq_zero h
              subst this; simp at hes
            · exact h
          have : es.all (fun e => decide (e.born ≥ stepped)) = false := by
            rw [Array.all_eq_false]
            refine ⟨0, hpos, ?_⟩
            have := h9 0 es[0] (by simp [hpos])
            simp
            omega
          simp [this]
      have hlmem : ∀ e ∈ l, ∃ i : Nat, es[i]? = some e := by
        intro e he
        rw [← h10] at he
        have := Array.mem_toList_iff.1 he
        rw [Array.mem_filter] at this
        exact Array.getElem?_of_mem this.1
      have hleft : es.filter (fun e => !seen.contains e.born) = l.toArray := by rw [← h10]
      have hold : l.toArray.filter (fun e => decide (e.born < stepped)) = l.toArray := by
        rw [List.filter_toArray]
        congr 1
        rw [List.filter_eq_self]
        intro e he
        obtain ⟨i, hi⟩ := hlmem e he
        simpa using h9 i e hi
      have hnew : l.toArray.filter (fun e => decide (e.born ≥ stepped)) = #[] := by
        rw [List.filter_toArray]
        congr 1
        rw [List.filter_eq_nil_iff]
        intro e he
        obtain ⟨i, hi⟩ := hlmem e he
        have := h9 i e hi
        simp
        omega
      cases hl : l with
      | nil =>
        subst hl
        have : ks = [] := List.eq_nil_of_length_eq_zero (by simpa using h11)
        subst this
        refine .inl ⟨rfl, _, ?_, tup1 (.bool _ false)⟩
        simp only [Instr.next, Sem.run_bind, Nat.add_zero, o1, Result.andThen_ok, o2, hguard, hleft, hold, hnew]
        simp only [Bool.false_eq_true, if_false]
        simp [choose, Sem.run, Question.forced]
      | cons e0 l0 =>
        have hne : ks ≠ [] := by
          intro h
          subst h
          rw [hl] at h11
          simp at h11
        have hpos : 0 < l.length := by rw [hl]; simp
        obtain ⟨i, w1, ⟨hw1, hio⟩, hi, hch⟩ : ∃ i w1, (w1.heap = w.heap ∧ Io w w1) ∧ i < l.length ∧ (choose (.mapNext l.length)).run P w = .ok i w1 := by
          by_cases hf : l.length ≤ 1
          · exact ⟨0, w, ⟨rfl, Io.refl w⟩, hpos, by simp [choose, Sem.run, Question.forced, hf]⟩
          · exact ⟨w.tape w.drawn (.mapNext l.length) % l.length, { w with drawn := w.drawn + 1 }, ⟨rfl, ⟨rfl, rfl⟩⟩, Nat.mod_lt _ hpos, by simp only [choose, Sem.run, Question.forced]; simp only [hf, decide_false, Bool.false_eq_true, if_false]; rfl⟩
        have hR1 : w1.heap[R]? = some (.mapIter (some M) stepped seen stepped) := by rw [hw1]; exact h1
        obtain ⟨el, hli⟩ : ∃ el, l[i]? = some el := ⟨_, List.getElem?_eq_getElem hi⟩
        obtain ⟨n, hn⟩ := hlmem el (List.mem_of_getElem? hli)
        obtain ⟨w2, h16, M2⟩ := run_setObj (P := P) (y := .mapIter (some M) stepped (seen.push el.born) stepped) hR1 (by simp)
        have M3 : Mut w w2 R (.mapIter (some M) stepped (seen.push el.born) stepped) := ⟨by rw [M2.size, hw1], fun R' hne => (M2.other R' hne).trans (by rw [hw1]), M2.here, hio.trans M2.io⟩
        have hsh := M3.shapeObj h1 (by simp)
        have ho := H.own b R 0 len _ hb hx
        have hk := M3.keep hsh ho.2.1 ho.2.2.1
        have hki : ks[i]? = some (ks.getD i .un) := by rw [List.getD_eq_getElem?_getD, List.getElem?_eq_getElem (by omega)]; rfl
        have hvi : vs[i]? = some (vs.getD i .un) := by rw [List.getD_eq_getElem?_getD, List.getElem?_eq_getElem (by omega)]; rfl
        have hkr := h13 i _ el hki hli
        have hvr := h14 i _ el hvi hli
        have hMR : M ≠ R := by rintro rfl; rw [h1] at h4; cases h4
        have hmb : ∀ c, mb = some c → c ≠ b := by
          rintro c rfl rfl
          obtain ⟨base', len', hc⟩ := hM
          rw [hb] at hc
          cases hc
          exact hMR rfl
        have hfil : (es.filter fun x => !(seen.push el.born).contains x.born).toList = l.eraseIdx i := by
          have hp : l.Pairwise (fun a b => a.born < b.born) := by
            rw [← h10, Array.toList_filter]
            exact (pairwise_of h8).sublist List.filter_sublist
          rw [← erase_filter l i el hp hli, ← h10, Array.toList_filter, Array.toList_filter, List.filter_filter]
          congr 1
          funext x
          rw [Array.contains_push]
          cases seen.contains x.born <;> cases x.born == el.born <;> rfl
        have hrel : BlkRel K I J w2 ρ R 0 len (.iter mb (ks.eraseIdx i) (vs.eraseIdx i) (some (ks.getD i .un, vs.getD i .un))) := by
          refine ⟨rfl, some M, stepped, seen.push el.born, stepped, M2.here, ?_, es, stepped, (M3.other M hMR).trans h4, rfl, rfl, h8, h9, ⟨l.eraseIdx i, hfil, by rw [List.length_eraseIdx, List.length_eraseIdx, h11], by rw [List.length_eraseIdx, List.length_eraseIdx, h12], fun j k e hj he => ?_, fun j v e hj he => ?_⟩, fun k v hkv => ?_⟩
          · cases mb with
            | none => exact hM
            | some c => exact hM
          · rw [List.getElem?_eraseIdx] at hj he
            split at hj
            · rename_i hlt; rw [if_pos hlt] at he; exact (h13 j k e hj he).same hk
            · rename_i hlt; rw [if_neg hlt] at he; exact (h13 (j + 1) k e hj he).same hk
          · rw [List.getElem?_eraseIdx] at hj he
            split at hj
            · rename_i hlt; rw [if_pos hlt] at he; exact (h14 j v e hj he).same hk
            · rename_i hlt; rw [if_neg hlt] at he; exact (h14 (j + 1) v e hj he).same hk
          · cases hkv
            exact ⟨el, by simp, ⟨n, hn⟩, hkr.same hk, hvr.same hk⟩
        have hInv : Inv K Z I J ρ (h.set b (some (.iter mb (ks.eraseIdx i) (vs.eraseIdx i) (some (ks.getD i .un, vs.getD i .un))))) w2 := by
          refine H.mut hb hx M3 hsh (fun _ _ => rfl) hb (live_set_self _ hx) (fun b' y hne hy => (live_set_ne hne).1 hy) (.inl rfl) hrel ?_ ?_ ?_
          · intro i' Ri bi li m' ks' vs' last' hne hri hi' e
            subst e
            rcases H.iters i' Ri bi li m' ks' vs' last' R 0 len hri ((live_set_ne hne).1 hi') hb with h | ⟨pu, kt, a, c, h⟩
            · exact ho.2.2.1 h
            · have := live_uniq hx h; cases this
          · intro m' hm'
            exact ⟨hm', hmb m' hm'⟩
          · intro m' pu kt ks' vs' hne hm'
            exact ⟨pu, kt, ks', vs', (live_set_ne hne).2 hm'⟩
        refine .inr ⟨hne, i, _, w2, by omega, ?_, tup3 (.bool _ true) ((hkr.up ρ).same hk) (hvr.same hk), hInv, M3.chg hsh ho.1 ho.2.1 ho.2.2.1⟩
        simp only [Instr.next, Sem.run_bind, Nat.add_zero, o1, Result.andThen_ok, o2, hguard, hleft, hold, hnew]
        have hemp : l.toArray.isEmpty = false := by rw [hl]; rfl
        simp only [Bool.false_eq_true, if_false, hemp, Sem.run_pure, Result.andThen_ok, Sem.run_bind]
        have hcand : (#[] ++ Array.map some (l.toArray ++ #[])).size = l.length := by simp
        rw [hcand, hch]
        simp only [Result.andThen_ok]
        have hcg : (#[] ++ Array.map some (l.toArray ++ #[]))[i]? = some (some el) := by simp [hli]
        rw [hcg]
        simp only [Sem.run_bind, h16, Result.andThen_ok, Sem.run_pure]
end
end Go.LH

