/- Part of the proof: an interpreter of the program, and that the machine meets it. -/
import Derived.IntWalk
import Derived.Test.YtglhnodmpifjhaaA3
set_option linter.all false

set_option linter.unusedVariables false
namespace Go.LH
def nt (x : ND (G × Heap)) (f : G → Heap → ND (G × Heap)) : ND (G × Heap) := x.bind fun (g, h) => f g h
theorem nt_ok (g : G) (h : Heap) (f : G → Heap → ND (G × Heap)) : nt (.ok (g, h)) f = f g h := rfl
def opT (x : ND (Nat × G × Heap)) : ND (G × Heap) := x.bind fun (_, g, h) => .ok (g, h)
theorem opT_ok (c : Nat) (g : G) (h : Heap) : opT (.ok (c, g, h)) = .ok (g, h) := rfl
def scR (d : Nat) (g : G) (h : Heap) (x : ND LV) : ND (G × Heap) := x.bind fun v => .ok ((d, v) :: g, h)
theorem scR_ok (d : Nat) (g : G) (h : Heap) (v : LV) : scR d g h (.ok v) = .ok ((d, v) :: g, h) := rfl
theorem scb_b (c b : Bool) (x : ND LV) (w : Bool) : scb (some (.bool c)) b x w = nif (c == b) x (.ok (.bool w)) := rfl
def okO (x : Option LV) : ND LV := match x with
  | some v => .ok v
  | none => .bad "sc"
theorem okO_s (v : LV) : okO (some v) = .ok v := rfl
theorem scV_ok (r : Nat) (g : G) (h : Heap) : scV r (.ok (g, h)) = okO (lk g r) := by
  unfold scV okO
  simp only [ND.bind]
  cases lk g r <;> rfl
theorem nif_ok (c x y : Bool) : nif c (ND.ok (LV.bool x)) (ND.ok (LV.bool y)) = ND.ok (LV.bool (nif c x y)) := by cases c <;> rfl
theorem nif_and (c x : Bool) : nif c x false = (c && x) := by cases c <;> rfl
theorem nif_or (c x : Bool) : nif (!c) x true = (c || x) := by cases c <;> rfl
section
variable {K : Ctx} {cf : CallF} {n : Nat}
theorem t_nil (g : G) (h : Heap) : runT K cf [] g h = .ok (g, h) := rfl
theorem t_cons (x : TO) (r : List TO) (g : G) (h : Heap) : runT K cf (x :: r) g h = nt (x.run K cf g h) (runT K cf r) := rfl
theorem t_op (d : Option Nat) (o : RO) (g : G) (h : Heap) : (TO.op d o).run K cf g h = opT (stepF K cf d o g h) := rfl
theorem t_scg (d s : Nat) (b : Bool) (inner : List TO) (r : Nat) (w : Bool) (g : G) (h : Heap) : (TO.scg d s b inner r w).run K cf g h = sgb (lk g s) b (sgV d r g (runT K cf inner g h)) (.ok ((d, .bool w) :: g, h)) := rfl
theorem sgb_b (c b : Bool) (x y : ND (G × Heap)) : sgb (some (.bool c)) b x y = nif (c == b) x y := rfl
def sgO (d : Nat) (g g' : G) (h : Heap) (o : Option LV) : ND (G × Heap) := match o with
  | some v => .ok ((d, v) :: restr (g.map (·.1)) g', h)
  | none => .bad "sc"
theorem sgO_s (d : Nat) (g g' : G) (h : Heap) (v : LV) : sgO d g g' h (some v) = .ok ((d, v) :: restr (g.map (·.1)) g', h) := rfl
theorem sgV_ok (d r : Nat) (g g' : G) (h : Heap) : sgV d r g (.ok (g', h)) = sgO d g g' h (lk g' r) := by
  unfold sgV sgO
  simp only [ND.bind]
  cases lk g' r <;> rfl
theorem t_sc (d s : Nat) (b : Bool) (inner : List TO) (r : Nat) (w : Bool) (g : G) (h : Heap) : (TO.sc d s b inner r w).run K cf g h = scR d g h (scb (lk g s) b (scV r (runT K cf inner g h)) w) := rfl
theorem putG_s (g : G) (d : Nat) (v : LV) : putG g (some d) v = (d, v) :: g := rfl
theorem putG_n (g : G) (v : LV) : putG g none v = g := rfl
theorem upF_s (c : Nat) (d : Option Nat) (g : G) (h : Heap) (v : LV) : upF c d g h (some v) = .ok (c, putG g d v, h) := rfl
theorem ev_t (g : G) (i : Nat) : RV.evF g (.t i) = lk g i := rfl
theorem ev_c (g : G) (v : LV) : RV.evF g (.c v) = some v := rfl
theorem lk_eq (i : Nat) (v : LV) (g : G) : lk ((i, v) :: g) i = some v := by simp [lk]
theorem lk_ne (d i : Nat) (v : LV) (g : G) (h : (d == i) = false) : lk ((d, v) :: g) i = lk g i := by simp [lk, h]
theorem o1_s (x : LV) (f : LV → Option LV) : o1 (some x) f = f x := rfl
theorem o2_s (x y : LV) (f : LV → LV → Option LV) : o2 (some x) (some y) f = f x y := rfl
theorem o3_s (x y z : LV) (f : LV → LV → LV → Option LV) : o3 (some x) (some y) (some z) f = f x y z := rfl
theorem oo_n (g : G) : oo g none = some none := rfl
theorem evl_nil (g : G) : evl g [] = some [] := rfl
def consO (x : Option LV) (xs : Option (List LV)) : Option (List LV) := match x, xs with
  | some v, some vs => some (v :: vs)
  | _, _ => none
theorem evl_cons (g : G) (x : RV) (xs : List RV) : evl g (x :: xs) = consO (x.evF g) (evl g xs) := rfl
theorem consO_s (x : LV) (xs : List LV) : consO (some x) (some xs) = some (x :: xs) := rfl
def someO (x : Option LV) : Option (Option LV) := match x with
  | some v => some (some v)
  | none => none
theorem oo_s (g : G) (x : RV) : oo g (some x) = someO (x.evF g) := rfl
theorem someO_s (v : LV) : someO (some v) = some (some v) := rfl
def mkMask (n : Nat) (l : List Nat) : List Bool := (List.range n).map fun i => l.contains i
abbrev AnnT := Nat × List (Nat × List Gh × List Nat)
def annOfT (T : List AnnT) (f id : Nat) : List Gh :=
  match T[f]? with
  | some (n, l) => match l.find? fun x => x.1 == id with
    | some (_, gh, lv) => gh ++ [.clr (mkMask n lv)]
    | none => []
  | none => []
def lvOfT (T : List AnnT) (f id : Nat) : List Nat :=
  match T[f]? with
  | some (_, l) => match l.find? fun x => x.1 == id with
    | some (_, _, lv) => lv
    | none => []
  | none => []
theorem fits_of {K : Ctx} {P : Program} {n : Nat} (h : K.tt = ttOf P n) (hf : ∀ i, K.fb i = P.funcs[i]?) (hm : P.follows .mixedOrders = true) : Fits K P where
  ti := fun t ht => by
    have e : K.ti t = (ttOf P n).getD t default := by unfold Ctx.ti; rw [h]
    rcases Nat.lt_or_ge t n with h1 | h1
    · rw [e]; simp [ttOf, List.getD_eq_getElem?_getD, h1]
    · exfalso
      rw [Ctx.has, e] at ht
      simp [ttOf, List.getD_eq_getElem?_getD, h1] at ht
      exact absurd ht (by decide)
  fb := fun f fn h => by rw [← hf]; exact h
  mixed := hm
theorem FnOK.of {K : Ctx} {f na : Nat} {x : TF} {rs : List ResultVar} {fn : Func} {ov : Nat → Option (List Nat)} {lv : Nat → List Nat} {L : List Nat} (hfb : K.fb f = some fn) (hc : fn.body.bind (compF K f ov lv) = some x.flat) (hN : (fn.body.map (fitN K f fn.ntmps)).getD false = true)
    (hna : Nat.ble na fn.ntmps = true) (hr : fn.results.toList = rs) (hx : x.ok L = true) (hL : (List.range na).all (fun i => L.contains i) = true) : FnOK K f na x rs := by
  obtain ⟨c, h1, h2⟩ := Option.bind_eq_some_iff.1 hc
  rw [h1] at hN
  exact ⟨fn, c, ov, lv, L, hfb, h1, h2, hN, hna, hr, hx, hL⟩
def rfL : Code → List (List Nat × Code × Code)
  | .rangeFunc _ ps a b => (ps.toList, a, b) :: (rfL a ++ rfL b)
  | .seq a b => rfL a ++ rfL b
  | .cond _ a b => rfL a ++ rfL b
  | .block _ c => rfL c
  | .loop c => rfL c
  | .scope c => rfL c
  | _ => []
def rfAt (fn : Func) (p : Nat) : Code × Code := match ((fn.body.map rfL).getD []).find? fun x => x.1.headD 0 == p with
  | some x => x.2
  | none => (.skip, .skip)
theorem YOK.of {K : Ctx} {f N : Nat} {ps live : List Nat} {ca cb : Code} {xa xb : TF} {ov : Nat → Option (List Nat)} {lv : Nat → List Nat} {L : List Nat} (ha : compF K f ov lv ca = some xa.flat) (hb : compF K f ov lv cb = some xb.flat)
    (hf : (fitN K f N ca && fitN K f N cb && noRf ca && noRf cb) = true) (hx : (xa.ok L && xb.ok L) = true) (hp : ((ps.all fun p => decide (p < N)) && ((ps ++ live).all fun i => L.contains i) && (live.all fun p => decide (p < N))) = true) : YOK K f N ps live ca cb xa xb := by
  simp only [Bool.and_eq_true] at hf hx hp
  exact ⟨ov, lv, L, ha, hb, hf.1.1.1, hf.1.1.2, hf.1.2, hf.2, hx.1, hx.2, hp.1.1, hp.1.2, hp.2⟩
def sq (x : ND (Ex × G × Heap)) (f : G → Heap → ND (Ex × G × Heap)) : ND (Ex × G × Heap) := x.bind fun (e, g, h) => match e with
    | .normal => f g h
    | e => .ok (e, g, h)
def bk (id : Nat) (x : ND (Ex × G × Heap)) : ND (Ex × G × Heap) := x.bind fun (e, g, h) => match e with
    | .exit id' => bif id' == id then .ok (.normal, g, h) else .ok (.exit id', g, h)
    | e => .ok (e, g, h)
def rg (gh : List Gh) (live : List Nat) (x : ND (G × Heap)) : ND (Ex × G × Heap) := x.bind (regF gh live)
theorem rg_ok (live : List Nat) (g : G) (h : Heap) : rg [] live (.ok (g, h)) = .ok (.normal, restr live g, h) := rfl
def rgD (gh : List Gh) (live : List Nat) (x : ND (G × Heap)) : ND (Ex × G × Heap) := match x with
    | .ok x => regF gh live x
    | _ => .bad "draw"
theorem rgD_ok (live : List Nat) (g : G) (h : Heap) : rgD [] live (.ok (g, h)) = .ok (.normal, restr live g, h) := rfl
def rsC (i : Nat) (v : Option LV) (r : G) : G := match v with
  | some v => (i, v) :: r
  | none => r
theorem rs_nil (g : G) : restr [] g = [] := rfl
theorem rs_cons (i : Nat) (is : List Nat) (g : G) : restr (i :: is) g = rsC i (lk g i) (restr is g) := rfl
theorem rsC_s (i : Nat) (v : LV) (r : G) : rsC i (some v) r = (i, v) :: r := rfl
def cnd (c : Option LV) (a b : ND (Ex × G × Heap)) : ND (Ex × G × Heap) := match c with
    | some (.bool t) => bif t then a else b
    | _ => .bad "cond"
theorem cnd_t (a b : ND (Ex × G × Heap)) : cnd (some (.bool true)) a b = a := rfl
theorem cnd_f (a b : ND (Ex × G × Heap)) : cnd (some (.bool false)) a b = b := rfl
theorem x_skip (g : G) (h : Heap) : execT K n cf .skip g h = .ok (.normal, g, h) := rfl
theorem x_reg (id : Nat) (ops : List TO) (gh : List Gh) (live : List Nat) (g : G) (h : Heap) : execT K n cf (.reg id ops none gh live) g h = rg gh live (runT K cf ops g h) := rfl
theorem x_regD (id : Nat) (ops : List TO) (mx : List Nat) (gh : List Gh) (live : List Nat) (g : G) (h : Heap) : execT K n cf (.reg id ops (some mx) gh live) g h = rgD gh live (runT K cf ops g h) := rfl
theorem x_seq (a b : TF) (g : G) (h : Heap) : execT K n cf (.seq a b) g h = sq (execT K n cf a g h) (execT K n cf b) := rfl
theorem x_cond (c : RV) (a b : TF) (g : G) (h : Heap) : execT K n cf (.cond c a b) g h = cnd (c.evF g) (execT K n cf a g h) (execT K n cf b g h) := rfl
theorem x_block (id : Nat) (c : TF) (g : G) (h : Heap) : execT K n cf (.block id c) g h = bk id (execT K n cf c g h) := rfl
theorem x_label (l : Nat) (g : G) (h : Heap) : execT K n cf (.label l) g h = .ok (.normal, g, h) := rfl
theorem x_exit (l : Nat) (g : G) (h : Heap) : execT K n cf (.exit l) g h = .ok (.exit l, g, h) := rfl
theorem x_ret (g : G) (h : Heap) : execT K n cf .ret g h = .ok (.ret, g, h) := rfl
theorem x_rf (fid : Nat) (f : RV) (ps : List Nat) (N : Nat) (live : List Nat) (a b : Code) (g : G) (h : Heap) : execT K n cf (.rf fid f ps N live a b) g h = bif allK live g then rfGo cf (f.evF g) (h ++ [some (.loop fid (FrT N (restr live g)) ps a b .ready .normal)]) g h.length else .bad "rf" := rfl
theorem x_loop (c : TF) (g : G) (h : Heap) : execT K n cf (.loop c) g h = iterF h.length n (execT K n cf c) g h := rfl
end
theorem b_lss (k : IntKind) (a b : Int) : binP .lss (.int k a) (.int k b) = some (.bool (decide (a < b))) := by simp [binP, intOp]
theorem b_leq (k : IntKind) (a b : Int) : binP .leq (.int k a) (.int k b) = some (.bool (decide (a ≤ b))) := by simp [binP, intOp]
theorem b_gtr (k : IntKind) (a b : Int) : binP .gtr (.int k a) (.int k b) = some (.bool (decide (b < a))) := by simp [binP, intOp]
theorem b_geq (k : IntKind) (a b : Int) : binP .geq (.int k a) (.int k b) = some (.bool (decide (b ≤ a))) := by simp [binP, intOp]
theorem b_eql (k : IntKind) (a b : Int) : binP .eql (.int k a) (.int k b) = some (.bool (a == b)) := by simp [binP, intOp]
theorem b_neq (k : IntKind) (a b : Int) : binP .neq (.int k a) (.int k b) = some (.bool (a != b)) := by simp [binP, intOp]
theorem b_add (k : IntKind) (a b : Int) : binP .add (.int k a) (.int k b) = some (.int k (k.wrap (a + b))) := by simp [binP, intOp]
theorem b_sub (k : IntKind) (a b : Int) : binP .sub (.int k a) (.int k b) = some (.int k (k.wrap (a - b))) := by simp [binP, intOp]
theorem b_mul (k : IntKind) (a b : Int) : binP .mul (.int k a) (.int k b) = some (.int k (k.wrap (a * b))) := by simp [binP, intOp]
theorem b_seql (a b : ByteArray) : binP .eql (.str a) (.str b) = some (.bool (strEq a b)) := rfl
theorem b_sneq (a b : ByteArray) : binP .neq (.str a) (.str b) = some (.bool (!strEq a b)) := rfl
theorem bb_eql (a b : Bool) : binBV .eql (.bool a) (.bool b) = some (.bool (a == b)) := rfl
theorem bb_neq (a b : Bool) : binBV .neq (.bool a) (.bool b) = some (.bool (!(a == b))) := rfl
def ldP (m : Option Nat) (off : Nat) : Option Blk → Option LV
  | some (.cells cs _) => pkV m off cs
  | _ => none
theorem ld_ptr (m : Option Nat) (h : Heap) (b off : Nat) : ldV m h (.ptr b off) = ldP m off (h.getD b none) := rfl
theorem ldP_c (m : Option Nat) (off : Nat) (cs : List LV) (ty : Nat) : ldP m off (some (.cells cs ty)) = pkV m off cs := rfl
theorem ld_eptr (m : Option Nat) (h : Heap) (cs : List LV) (off : Nat) : ldV m h (.eptr cs off) = pkV m off cs := rfl
theorem pk_some (n off : Nat) (cs : List LV) : pkV (some n) off cs = (getAt cs off n).map .agg := rfl
theorem pk_none (off : Nat) (cs : List LV) : pkV none off cs = cs[off]? := rfl
theorem un_not (b : Bool) : unV .not (.bool b) = some (.bool (!b)) := rfl
theorem pick_b (c a b : Bool) : pickR (.bool c) (.bool a) (.bool b) = some (.bool (bif c then a else b)) := rfl
theorem pick_t (x : LV) (b : Bool) : pickR (.bool true) x (.bool b) = some x := by cases x <;> rfl
theorem pick_f (x : LV) (b : Bool) : pickR (.bool false) x (.bool b) = some (.bool b) := by cases x <;> rfl
theorem pick_tb (x : LV) (b : Bool) : pickR (.bool true) (.bool b) x = some (.bool b) := by cases x <;> rfl
theorem pick_fb (x : LV) (b : Bool) : pickR (.bool false) (.bool b) x = some x := by cases x <;> rfl
theorem fd_agg (m : Option Nat) (off : Nat) (cs : List LV) : fdV m off (.agg cs) = pkV m off cs := rfl
def ixO (o : Option (List LV)) : Option LV := match o with
  | some x => some (.eptr x 0)
  | none => none
theorem ixO_s (x : List LV) : ixO (some x) = some (.eptr x 0) := rfl
theorem ix_sl (s : Nat) (h : Heap) (nl : Option Bool) (ex : Bool) (es : List (List LV)) (k : IntKind) (i : Int) (hi : 0 ≤ i) : ixV s h (.sl s nl ex es) (.int k i) = ixO es[i.toNat]? := by
  simp only [ixV, hi, decide_true, cond_true, beq_self_eq_true]
  cases es[i.toNat]? <;> rfl
theorem ix_nat (s : Nat) (h : Heap) (nl : Option Bool) (ex : Bool) (es : List (List LV)) (k : IntKind) (i : Nat) : ixV s h (.sl s nl ex es) (.int k (i : Int)) = ixO es[i]? := ix_sl s h nl ex es k i (by omega)
theorem len_sl (h : Heap) (s : Nat) (nl : Option Bool) (ex : Bool) (es : List (List LV)) : lenSV h (.sl s nl ex es) = some (.int .i64 es.length) := rfl
theorem len_str (s : ByteArray) : lenTV (.str s) = some (.int .i64 s.size) := rfl
theorem ext_tup (vs : List LV) (i : Nat) : extV (.tup vs) i = vs[i]? := rfl
theorem cv_int (k k' : IntKind) (i : Int) : cvV k (.int k' i) = some (.int k (k.wrap i)) := rfl
theorem wrap_id {x : Int} (h1 : -9223372036854775808 ≤ x) (h2 : x < 9223372036854775808) : IntKind.i64.wrap x = x := by
  rw [IntWalk.i64_left]
  unfold RowKit.wrap64
  omega
def itx (n k : Nat) (f : G → Heap → ND (Ex × G × Heap)) (x : ND (Ex × G × Heap)) : ND (Ex × G × Heap) := x.bind fun (e, g', h') => match e with
    | .normal => let s := truncF n g' h'; iterF n k f s.1 s.2
    | e => .ok (e, g', h')
theorem iterF_s (n k : Nat) (f : G → Heap → ND (Ex × G × Heap)) (g : G) (h : Heap) : iterF n (k + 1) f g h = itx n k f (f g h) := rfl
theorem clip_int (n : Nat) (k : IntKind) (i : Int) : (LV.int k i).clip n = .int k i := rfl
theorem clip_bool (n : Nat) (b : Bool) : (LV.bool b).clip n = .bool b := rfl
theorem clip_str (n : Nat) (s : ByteArray) : (LV.str s).clip n = .str s := rfl
theorem clip_sl (n s : Nat) (nl : Option Bool) (ex : Bool) (es : List (List LV)) : (LV.sl s nl ex es).clip n = .sl s nl ex es := rfl
theorem trunc_0 (g : G) (h : Heap) : truncF 0 g h = (g.map fun (i, v) => (i, v.clip 0), []) := by
  simp [truncF, heapRefs]
theorem mapc_nil (n : Nat) : (([] : G).map fun (i, v) => (i, v.clip n)) = [] := rfl
theorem mapc_cons (n i : Nat) (v : LV) (g : G) : (((i, v) :: g : G).map fun (i, v) => (i, v.clip n)) = (i, v.clip n) :: g.map fun (i, v) => (i, v.clip n) := rfl
theorem pv_int (n : Nat) (h : Heap) (k : IntKind) (i : Int) : pureV (n + 1) h (.int k i) = some (.int k i) := rfl
theorem pv_bool (n : Nat) (h : Heap) (b : Bool) : pureV (n + 1) h (.bool b) = some (.bool b) := rfl
def pvs (n : Nat) (h : Heap) : List LV → Option (List LV)
  | [] => some []
  | v :: vs => match pureV n h v, pvs n h vs with
    | some v, some vs => some (v :: vs)
    | _, _ => none
theorem pvs_eq (n : Nat) (h : Heap) : ∀ l : List LV, l.mapM (pureV n h) = pvs n h l
  | [] => rfl
  | v :: vs => by
    rw [List.mapM_cons, pvs_eq n h vs]
    simp only [pvs]
    cases pureV n h v with
    | none => rfl
    | some v => cases pvs n h vs <;> rfl
theorem pv_agg (n : Nat) (h : Heap) (cs ds : List LV) (e : pvs n h cs = some ds) : pureV (n + 1) h (.agg cs) = some (.agg ds) := by
  simp only [pureV, pvs_eq, e, Option.map_some]
theorem pv_tup (n : Nat) (h : Heap) (cs ds : List LV) (e : pvs n h cs = some ds) : pureV (n + 1) h (.tup cs) = some (.tup ds) := by
  simp only [pureV, pvs_eq, e, Option.map_some]
def Open (v : LV) : Prop := v.refs = [] ∧ ∀ h, pureV pureDepth h v = some v
def OpenL : List LV → Prop
  | [] => True
  | v :: vs => Open v ∧ OpenL vs
theorem open_int (k : IntKind) (i : Int) : Open (.int k i) := ⟨rfl, fun _ => rfl⟩
theorem open_sl (s : Nat) (nl : Option Bool) (ex : Bool) (es : List (List LV)) : Open (.sl s nl ex es) := ⟨rfl, fun _ => rfl⟩
theorem openL_pure {h : Heap} : ∀ {vs : List LV}, OpenL vs → vs.mapM (pureV pureDepth h) = some vs ∧ refsL vs = []
  | [], _ => ⟨rfl, rfl⟩
  | v :: vs, ⟨h1, h2⟩ => by
    obtain ⟨e1, e2⟩ := openL_pure (h := h) h2
    refine ⟨by rw [List.mapM_cons, h1.2 h, e1]; rfl, by simp only [refsL, h1.1, e2, List.append_nil]⟩
def Gives (K : Ctx) (n f : Nat) (vs : List LV) (v : LV) : Prop := ∃ u h, callN K n (.fn (.func f) [] []) vs [] = .ok (u, h) ∧ pureV pureDepth h u = some v
theorem iso_gives {K : Ctx} {n f : Nat} {vs : List LV} {v : LV} {h : Heap} {s : String} (ho : OpenL vs) (hg : Gives K n f vs v) : callIso s (callN K n) (.fn (.func f) [] []) vs h = .ok v := by
  obtain ⟨u, h', e1, e2⟩ := hg
  obtain ⟨p1, p2⟩ := openL_pure (h := h) ho
  unfold callIso
  have pf : pureV pureDepth h (.fn (.func f) [] []) = some (.fn (.func f) [] []) := rfl
  rw [pf, p1]
  simp only [e1, ND.bind, e2, LV.refs, refsL, p2, List.append_nil, List.isEmpty_nil, Bool.and_self, Bool.true_or, cond_true]
theorem gives_of {K : Ctx} {n f na : Nat} {x : TF} {rs : List ResultVar} {vs : List LV} {v u : LV} {h : Heap} (F : FnOK K f na x rs) (hl : vs.length = na) (hx : callT K n x rs vs [] = .ok (u, h)) (hp : pureV pureDepth h u = some v) : Gives K (n + 1) f vs v :=
  ⟨u, h, (callT_ref F (first := []) (caps := []) (args := vs) (by simpa using hl)).ok (by simpa using hx), hp⟩
end Go.LH


set_option linter.unusedVariables false
set_option linter.unusedSimpArgs false
namespace Go.LH
def CFle (cf cf' : CallF) : Prop := ∀ f args h, Ref (cf f args h) (cf' f args h)
section
variable {K : Ctx} {cf cf' : CallF}
theorem shared_mono (H : CFle cf cf') (f : LV) (args : List LV) (σ : Fr) : Ref (callShared cf f args σ) (callShared cf' f args σ) := by
  unfold callShared
  exact (H _ _ _).bind fun _ => Ref.refl _
theorem iso_mono (H : CFle cf cf') (s : String) (f : LV) (args : List LV) (h : Heap) : Ref (callIso s cf f args h) (callIso s cf' f args h) := by
  unfold callIso
  split
  · exact (H _ _ _).bind fun _ => Ref.refl _
  · exact Ref.refl _
theorem cond_ref {α : Type} {b : Bool} {x y x' y' : ND α} (h1 : Ref x x') (h2 : Ref y y') : Ref (bif b then x else y) (bif b then x' else y') := by
  cases b with
  | true => exact h1
  | false => exact h2
theorem opStep_mono (H : CFle cf cf') (o : Oper) (σ : Fr) : Ref (opStep K cf o σ) (opStep K cf' o σ) := by
  unfold opStep
  simp only
  split
  all_goals first | exact Ref.refl _ | skip
  split
  all_goals first | exact Ref.refl _ | skip
  exact cond_ref (shared_mono H _ _ _).map (iso_mono H _ _ _ _).map
theorem runOp_mono (H : CFle cf cf') (o : Oper) (σ : Fr) : Ref (runOp K cf o σ) (runOp K cf' o σ) := by
  unfold runOp
  split
  · exact opStep_mono H o σ
  · exact (opStep_mono H o _).map
theorem runOps_mono (H : CFle cf cf') (ops : Array Oper) : ∀ (l : List Oper) (σ : Fr), Ref (runOps K cf ops l σ) (runOps K cf' ops l σ)
  | [], σ => Ref.refl _
  | o :: l, σ => by
    simp only [runOps]
    split
    · rename_i w _
      cases w with
      | true => exact (runOp_mono H o σ).bind fun p => (runOps_mono H ops l p.2).map
      | false => exact (runOps_mono H ops l _).map
    · exact Ref.refl _
theorem iter_mono {n : Nat} {f f' : Fr → ND (Ex × Fr)} (hf : ∀ σ, Ref (f σ) (f' σ)) : ∀ (k k' : Nat) (σ : Fr), k ≤ k' → Ref (iterL n k f σ) (iterL n k' f' σ)
  | 0, k', σ, h => trivial
  | k + 1, 0, σ, h => absurd h (by omega)
  | k + 1, k' + 1, σ, h => by
    simp only [iterL]
    refine (hf σ).bind fun p => ?_
    obtain ⟨e, σ'⟩ := p
    cases e with
    | normal => exact iter_mono hf k k' _ (by omega)
    | _ => exact Ref.refl _
theorem exec_mono {n n' : Nat} (hn : n ≤ n') (H : CFle cf cf') (ro : Option Nat) : ∀ (c : Code) (σ : Fr), Ref (exec K n ro cf c σ) (exec K n' ro cf' c σ)
  | .skip, σ => Ref.refl _
  | .label l, σ => Ref.refl _
  | .exit l, σ => Ref.refl _
  | .ret, σ => Ref.refl _
  | .goto l, σ => Ref.refl _
  | .refuse s, σ => Ref.refl _
  | .region id ops false, σ => by
    simp only [exec]
    exact (runOps_mono H ops _ σ).bind fun _ => Ref.refl _
  | .region id ops true, σ => by
    simp only [exec]
    have := runOps_mono (K := K) H ops ops.toList σ
    cases h : runOps K cf ops ops.toList σ with
    | ok a =>
      rw [h] at this
      rw [show runOps K cf' ops ops.toList σ = .ok a from this]
      exact Ref.refl _
    | bad s => exact trivial
    | pick m k => exact trivial
  | .seq a b, σ => by
    simp only [exec]
    refine (exec_mono hn H ro a σ).bind fun p => ?_
    obtain ⟨e, σ'⟩ := p
    cases e with
    | normal => exact exec_mono hn H ro b σ'
    | _ => exact Ref.refl _
  | .cond c a b, σ => by
    simp only [exec]
    split
    · rename_i t _
      cases t with
      | true => exact exec_mono hn H ro a σ
      | false => exact exec_mono hn H ro b σ
    · exact Ref.refl _
  | .block id c, σ => by
    simp only [exec]
    exact (exec_mono hn H ro c σ).bind fun _ => Ref.refl _
  | .loop c, σ => by
    simp only [exec]
    exact iter_mono (fun σ => exec_mono hn H ro c σ) n n' σ hn
  | .scope c, σ => by
    simp only [exec]
    exact exec_mono hn H ro c σ
  | .rangeFunc f ps asg body, σ => by
    simp only [exec]
    cases roOk ro σ.h && isFnV (ev K σ.t f) with
    | true => exact (shared_mono H _ _ _).bind fun _ => Ref.refl _
    | false => exact Ref.refl _
theorem callN_mono : ∀ (n n' : Nat), n ≤ n' → CFle (callN K n) (callN K n')
  | 0, n', h => fun _ _ _ => trivial
  | n + 1, 0, h => absurd h (by omega)
  | n + 1, n' + 1, h => fun f args hp => by
    have ih := callN_mono n n' (by omega)
    simp only [callN]
    split
    · split
      · split
        · exact (exec_mono (by omega) ih none _ _).bind fun _ => Ref.refl _
        · exact Ref.refl _
      · exact Ref.refl _
    · split
      · rename_i fn t ps asg body _
        cases args.length == ps.length with
        | true =>
          refine (exec_mono (by omega) ih _ _ _).bind fun p => ?_
          obtain ⟨e, σ⟩ := p
          cases e with
          | normal =>
            simp only
            split
            · exact (exec_mono (by omega) ih _ _ _).bind fun _ => Ref.refl _
            · exact Ref.refl _
          | _ => exact Ref.refl _
        | false => exact Ref.refl _
      · exact Ref.refl _
    · exact Ref.refl _
end
end Go.LH

