/- Part of the proof: an interpreter of the program, and that the machine meets it. -/
import Derived.Test.YtglhnodmpifjhaaA4
set_option linter.all false

set_option linter.unusedVariables false
namespace Go.LH
def W {α : Type} (m : Bool) (x : ND α) (Q : α → Prop) : Prop := match m with
  | true => ∃ a, x = .ok a ∧ Q a
  | false => x.all Q
theorem w_ok {α : Type} {m : Bool} {a : α} {Q : α → Prop} : W m (.ok a) Q ↔ Q a := by
  cases m with
  | true => exact ⟨fun ⟨b, h1, h2⟩ => by cases h1; exact h2, fun h => ⟨a, rfl, h⟩⟩
  | false => exact Iff.rfl
theorem w_bind {α β : Type} {m : Bool} {x : ND α} {f : α → ND β} {Q : β → Prop} : W m (x.bind f) Q ↔ W m x fun a => W m (f a) Q := by
  cases m with
  | true =>
    constructor
    · rintro ⟨b, h1, h2⟩
      obtain ⟨a, k1, k2⟩ := bind_ok h1
      exact ⟨a, k1, b, k2, h2⟩
    · rintro ⟨a, rfl, b, h1, h2⟩
      exact ⟨b, h1, h2⟩
  | false => exact ND.all_bind
theorem W.mono {α : Type} {m : Bool} {x : ND α} {Q R : α → Prop} (h : W m x Q) (k : ∀ a, Q a → R a) : W m x R := by
  cases m with
  | true => obtain ⟨a, h1, h2⟩ := h; exact ⟨a, h1, k a h2⟩
  | false =>
    induction x with
    | ok a => exact k a h
    | bad s => exact h
    | pick n f ih => exact fun i hi => ih i (h i hi)
theorem W.ref {α : Type} {m : Bool} {x y : ND α} {Q : α → Prop} (r : Ref x y) (h : W m x Q) : W m y Q := by
  cases m with
  | true => obtain ⟨a, rfl, h2⟩ := h; exact ⟨a, r, h2⟩
  | false =>
    induction x generalizing y with
    | ok a => rw [show y = .ok a from r]; exact h
    | bad s => exact h.elim
    | pick n f ih =>
      obtain ⟨k', rfl, h3⟩ := r
      exact fun i hi => ih i (h3 i) (h i hi)
def WP (m : Bool) (x : ND (Ex × G × Heap)) (Q : Ex → G → Heap → Prop) : Prop := W m x fun p => Q p.1 p.2.1 p.2.2
section
variable {md : Bool}
theorem wp_ok {e : Ex} {g : G} {h : Heap} {Q : Ex → G → Heap → Prop} : WP md (.ok (e, g, h)) Q ↔ Q e g h := w_ok
theorem WP.mono {x : ND (Ex × G × Heap)} {Q R : Ex → G → Heap → Prop} (h : WP md x Q) (k : ∀ e g h, Q e g h → R e g h) : WP md x R := W.mono h fun a => k _ _ _
def sqQ (md : Bool) (f : G → Heap → ND (Ex × G × Heap)) (Q : Ex → G → Heap → Prop) : Ex → G → Heap → Prop
  | .normal, g, h => WP md (f g h) Q
  | e, g, h => Q e g h
theorem wp_sq {x : ND (Ex × G × Heap)} {f : G → Heap → ND (Ex × G × Heap)} {Q : Ex → G → Heap → Prop} : WP md (sq x f) Q ↔ WP md x (sqQ md f Q) := by
  unfold WP sq
  rw [w_bind]
  have : ∀ a : Ex × G × Heap, (W md (match a with
      | (e, g, h) => match e with
        | .normal => f g h
        | e => .ok (e, g, h)) fun p => Q p.1 p.2.1 p.2.2) ↔ sqQ md f Q a.1 a.2.1 a.2.2 := by
    rintro ⟨e, g, h⟩
    cases e with
    | normal => exact Iff.rfl
    | _ => exact w_ok
  exact ⟨fun h => h.mono fun a => (this a).1, fun h => h.mono fun a => (this a).2⟩
theorem sqQ_n {f : G → Heap → ND (Ex × G × Heap)} {Q : Ex → G → Heap → Prop} {g : G} {h : Heap} : sqQ md f Q .normal g h ↔ WP md (f g h) Q := Iff.rfl
theorem sqQ_r {f : G → Heap → ND (Ex × G × Heap)} {Q : Ex → G → Heap → Prop} {g : G} {h : Heap} : sqQ md f Q .ret g h ↔ Q .ret g h := Iff.rfl
theorem sqQ_x {f : G → Heap → ND (Ex × G × Heap)} {Q : Ex → G → Heap → Prop} {i : Nat} {g : G} {h : Heap} : sqQ md f Q (.exit i) g h ↔ Q (.exit i) g h := Iff.rfl
def bkQ (id : Nat) (Q : Ex → G → Heap → Prop) : Ex → G → Heap → Prop
  | .exit i, g, h => bif i == id then Q .normal g h else Q (.exit i) g h
  | e, g, h => Q e g h
theorem wp_bk {x : ND (Ex × G × Heap)} {id : Nat} {Q : Ex → G → Heap → Prop} : WP md (bk id x) Q ↔ WP md x (bkQ id Q) := by
  unfold WP bk
  rw [w_bind]
  have : ∀ a : Ex × G × Heap, (W md (match a with
      | (e, g, h) => match e with
        | .exit id' => bif id' == id then .ok (.normal, g, h) else .ok (.exit id', g, h)
        | e => .ok (e, g, h)) fun p => Q p.1 p.2.1 p.2.2) ↔ bkQ id Q a.1 a.2.1 a.2.2 := by
    rintro ⟨e, g, h⟩
    cases e with
    | exit i =>
      simp only [bkQ]
      cases i == id with
      | true => exact w_ok
      | false => exact w_ok
    | _ => exact w_ok
  exact ⟨fun h => h.mono fun a => (this a).1, fun h => h.mono fun a => (this a).2⟩
theorem bkQ_n {id : Nat} {Q : Ex → G → Heap → Prop} {g : G} {h : Heap} : bkQ id Q .normal g h ↔ Q .normal g h := Iff.rfl
theorem bkQ_r {id : Nat} {Q : Ex → G → Heap → Prop} {g : G} {h : Heap} : bkQ id Q .ret g h ↔ Q .ret g h := Iff.rfl
theorem bkQ_x {id : Nat} {Q : Ex → G → Heap → Prop} {i : Nat} {g : G} {h : Heap} : bkQ id Q (.exit i) g h ↔ bif i == id then Q .normal g h else Q (.exit i) g h := Iff.rfl
theorem wp_cnd {b : Bool} {x y : ND (Ex × G × Heap)} {Q : Ex → G → Heap → Prop} : WP md (cnd (some (.bool b)) x y) Q ↔ (b = true → WP md x Q) ∧ (b = false → WP md y Q) := by
  cases b <;> simp [cnd]
def itQ (md : Bool) (n k : Nat) (f : G → Heap → ND (Ex × G × Heap)) (Q : Ex → G → Heap → Prop) : Ex → G → Heap → Prop
  | .normal, g, h => WP md (iterF n k f (truncF n g h).1 (truncF n g h).2) Q
  | e, g, h => Q e g h
theorem wp_it {n k : Nat} {f : G → Heap → ND (Ex × G × Heap)} {g : G} {h : Heap} {Q : Ex → G → Heap → Prop} (hw : WP md (f g h) (itQ md n k f Q)) : WP md (iterF n (k + 1) f g h) Q := by
  rw [iterF_s]
  unfold WP itx
  rw [w_bind]
  refine W.mono hw fun a ha => ?_
  obtain ⟨e, g', h'⟩ := a
  cases e with
  | normal => exact ha
  | _ => exact w_ok.2 ha
def lpQ (n m : Nat) (I : Nat → G → Heap → Prop) (Q : Ex → G → Heap → Prop) : Ex → G → Heap → Prop
  | .normal, g, h => ∃ m', m' < m ∧ I m' (truncF n g h).1 (truncF n g h).2
  | e, g, h => Q e g h
theorem lpQ_n {n m : Nat} {I : Nat → G → Heap → Prop} {Q : Ex → G → Heap → Prop} {g : G} {h : Heap} : lpQ n m I Q .normal g h ↔ ∃ m', m' < m ∧ I m' (truncF n g h).1 (truncF n g h).2 := Iff.rfl
theorem lpQ_r {n m : Nat} {I : Nat → G → Heap → Prop} {Q : Ex → G → Heap → Prop} {g : G} {h : Heap} : lpQ n m I Q .ret g h ↔ Q .ret g h := Iff.rfl
theorem lpQ_x {n m : Nat} {I : Nat → G → Heap → Prop} {Q : Ex → G → Heap → Prop} {i : Nat} {g : G} {h : Heap} : lpQ n m I Q (.exit i) g h ↔ Q (.exit i) g h := Iff.rfl
theorem wp_loop {n : Nat} {f : G → Heap → ND (Ex × G × Heap)} {Q : Ex → G → Heap → Prop} (I : Nat → G → Heap → Prop) (step : ∀ m g h, I m g h → WP md (f g h) (lpQ n m I Q)) : ∀ (k m : Nat) (g : G) (h : Heap), I m g h → m < k → WP md (iterF n k f g h) Q
  | 0, m, g, h, hi, hk => absurd hk (by omega)
  | k + 1, m, g, h, hi, hk => by
    refine wp_it ((step m g h hi).mono fun e g' h' hq => ?_)
    cases e with
    | normal =>
      obtain ⟨m', h1, h2⟩ := hq
      exact wp_loop I step k m' _ _ h2 (by omega)
    | _ => exact hq
def retQ (K : Ctx) (rs : List ResultVar) (R : LV → Heap → Prop) : Ex → G → Heap → Prop
  | .normal, g, h => ∃ vs, resL K h g rs = some vs ∧ R (packR vs) h
  | .ret, g, h => ∃ vs, resL K h g rs = some vs ∧ R (packR vs) h
  | _, _, _ => False
theorem wp_call {K : Ctx} {n : Nat} {x : TF} {rs : List ResultVar} {t : List LV} {h : Heap} {R : LV → Heap → Prop} (hw : WP md (execT K n (callN K n) x (argsG 0 t) h) (retQ K rs R)) : W md (callT K n x rs t h) fun p => R p.1 p.2 := by
  unfold callT
  rw [w_bind]
  refine W.mono hw fun a h2 => ?_
  obtain ⟨e, g, h'⟩ := a
  cases e with
  | normal => obtain ⟨vs, e1, e2⟩ := h2; simp only at e1; simp only [endF, e1]; exact w_ok.2 e2
  | ret => obtain ⟨vs, e1, e2⟩ := h2; simp only at e1; simp only [endF, e1]; exact w_ok.2 e2
  | exit i => exact h2.elim
  | panic v => exact h2.elim
def lkO (o : Option (List LV)) (R : LV → Prop) : Prop := ∃ vs, o = some vs ∧ R (packR vs)
theorem lkO_s {vs : List LV} {R : LV → Prop} : lkO (some vs) R ↔ R (packR vs) := by simp [lkO]
theorem retQ_n {K : Ctx} {rs : List ResultVar} {R : LV → Heap → Prop} {g : G} {h : Heap} : retQ K rs R .normal g h ↔ lkO (resL K h g rs) fun v => R v h := Iff.rfl
theorem retQ_r {K : Ctx} {rs : List ResultVar} {R : LV → Heap → Prop} {g : G} {h : Heap} : retQ K rs R .ret g h ↔ lkO (resL K h g rs) fun v => R v h := Iff.rfl
def resC (o : Option LV) (os : Option (List LV)) : Option (List LV) := match o, os with
  | some v, some vs => some (v :: vs)
  | _, _ => none
theorem resL_nil (K : Ctx) (h : Heap) (g : G) : resL K h g [] = some [] := rfl
theorem resL_tmp (K : Ctx) (h : Heap) (g : G) (t : Nat) (r : List ResultVar) : resL K h g (.tmp t :: r) = resC (lk g t) (resL K h g r) := rfl
theorem resL_cell (K : Ctx) (h : Heap) (g : G) (a t : Nat) (r : List ResultVar) : resL K h g (.cell a t :: r) = resC (o1 (lk g a) (loadV K h t)) (resL K h g r) := rfl
theorem resC_s (v : LV) (vs : List LV) : resC (some v) (some vs) = some (v :: vs) := rfl
theorem pack1 (v : LV) : packR [v] = v := rfl
theorem pack2 (v w : LV) : packR [v, w] = .tup [v, w] := rfl
theorem pack0 : packR [] = .tup [] := rfl
def IsV (v : LV) (u : LV) (h : Heap) : Prop := pureV pureDepth h u = some v
theorem gives_wp {K : Ctx} {n f na : Nat} {x : TF} {rs : List ResultVar} {vs : List LV} {v : LV} (F : FnOK K f na x rs) (hl : vs.length = na) (hw : WP true (execT K n (callN K n) x (argsG 0 vs) []) (retQ K rs (IsV v))) : Gives K (n + 1) f vs v := by
  obtain ⟨⟨u, h'⟩, h1, h2⟩ := wp_call hw
  exact gives_of F hl h1 h2
def GivesA (K : Ctx) (n f : Nat) (vs : List LV) (v : LV) : Prop := (callN K n (.fn (.func f) [] []) vs []).all fun p => pureV pureDepth p.2 p.1 = some v
theorem givesA_wp {K : Ctx} {n f na : Nat} {x : TF} {rs : List ResultVar} {vs : List LV} {v : LV} (F : FnOK K f na x rs) (hl : vs.length = na) (hw : WP false (execT K n (callN K n) x (argsG 0 vs) []) (retQ K rs (IsV v))) : GivesA K (n + 1) f vs v :=
  W.ref (m := false) (callT_ref F (first := []) (caps := []) (args := vs) (by simpa using hl)) (by simp only [List.nil_append, List.append_nil]; exact wp_call hw)
theorem iso_givesA {K : Ctx} {n f : Nat} {vs : List LV} {v : LV} {h : Heap} {s : String} (ho : OpenL vs) (hg : GivesA K n f vs v) : (callIso s (callN K n) (.fn (.func f) [] []) vs h).all (· = v) := by
  obtain ⟨p1, p2⟩ := openL_pure (h := h) ho
  unfold callIso
  have pf : pureV pureDepth h (.fn (.func f) [] []) = some (.fn (.func f) [] []) := rfl
  rw [pf, p1]
  simp only
  rw [ND.all_bind]
  refine W.mono (m := false) hg fun p hp => ?_
  obtain ⟨u, h'⟩ := p
  simp only at hp
  simp only [hp, LV.refs, refsL, p2, List.append_nil, List.isEmpty_nil, Bool.and_self, Bool.true_or, cond_true]
  rfl
def flatV : LV → Bool
  | .int _ _ | .bool _ | .str _ | .sl _ _ _ _ => true
  | _ => false
theorem flat_pure {v : LV} (h : flatV v = true) (n : Nat) (hp : Heap) : pureV (n + 1) hp v = some v ∧ v.refs = [] := by
  cases v <;> first | (cases h; done) | exact ⟨rfl, rfl⟩
theorem flats_pure : ∀ {l : List LV}, l.all flatV = true → ∀ (n : Nat) (hp : Heap), pvs (n + 1) hp l = some l ∧ refsL l = []
  | [], _, n, hp => ⟨rfl, rfl⟩
  | v :: l, h, n, hp => by
    simp only [List.all_cons, Bool.and_eq_true] at h
    obtain ⟨h1, h2⟩ := flat_pure h.1 n hp
    obtain ⟨h3, h4⟩ := flats_pure h.2 n hp
    simp only [pvs, h1, h3, refsL, h2, h4, List.append_nil, and_self]
theorem open_agg {l : List LV} (h : l.all flatV = true) : Open (.agg l) := ⟨by simp only [LV.refs]; exact (flats_pure h 0 []).2, fun hp => pv_agg _ _ _ _ (flats_pure h _ hp).1⟩
theorem open_tup {l : List LV} (h : l.all flatV = true) : Open (.tup l) := ⟨by simp only [LV.refs]; exact (flats_pure h 0 []).2, fun hp => pv_tup _ _ _ _ (flats_pure h _ hp).1⟩
theorem isV_open {v : LV} {h : Heap} (o : Open v) : IsV v v h := o.2 h
theorem isV_int {k : IntKind} {i j : Int} {h : Heap} : IsV (.int k i) (.int k j) h ↔ j = i := by
  unfold IsV; rw [show pureDepth = 7 + 1 from rfl, pv_int]; simp
theorem isV_bool {i j : Bool} {h : Heap} : IsV (.bool i) (.bool j) h ↔ j = i := by
  unfold IsV; rw [show pureDepth = 7 + 1 from rfl, pv_bool]; simp
theorem isV_agg {l : List LV} {h : Heap} (e : l.all flatV = true) : IsV (.agg l) (.agg l) h := isV_open (open_agg e)
theorem isV_tup {l : List LV} {h : Heap} (e : l.all flatV = true) : IsV (.tup l) (.tup l) h := isV_open (open_tup e)
theorem isV_sl {s : Nat} {nl : Option Bool} {ex : Bool} {es : List (List LV)} {h : Heap} : IsV (.sl s nl ex es) (.sl s nl ex es) h := isV_open (open_sl s nl ex es)
end
theorem nd_map_ok {α β : Type} (f : α → β) (a : α) : (ND.ok a).map f = .ok (f a) := rfl
def stO (d : Option Nat) (g : G) : Option Heap → ND (Nat × G × Heap)
  | some h' => .ok (2, putG g d (.tup []), h')
  | none => .bad "op"
theorem stO_s (d : Option Nat) (g : G) (h : Heap) : stO d g (some h) = .ok (2, putG g d (.tup []), h) := rfl
theorem stF_ptr (d : Option Nat) (n : Nat) (g : G) (h : Heap) (b off : Nat) (x : LV) : stF d n g h (some (.ptr b off)) (some x) = stO d g (stV n h (.ptr b off) x) := by
  simp only [stF, intoPure, cond_false]
  cases stV n h (.ptr b off) x <;> rfl
def stB (h : Heap) (b off : Nat) (ns : List LV) : Option Blk → Option Heap
  | some (.cells cs e) => (setAt cs off ns).map fun cs' => h.set b (some (.cells cs' e))
  | _ => none
theorem stB_c (h : Heap) (b off : Nat) (ns cs : List LV) (e : Nat) : stB h b off ns (some (.cells cs e)) = (setAt cs off ns).map fun cs' => h.set b (some (.cells cs' e)) := rfl
def stN (n : Nat) (h : Heap) (b off : Nat) : Option (List LV) → Option Heap
  | some ns => bif ns.length == n then stB h b off ns (h.getD b none) else none
  | none => none
theorem stN_s (n : Nat) (h : Heap) (b off : Nat) (ns : List LV) : stN n h b off (some ns) = bif ns.length == n then stB h b off ns (h.getD b none) else none := rfl
theorem stV_ptr (n : Nat) (h : Heap) (b off : Nat) (x : LV) : stV n h (.ptr b off) x = stN n h b off x.cells := by
  unfold stV stN
  cases x.cells with
  | none => rfl
  | some ns => rfl
theorem setAt_nil (cs : List LV) : setAt cs 0 [] = some cs := by cases cs <;> rfl
theorem setAt_z (c n : LV) (cs ns : List LV) : setAt (c :: cs) 0 (n :: ns) = (setAt cs 0 ns).map (n :: ·) := rfl
theorem setAt_s (c : LV) (o : Nat) (cs ns : List LV) : setAt (c :: cs) (o + 1) ns = (setAt cs o ns).map (c :: ·) := by
  cases ns <;> rfl
theorem xsF_s (K : Ctx) (cf : CallF) (d : Option Nat) (g : G) (h : Heap) (o : XO) (vs : List LV) : xsF K cf d g h o (some vs) = xF d g (xsem K cf o vs h) := rfl
theorem xF_n (d : Option Nat) (g : G) (c : Nat) (v : LV) (h : Heap) : xF d g (.ok (c, v, none, h)) = .ok (c, putG g d v, h) := rfl
theorem xF_s (d : Option Nat) (g : G) (c : Nat) (v : LV) (φ : LV → LV) (h : Heap) : xF d g (.ok (c, v, some φ, h)) = .ok (c, putG (g.map fun (i, v) => (i, φ v)) d v, h) := rfl
def bslX (l : List Nat) (x : ND XR) : ND XR := match l with
  | [] => x
  | _ => .bad "freeze"
theorem bslX_n (x : ND XR) : bslX [] x = x := rfl
theorem x_bsl (K : Ctx) (cf : CallF) (s : Nat) (z : List LV) (len et : Nat) (ix : List Nat) (rw : Bool) (vs : List LV) (h : Heap) : xsem K cf (.bsl s z len et ix rw) vs h = bslX (bif rw then [] else (refsL vs).filter fun b => frzable (h.getD b none)) (bslR s len et rw h (fillE s (List.replicate len z) (ix.zip vs))) := rfl
def fillC (s : Nat) (es : List (List LV)) (i : Nat) (rest : List (Nat × LV)) : Option (List LV) → Option (List (List LV))
  | some cs => bif cs.length == s && Nat.blt i es.length then fillE s (es.set i cs) rest else none
  | none => none
theorem fill_c (s : Nat) (es : List (List LV)) (i : Nat) (v : LV) (rest : List (Nat × LV)) : fillE s es ((i, v) :: rest) = fillC s es i rest v.cells := by
  simp only [fillE, fillC]
  cases v.cells with
  | none => rfl
  | some cs => simp [Bool.cond_eq_ite, Nat.blt_eq]
theorem fillC_s (s : Nat) (es : List (List LV)) (i : Nat) (rest : List (Nat × LV)) (cs : List LV) : fillC s es i rest (some cs) = bif cs.length == s && Nat.blt i es.length then fillE s (es.set i cs) rest else none := rfl
theorem fill_n (s : Nat) (es : List (List LV)) : fillE s es [] = some es := rfl
theorem bsl_s (s len et : Nat) (h : Heap) (es : List (List LV)) (hr : noRefs es = true) (hs : (s == 0) = false) : bslR s len et false h (some es) = .ok (1, .sl s (some false) true es, none, h) := by
  have : decide (0 < s) = true := by simp at hs ⊢; omega
  simp only [bslR, hr, this, cond_false, Bool.true_or, Bool.and_self, cond_true]
theorem bsl_r (s len et : Nat) (h : Heap) (es : List (List LV)) (hr : noRefs es = true) (hs : (s == 0) = false) : bslR s len et true h (some es) = .ok (1, .row h.length s none, none, h ++ [some (.row true true es s et)]) := by
  have : decide (0 < s) = true := by simp at hs ⊢; omega
  simp only [bslR, hr, this, cond_true, Bool.and_self]
theorem refsL_c (v : LV) (vs : List LV) : refsL (v :: vs) = v.refs ++ refsL vs := by simp only [refsL]
theorem refsL_n : refsL [] = [] := by simp only [refsL]
theorem refs_int (k : IntKind) (i : Int) : (LV.int k i).refs = [] := rfl
theorem refs_bool (b : Bool) : (LV.bool b).refs = [] := rfl
theorem refs_str (b : ByteArray) : (LV.str b).refs = [] := rfl
theorem refs_sl (s : Nat) (nl : Option Bool) (ex : Bool) (es : List (List LV)) : (LV.sl s nl ex es).refs = [] := rfl
theorem refs_agg (l : List LV) : (LV.agg l).refs = refsL l := by simp only [LV.refs]
theorem noRefs_n : noRefs [] = true := rfl
theorem noRefs_c (e : List LV) (es : List (List LV)) : noRefs (e :: es) = ((refsL e).isEmpty && noRefs es) := rfl
theorem x_cal (K : Ctx) (cf : CallF) (f : LV) (args : List LV) (h : Heap) : xsem K cf .cal (f :: args) h = calX K cf f args h := rfl
theorem calX_iso {K : Ctx} {cf : CallF} {f : Nat} {args : List LV} {h : Heap} {v : LV} {a b : List LV} (hi : K.iso f = 1) (hc : callIso "" cf (.fn (.func f) a b) args h = .ok v) : calX K cf (.fn (.func f) a b) args h = .ok (1, v, none, h) := by
  unfold calX
  simp only [isoOf, hi, hc]
  rfl
theorem slcF_s (s : Nat) (h : Heap) (x : LV) (lo hi mx : Option LV) : slcF s h (some x) (some lo) (some hi) (some mx) = slcV s h x lo hi mx := rfl
theorem foldX_s (m : LV → LV → Option LV) (x : LV) (xs : List LV) : foldX m (some x) (some xs) = foldO m x xs := rfl
theorem mn_1 (k : IntKind) (a b : Int) : foldO minL (.int k a) [.int k b] = some (.int k (bif decide (b < a) then b else a)) := rfl
theorem mx_1 (k : IntKind) (a b : Int) : foldO maxL (.int k a) [.int k b] = some (.int k (bif decide (a < b) then b else a)) := rfl
theorem slc_lo (s : Nat) (h : Heap) (nl : Option Bool) (ex : Bool) (es : List (List LV)) (i : IntKind) (k : Nat) (hk : k ≤ es.length) : slcV s h (.sl s nl ex es) (some (.int i (k : Int))) none none = some (.sl s (if nl = some true then some true else none) ex (es.drop k)) := by
  simp [slcV, sliceV.bd, intOf?, hk]
theorem slc_clip (s : Nat) (h : Heap) (nl : Option Bool) (ex : Bool) (es : List (List LV)) (i j : IntKind) : slcV s h (.sl s nl ex es) none (some (.int i (es.length : Int))) (some (.int j (es.length : Int))) = some (.sl s (if nl = some true then some true else none) true es) := by
  simp [slcV, sliceV.bd, intOf?]
theorem min_1 (k : Nat) : (bif decide ((k : Int) < 1) then (k : Int) else 1) = ((min 1 k : Nat) : Int) := by
  rcases Nat.eq_zero_or_pos k with h | h
  · subst h; rfl
  · have h1 : ¬ ((k : Int) < 1) := by omega
    have h2 : min 1 k = 1 := by omega
    simp [h1, h2]
theorem trunc_of {n : Nat} (g : G) {h h' : Heap} (e : h.take n = h') (hc : (heapRefs h').all (fun b => decide (b < n)) = true) : truncF n g h = (g.map fun (i, v) => (i, v.clip n), h') := by
  subst e
  simp only [truncF, hc, cond_true]
def noRow (h : Heap) : Bool := h.all fun b => !isRow b
theorem noRow_get {h : Heap} (hr : noRow h = true) (b : Nat) : isRow (h.getD b none) = false := by
  rw [List.getD_eq_getElem?_getD]
  cases hb : h[b]? with
  | none => rfl
  | some x =>
    have := List.all_eq_true.1 hr x (List.mem_of_getElem? hb)
    simpa using this
theorem moved_row {x : Option Blk} (h : isRow x = false) : moved x = false := by
  cases x with
  | none => rfl
  | some y => cases y <;> first | rfl | (cases h; done)
theorem setMv_row {x : Option Blk} (h : isRow x = false) (b : Bool) : setMv b x = x := by
  cases x with
  | none => rfl
  | some y => cases y <;> first | rfl | (cases h; done)
theorem calm_norow {h : Heap} (hr : noRow h = true) : calm h = h := by
  unfold calm
  conv => rhs; rw [← List.map_id h]
  refine List.map_congr_left fun x hx => ?_
  have := List.all_eq_true.1 hr x hx
  exact setMv_row (by simpa using this) _
theorem orMv_norow {h h' : Heap} (hr : noRow h = true) : orMv h h' = h' := by
  unfold orMv
  have : ∀ (l : Heap) (k : Nat), (l.zipIdx k).map (fun (x : Option Blk × Nat) => bif moved (h.getD x.2 none) then setMv true x.1 else x.1) = l := by
    intro l
    induction l with
    | nil => intro k; rfl
    | cons x l ih =>
      intro k
      simp only [List.zipIdx_cons, List.map_cons, moved_row (noRow_get hr k), cond_false]
      rw [ih]
  exact this h' 0
theorem dropMoved_norow {h h' : Heap} (hr : noRow h = true) (hr' : noRow h' = true) (v : LV) : dropMoved h h' v = v := by
  unfold dropMoved
  have : v.refs.any (fun b => moved (h'.getD b none) || (isRow (h.getD b none) && (h'.getD b none).isNone)) = false := by
    rw [List.any_eq_false]
    intro b _
    rw [moved_row (noRow_get hr' b), noRow_get hr b]
    simp
  rw [this]; rfl
theorem mapd_norow {h h' : Heap} (hr : noRow h = true) (hr' : noRow h' = true) (g : G) : (g.map fun (i, v) => (i, dropMoved h h' v)) = g := by
  conv => rhs; rw [← List.map_id g]
  refine List.map_congr_left fun x _ => ?_
  obtain ⟨i, v⟩ := x
  simp only [dropMoved_norow hr hr', id]
theorem xcal_y {K : Ctx} {cf : CallF} {l : Nat} {args : List LV} {h h' : Heap} {v : LV} {d : Option Nat} {g : G} (hr : noRow h = true) (hc : cf (.fn (.yield l) [] []) args h = .ok (v, h')) (hr' : noRow h' = true) : xF d g (calX K cf (.fn (.yield l) [] []) args h) = .ok (3, putG g d v, h') := by
  unfold calX
  have : isoOf K (.fn (.yield l) [] []) = 0 := rfl
  simp only [this, beq_self_eq_true, cond_true, calm_norow hr, hc, ND.bind, xF_s, mapd_norow hr hr', orMv_norow hr]
theorem getD_app (h : Heap) (x : Option Blk) : (h ++ [x]).getD h.length none = x := by simp [List.getD_eq_getElem?_getD]
theorem set_app (h : Heap) (x y : Option Blk) : (h ++ [x]).set h.length y = h ++ [y] := by
  rw [List.set_append_right _ _ (Nat.le_refl _)]; simp
theorem noRow_app (a b : Heap) : noRow (a ++ b) = (noRow a && noRow b) := by simp [noRow]
theorem noRow_c (cs : List LV) (e : Nat) (h : Heap) : noRow (some (.cells cs e) :: h) = noRow h := rfl
theorem rfGo_ok {cf : CallF} {f : Nat} {a b : List LV} {h1 h2 : Heap} {g : G} {l : Nat} {v : LV} {fn : Nat} {t : List LV} {ps : List Nat} {ca cb : Code} (hr : noRow h1 = true) (hc : cf (.fn (.func f) a b) [.fn (.yield l) [] []] h1 = .ok (v, h2)) (hr' : noRow h2 = true)
    (hl : h2.getD l none = some (.loop fn t ps ca cb .ready .normal)) : rfGo cf (some (.fn (.func f) a b)) h1 g l = .ok (.normal, g, h2.set l none) := by
  simp only [rfGo, isFnV, cond_true, calm_norow hr, hc, ND.bind, rfEnd, orMv_norow hr, hl, mapd_norow hr hr']
theorem refs_fny (l : Nat) : (LV.fn (.yield l) [] []).refs = [l] := rfl
theorem clip_y {n l : Nat} (h : l < n) : (LV.fn (.yield l) [] []).clip n = .fn (.yield l) [] [] := by simp [LV.clip, LV.lim, refs_fny, h]
def ydQ2 (l : Nat) (R : LV → Heap → Prop) (e : Ex) (g : G) (h : Heap) : Prop :=
  match h.getD l none with
  | some (.loop f t ps a b .busy .normal) =>
    match e with
    | .normal => R (.bool true) (h.set l (some (.loop f t ps a b .ready .normal)))
    | .panic _ => False
    | e => R (.bool false) (h.set l (some (.loop f t ps a b .done e)))
  | _ => False
def ydQ1 (md : Bool) (K : Ctx) (n : Nat) (xb : TF) (l : Nat) (R : LV → Heap → Prop) (e : Ex) (g : G) (h : Heap) : Prop :=
  match e with
  | .normal => match h.getD l none with
    | some (.loop f t ps a b .ready .normal) => WP md (execT K n (callN K n) xb g (h.set l (some (.loop f t ps a b .busy .normal)))) (ydQ2 l R)
    | _ => False
  | _ => False
theorem ydQ1_n {md : Bool} {K : Ctx} {n : Nat} {xb : TF} {l : Nat} {R : LV → Heap → Prop} {g : G} {h : Heap} {f : Nat} {t : List LV} {ps : List Nat} {a b : Code} (hl : h.getD l none = some (.loop f t ps a b .ready .normal)) :
    ydQ1 md K n xb l R .normal g h ↔ WP md (execT K n (callN K n) xb g (h.set l (some (.loop f t ps a b .busy .normal)))) (ydQ2 l R) := by
  simp only [ydQ1, hl]
theorem ydQ2_n {l : Nat} {R : LV → Heap → Prop} {g : G} {h : Heap} {f : Nat} {t : List LV} {ps : List Nat} {a b : Code} (hl : h.getD l none = some (.loop f t ps a b .busy .normal)) :
    ydQ2 l R .normal g h ↔ R (.bool true) (h.set l (some (.loop f t ps a b .ready .normal))) := by
  simp only [ydQ2, hl]
theorem wp_yield {md : Bool} {K : Ctx} {n l : Nat} {xa xb : TF} {ps : List Nat} {args : List LV} {g0 : G} {h : Heap} {R : LV → Heap → Prop} (hw : WP md (execT K n (callN K n) xa (putP ps args g0) h) (ydQ1 md K n xb l R)) : W md (yieldT K n xa xb ps l args g0 h) fun p => R p.1 p.2 := by
  unfold yieldT
  rw [w_bind]
  refine W.mono hw fun a ha => ?_
  obtain ⟨e, g, h1⟩ := a
  cases e with
  | normal =>
    simp only [ydQ1] at ha
    simp only [ydMid]
    split at ha
    · rename_i f t ps' a b hl
      rw [hl]
      simp only
      rw [w_bind]
      refine W.mono ha fun a2 ha2 => ?_
      obtain ⟨e2, g2, h2⟩ := a2
      simp only [ydQ2] at ha2
      simp only [ydEnd]
      split at ha2
      · rename_i f t ps' a b hl2
        rw [hl2]
        simp only
        cases e2 with
        | panic v => exact ha2.elim
        | _ => exact w_ok.2 ha2
      · exact ha2.elim
    · exact ha.elim
  | _ => exact ha.elim
theorem ofVal_b (b : Bool) : ofVal (.bool b) = .bool b := rfl
theorem ofVal_i (k : IntKind) (i : Int) : ofVal (.int k i) = .int k i := rfl
theorem ofVal_s (b : ByteArray) : ofVal (.string b) = .str b := rfl
theorem WP.eq {md : Bool} {x y : ND (Ex × G × Heap)} {Q : Ex → G → Heap → Prop} (e : x = y) (h : WP md y Q) : WP md x Q := e ▸ h
theorem gives_mono {K : Ctx} {n n' f : Nat} {vs : List LV} {v : LV} (h : Gives K n f vs v) (hn : n ≤ n') : Gives K n' f vs v := by
  obtain ⟨u, hp, h1, h2⟩ := h
  exact ⟨u, hp, (callN_mono n n' hn _ _ _).ok h1, h2⟩
end Go.LH


namespace Go.LH
def arrL {α : Type} (c : α → List LV) (b : Nat → α) (n : Nat) : List LV := (List.range n).flatMap fun i => c (b i)
theorem arrL_succ {α : Type} (c : α → List LV) (b : Nat → α) (n : Nat) : arrL c b (n + 1) = arrL c b n ++ c (b n) := by
  simp [arrL, List.range_succ, List.flatMap_append]
theorem arrL_len {α : Type} {c : α → List LV} {s : Nat} (hc : ∀ a, (c a).length = s) (b : Nat → α) : ∀ n, (arrL c b n).length = n * s
  | 0 => by simp [arrL]
  | n + 1 => by rw [arrL_succ, List.length_append, arrL_len hc b n, hc, Nat.add_mul, Nat.one_mul]
theorem arrL_congr {α : Type} (c : α → List LV) {b b' : Nat → α} : ∀ {n : Nat}, (∀ i, i < n → c (b i) = c (b' i)) → arrL c b n = arrL c b' n
  | 0, h => rfl
  | n + 1, h => by rw [arrL_succ, arrL_succ, arrL_congr c (fun i hi => h i (by omega)), h n (by omega)]
theorem getAt_drop : ∀ (cs : List LV) (o n : Nat), o + n ≤ cs.length → getAt cs o n = some ((cs.drop o).take n)
  | cs, 0, 0, h => by cases cs <;> rfl
  | c :: cs, 0, k + 1, h => by
    have := getAt_drop cs 0 k (by simpa using h)
    simp only [getAt, this, Option.map_some, List.drop_zero, List.take_succ_cons]
  | c :: cs, o + 1, k, h => by
    have := getAt_drop cs o k (by simp at h; omega)
    simp only [getAt, this, List.drop_succ_cons]
  | [], 0, k + 1, h => by simp at h
  | [], o + 1, k, h => by simp at h
theorem setAt_app : ∀ (a : List LV) (ns b c : List LV), ns.length = b.length → setAt (a ++ (b ++ c)) a.length ns = some (a ++ (ns ++ c))
  | [], [], [], c, h => by simp [setAt_nil]
  | [], n :: ns, y :: b, c, h => by
    have := setAt_app [] ns b c (by simpa using h)
    simp only [List.nil_append, List.length_nil] at this
    simp only [List.nil_append, List.length_nil, List.cons_append, setAt_z, this, Option.map_some]
  | x :: a, ns, b, c, h => by
    simp only [List.cons_append, List.length_cons, setAt_s, setAt_app a ns b c h, Option.map_some]
def updF {α : Type} (b : Nat → α) (d : Nat) (x : α) : Nat → α := fun i => if i = d then x else b i
theorem arrL_split {α : Type} (c : α → List LV) (b : Nat → α) : ∀ (n d : Nat), d < n → ∃ r, ∀ b' : Nat → α, (∀ i, d < i → b' i = b i) → arrL c b' n = arrL c b' d ++ (c (b' d) ++ r)
  | 0, d, h => absurd h (by omega)
  | n + 1, d, h => by
    rcases Nat.lt_or_ge d n with h1 | h1
    · obtain ⟨r, hr⟩ := arrL_split c b n d h1
      refine ⟨r ++ c (b n), fun b' hb => ?_⟩
      rw [arrL_succ, hr b' hb, hb n h1]
      simp
    · have : d = n := by omega
      subst this
      exact ⟨[], fun b' hb => by rw [arrL_succ]; simp⟩
theorem arrL_get {α : Type} {c : α → List LV} {s : Nat} (hc : ∀ a, (c a).length = s) (b : Nat → α) {n d : Nat} (h : d < n) : getAt (arrL c b n) (d * s) s = some (c (b d)) := by
  obtain ⟨r, hr⟩ := arrL_split c b n d h
  rw [hr b (fun _ _ => rfl)]
  have hl := arrL_len hc b d
  rw [getAt_drop _ _ _ (by simp [hl, hc])]
  rw [List.drop_left' hl, List.take_left' (hc _)]
theorem updF_ne {α : Type} (b : Nat → α) {d i : Nat} (x : α) (h : i ≠ d) : updF b d x i = b i := by simp [updF, h]
theorem arrL_set {α : Type} {c : α → List LV} {s : Nat} (hc : ∀ a, (c a).length = s) (b : Nat → α) {n d : Nat} (h : d < n) (x : α) : setAt (arrL c b n) (d * s) (c x) = some (arrL c (updF b d x) n) := by
  obtain ⟨r, hr⟩ := arrL_split c b n d h
  have e1 := hr b (fun _ _ => rfl)
  have e2 := hr (updF b d x) (fun i hi => updF_ne b x (by omega))
  have e3 : arrL c (updF b d x) d = arrL c b d := arrL_congr c (fun i hi => by rw [updF_ne b x (by omega)])
  have e4 : updF b d x d = x := by simp [updF]
  rw [e1, e2, e3, e4, ← arrL_len hc b d]
  exact setAt_app _ _ _ _ (by rw [hc, hc])
theorem arrL_at {α : Type} {c : α → LV} (b : Nat → α) {n d : Nat} (h : d < n) : (arrL (fun a => [c a]) b n)[d]? = some (c (b d)) := by
  obtain ⟨r, hr⟩ := arrL_split (fun a => [c a]) b n d h
  rw [hr b (fun _ _ => rfl)]
  have hl : (arrL (fun a => [c a]) b d).length = d := by have := arrL_len (c := fun a => [c a]) (s := 1) (fun _ => rfl) b d; omega
  rw [List.getElem?_append_right (by omega), hl]
  simp
theorem arrL_const {α : Type} {c : α → List LV} {s : Nat} {z : LV} {x : α} (h : c x = List.replicate s z) : ∀ n, arrL c (fun _ => x) n = List.replicate (n * s) z
  | 0 => by simp [arrL]
  | n + 1 => by rw [arrL_succ, arrL_const h n, h, Nat.add_mul, Nat.one_mul, List.replicate_append_replicate]
theorem ixaV_ptr (n s b o : Nat) (k : IntKind) (d : Nat) (h : d < n) : ixaV n s (.ptr b o) (.int k (d : Int)) = some (.ptr b (o + d * s)) := by
  simp [ixaV, fieldAt, h]
theorem arrL_refs {α : Type} {c : α → List LV} (hc : ∀ a, refsL (c a) = []) (b : Nat → α) : ∀ n, refsL (arrL c b n) = []
  | 0 => by simp [arrL, refsL]
  | n + 1 => by
    rw [arrL_succ]
    have : ∀ a b : List LV, refsL (a ++ b) = refsL a ++ refsL b := by
      intro a b
      induction a with
      | nil => simp [refsL]
      | cons x a ih => simp [refsL, ih]
    rw [this, arrL_refs hc b n, hc]; rfl
theorem trunc_same {n : Nat} {g : G} {h : Heap} (hl : h.length ≤ n) (hg : (g.map fun (i, v) => (i, v.clip n)) = g) : truncF n g h = (g, h) := by
  unfold truncF
  cases (heapRefs (h.take n)).all (fun b => decide (b < n)) with
  | false => rfl
  | true => simp only [cond_true, hg, List.take_of_length_le hl]
theorem clip_p {n b o : Nat} (h : b < n) : (LV.ptr b o).clip n = .ptr b o := by simp [LV.clip, LV.lim, LV.refs, h]
theorem setAt_all (cs ns : List LV) (h : ns.length = cs.length) : setAt cs 0 ns = some ns := by
  have := setAt_app [] ns cs [] h
  simpa using this
theorem getAt_all (cs : List LV) {n : Nat} (h : cs.length = n) : getAt cs 0 n = some cs := by
  rw [getAt_drop _ _ _ (by omega)]
  simp [← h]
theorem arrL_flat {α : Type} {c : α → List LV} (hc : ∀ a, (c a).all flatV = true) (b : Nat → α) : ∀ n, (arrL c b n).all flatV = true
  | 0 => rfl
  | n + 1 => by rw [arrL_succ, List.all_append, arrL_flat hc b n, hc]; rfl
theorem arrL_off {α : Type} {c : α → List LV} {s : Nat} (hc : ∀ a, (c a).length = s) (b : Nat → α) {n d i : Nat} (h : d < n) (hi : i < s) : (arrL c b n)[d * s + i]? = (c (b d))[i]? := by
  obtain ⟨r, hr⟩ := arrL_split c b n d h
  rw [hr b (fun _ _ => rfl)]
  have hl := arrL_len hc b d
  rw [List.getElem?_append_right (by omega), hl, show d * s + i - d * s = i by omega, List.getElem?_append_left (by rw [hc]; exact hi)]
def mkR (s z e : Nat) (live : List Nat) (g : G) (h : Heap) : Option LV → ND (Ex × G × Heap)
  | some (.sl _ _ true []) => bif decide (0 < z) then .ok (.normal, restr live ((s, .row h.length z none) :: g), h ++ [some (.row true true [] z e)]) else .ok (.normal, restr live g, h)
  | some _ => .ok (.normal, restr live g, h)
  | none => .bad "ghost"
theorem rg_mk (s z e : Nat) (live : List Nat) (g : G) (h : Heap) : rg [.mkrow s z e] live (.ok (g, h)) = mkR s z e live g h (lk g s) := by
  unfold rg mkR
  simp only [ND.bind, regF, ghsF, ghF]
  cases lk g s with
  | none => rfl
  | some v =>
    cases v with
    | sl a b ex es =>
      cases ex with
      | false => rfl
      | true => cases es with
        | nil => cases decide (0 < z) <;> rfl
        | cons _ _ => rfl
    | _ => rfl
theorem mkR_s (s z e a : Nat) (live : List Nat) (g : G) (h : Heap) (b : Option Bool) (hz : (z == 0) = false) : mkR s z e live g h (some (.sl a b true [])) = .ok (.normal, restr live ((s, .row h.length z none) :: g), h ++ [some (.row true true [] z e)]) := by
  have : decide (0 < z) = true := by simp at hz ⊢; omega
  simp only [mkR, this, cond_true]
theorem drop_int (b : Nat) (k : IntKind) (i : Int) : (LV.int k i).drop b = .int k i := rfl
theorem drop_bool (b : Nat) (x : Bool) : (LV.bool x).drop b = .bool x := rfl
theorem drop_str (b : Nat) (x : ByteArray) : (LV.str x).drop b = .str x := rfl
theorem drop_sl (b s : Nat) (nl : Option Bool) (ex : Bool) (es : List (List LV)) : (LV.sl s nl ex es).drop b = .sl s nl ex es := rfl
theorem drop_un (b : Nat) : LV.un.drop b = .un := rfl
theorem drop_ptr (b b' o : Nat) : (LV.ptr b' o).drop b = bif b' == b then .un else .ptr b' o := by
  unfold LV.drop
  have : (LV.ptr b' o).refs.contains b = (b' == b) := by simp [LV.refs]; rw [Bool.eq_iff_iff]; simp; exact eq_comm
  rw [this]
theorem drop_row (b b' s : Nat) (v : Option (Nat × Nat)) : (LV.row b' s v).drop b = bif b' == b then .un else .row b' s v := by
  unfold LV.drop
  have : (LV.row b' s v).refs.contains b = (b' == b) := by simp [LV.refs]; rw [Bool.eq_iff_iff]; simp; exact eq_comm
  rw [this]
theorem mapd_nil (b : Nat) : (([] : G).map fun (i, v) => (i, v.drop b)) = [] := rfl
theorem mapd_cons (b i : Nat) (v : LV) (g : G) : (((i, v) :: g : G).map fun (i, v) => (i, v.drop b)) = (i, v.drop b) :: g.map fun (i, v) => (i, v.drop b) := rfl
theorem x_app_row {K : Ctx} {cf : CallF} {d : Option Nat} {g : G} {s et b : Nat} {h : Heap} {nl : Option Bool} {ex : Bool} {new es : List (List LV)} {mv : Bool} (hb : h.getD b none = some (.row true mv es s et)) (hl : es.length + new.length ≤ 16777216) :
    xF d g (xsem K cf (.app s et) [.row b s none, .sl s nl ex new] h) = .ok (3, putG (g.map fun (i, v) => (i, v.drop b)) d (.row b s none), (scrubB b h).set b (some (.row true true (es ++ new) s et))) := by
  have h2 : decide (es.length + new.length ≤ sizeLim) = true := decide_eq_true hl
  simp only [xsem, appR, elemsOf, beq_self_eq_true, Bool.true_or, cond_true, hb, Bool.and_self, Bool.true_and, h2, Bool.or_true, appX, xF_s]
  rfl
theorem clip_row {n b s : Nat} {v : Option (Nat × Nat)} (h : b < n) : (LV.row b s v).clip n = .row b s v := by simp [LV.clip, LV.lim, LV.refs, h]
theorem mapdrop {b : Nat} : ∀ {cs : List LV}, refsL cs = [] → cs.map (LV.drop b) = cs
  | [], _ => rfl
  | v :: vs, h => by
    simp only [refsL_c, List.append_eq_nil_iff] at h
    simp only [List.map_cons, mapdrop h.2, LV.drop, h.1]; rfl
theorem scrub_n (b : Nat) : scrubB b [] = [] := rfl
theorem scrub_c (b : Nat) (cs : List LV) (e : Nat) (h : Heap) (hc : refsL cs = []) : scrubB b (some (.cells cs e) :: h) = some (.cells cs e) :: scrubB b h := by
  have := mapdrop (b := b) hc
  show some (Blk.cells (cs.map (LV.drop b)) e) :: scrubB b h = _
  rw [this]
theorem scrub_r (b : Nat) (mv : Bool) (es : List (List LV)) (s e : Nat) (h : Heap) : scrubB b (some (.row true mv es s e) :: h) = some (.row true mv es s e) :: scrubB b h := rfl
theorem scrub_none (b : Nat) (h : Heap) : scrubB b (none :: h) = none :: scrubB b h := rfl
theorem bsl_r0 (s len et : Nat) (h : Heap) (hs : (s == 0) = false) : bslR s len et true h (some []) = .ok (1, .row h.length s none, none, h ++ [some (.row true true [] s et)]) := bsl_r _ _ _ _ _ rfl hs
theorem bsl_s0 (s len et : Nat) (h : Heap) (hs : (s == 0) = false) : bslR s len et false h (some []) = .ok (1, .sl s (some false) true [], none, h) := bsl_s _ _ _ _ _ rfl hs
theorem calm_get (h : Heap) (b : Nat) : (calm h).getD b none = setMv false (h.getD b none) := by
  unfold calm
  rw [List.getD_eq_getElem?_getD, List.getD_eq_getElem?_getD, List.getElem?_map]
  cases h[b]? with
  | none => rfl
  | some x => rfl
theorem moved_calm (x : Option Blk) : moved (setMv false x) = false := by
  cases x with
  | none => rfl
  | some y => cases y <;> rfl
theorem none_calm (x : Option Blk) : (setMv false x).isNone = x.isNone := by
  cases x with
  | none => rfl
  | some y => cases y <;> rfl
theorem dropMoved_calm (h : Heap) (v : LV) : dropMoved h (calm h) v = v := by
  unfold dropMoved
  have : v.refs.any (fun b => moved ((calm h).getD b none) || (isRow (h.getD b none) && ((calm h).getD b none).isNone)) = false := by
    rw [List.any_eq_false]
    intro b _
    rw [calm_get, moved_calm, none_calm]
    cases h.getD b none with
    | none => simp [isRow]
    | some y => simp
  rw [this]; rfl
theorem orMv_calm (h : Heap) : orMv h (calm h) = h := by
  unfold orMv
  apply List.ext_getElem?
  intro i
  simp only [List.getElem?_map, List.getElem?_zipIdx, calm, Nat.zero_add, Option.map_map]
  cases hi : h[i]? with
  | none => rfl
  | some x =>
    simp only [Option.map_some, Function.comp, List.getD_eq_getElem?_getD, hi, Option.getD_some]
    cases x with
    | none => rfl
    | some y =>
      cases y with
      | row pu mv es s e => cases mv <;> rfl
      | _ => rfl
theorem xcal_same {K : Ctx} {cf : CallF} {f : LV} {args : List LV} {h : Heap} {v : LV} {d : Option Nat} {g : G} (hi : isoOf K f = 0) (hc : cf f args (calm h) = .ok (v, calm h)) : xF d g (calX K cf f args h) = .ok (3, putG g d v, h) := by
  unfold calX
  simp only [hi, beq_self_eq_true, cond_true, hc, ND.bind, xF_s, orMv_calm]
  have : (g.map fun (i, v) => (i, dropMoved h (calm h) v)) = g := by
    conv => rhs; rw [← List.map_id g]
    refine List.map_congr_left fun x _ => ?_
    obtain ⟨i, v⟩ := x
    simp only [dropMoved_calm, id]
  rw [this]
theorem calm_calm (h : Heap) : calm (calm h) = calm h := by
  unfold calm
  rw [List.map_map]
  refine List.map_congr_left fun x _ => ?_
  cases x with
  | none => rfl
  | some y => cases y <;> rfl
theorem calm_len (h : Heap) : (calm h).length = h.length := by simp [calm]
end Go.LH


set_option linter.defProp false
namespace Go.LH
def WW := And.intro (And.intro (And.intro (And.intro (And.intro (And.intro (And.intro (@t_nil) (@t_cons)) (And.intro (@t_op) (And.intro (@t_sc) (@t_scg)))) (And.intro (And.intro (@nt_ok) (@opT_ok)) (And.intro (@scR_ok) (And.intro (@scb_b) (@sgb_b))))) (And.intro (And.intro (And.intro (@sgV_ok) (@sgO_s)) (And.intro (@okO_s) (And.intro (@scV_ok) (@nif_ok)))) (And.intro (And.intro (@nif_and) (And.intro (@nif_or) (@nif_t))) (And.intro (@nif_f) (And.intro (@putG_s) (@putG_n)))))) (And.intro (And.intro (And.intro (And.intro (@upF_s) (@ev_t)) (And.intro (@ev_c) (And.intro (@lk_eq) (@lk_ne)))) (And.intro (And.intro (@o1_s) (@o2_s)) (And.intro (@o3_s) (And.intro (@oo_n) (@evl_nil))))) (And.intro (And.intro (And.intro (@evl_cons) (@consO_s)) (And.intro (@oo_s) (And.intro (@someO_s) (@rg_ok)))) (And.intro (And.intro (@rgD_ok) (And.intro (@rs_nil) (@rs_cons))) (And.intro (@rsC_s) (And.intro (@cnd_t) (@cnd_f))))))) (And.intro (And.intro (And.intro (And.intro (And.intro (@x_skip) (@x_reg)) (And.intro (@x_regD) (And.intro (@x_seq) (@x_cond)))) (And.intro (And.intro (@x_block) (@x_label)) (And.intro (@x_exit) (And.intro (@x_ret) (@b_lss))))) (And.intro (And.intro (And.intro (@b_leq) (@b_gtr)) (And.intro (@b_geq) (And.intro (@b_eql) (@b_neq)))) (And.intro (And.intro (@b_add) (And.intro (@b_sub) (@b_mul))) (And.intro (@b_seql) (And.intro (@b_sneq) (@bb_eql)))))) (And.intro (And.intro (And.intro (And.intro (@bb_neq) (@ld_ptr)) (And.intro (@ldP_c) (And.intro (@ld_eptr) (@pk_some)))) (And.intro (And.intro (@pk_none) (And.intro (@un_not) (@pick_b))) (And.intro (@pick_t) (And.intro (@pick_f) (@pick_tb))))) (And.intro (And.intro (And.intro (@pick_fb) (@fd_agg)) (And.intro (@ixO_s) (And.intro (@ix_nat) (@len_sl)))) (And.intro (And.intro (@len_str) (And.intro (@ext_tup) (@cv_int))) (And.intro (@Bool.and_self) (And.intro (@Nat.zero_add) (@Nat.add_zero)))))))) (And.intro (And.intro (And.intro (And.intro (And.intro (And.intro (@beq_true) (@beq_false)) (And.intro (@Bool.and_true) (And.intro (@Bool.not_true) (@Bool.not_false)))) (And.intro (And.intro (@Bool.true_and) (@wp_ok)) (And.intro (@wp_sq) (And.intro (@sqQ_n) (@sqQ_r))))) (And.intro (And.intro (And.intro (@sqQ_x) (@wp_bk)) (And.intro (@bkQ_n) (And.intro (@bkQ_r) (@bkQ_x)))) (And.intro (And.intro (@wp_cnd) (And.intro (@retQ_n) (@retQ_r))) (And.intro (@lkO_s) (And.intro (@resL_nil) (@resL_tmp)))))) (And.intro (And.intro (And.intro (And.intro (@resC_s) (@pack1)) (And.intro (@pack2) (And.intro (@pack0) (@stO_s)))) (And.intro (And.intro (@stF_ptr) (And.intro (@stB_c) (@stN_s))) (And.intro (@stV_ptr) (And.intro (@setAt_nil) (@setAt_z))))) (And.intro (And.intro (And.intro (@setAt_s) (@x_rf)) (And.intro (@lpQ_n) (And.intro (@lpQ_r) (@lpQ_x)))) (And.intro (And.intro (@trunc_0) (And.intro (@mapc_nil) (@mapc_cons))) (And.intro (@clip_int) (And.intro (@clip_bool) (@clip_str))))))) (And.intro (And.intro (And.intro (And.intro (And.intro (@clip_sl) (@xsF_s)) (And.intro (@xF_n) (And.intro (@bslX_n) (@x_bsl)))) (And.intro (And.intro (@fill_c) (@fillC_s)) (And.intro (@fill_n) (And.intro (@bsl_s) (@bsl_r))))) (And.intro (And.intro (And.intro (@refsL_c) (@refsL_n)) (And.intro (@refs_int) (And.intro (@refs_bool) (@refs_str)))) (And.intro (And.intro (@refs_sl) (And.intro (@refs_agg) (@noRefs_n))) (And.intro (@noRefs_c) (And.intro (@x_cal) (@Nat.lt_irrefl)))))) (And.intro (And.intro (And.intro (And.intro (@slcF_s) (@foldX_s)) (And.intro (@mn_1) (And.intro (@mx_1) (@min_1)))) (And.intro (And.intro (@ofVal_b) (And.intro (@ofVal_i) (@ofVal_s))) (And.intro (@resL_cell) (And.intro (@drop_int) (@drop_bool))))) (And.intro (And.intro (And.intro (@drop_str) (@drop_sl)) (And.intro (@drop_un) (And.intro (@drop_ptr) (@drop_row)))) (And.intro (And.intro (@mapd_nil) (And.intro (@mapd_cons) (@rg_mk))) (And.intro (@mkR_s) (And.intro (@bsl_r0) (@bsl_s0))))))))
end Go.LH


set_option linter.unusedVariables false
namespace Go.LH
@[irreducible] def hp (h : Heap) (b s e : Nat) (mv : Bool) (es : List (List LV)) : Heap := h.set b (some (.row true mv es s e))
theorem hp_get {h : Heap} {b s e : Nat} {mv : Bool} {es : List (List LV)} (hb : b < h.length) : (hp h b s e mv es).getD b none = some (.row true mv es s e) := by
  unfold hp
  rw [List.getD_eq_getElem?_getD, List.getElem?_set_self hb]; rfl
theorem hp_set {h : Heap} {b s e : Nat} {mv mv' : Bool} {es es' : List (List LV)} : (hp h b s e mv es).set b (some (.row true mv' es' s e)) = hp h b s e mv' es' := by
  unfold hp; exact List.set_set ..
theorem hp_len {h : Heap} {b s e : Nat} {mv : Bool} {es : List (List LV)} : (hp h b s e mv es).length = h.length := by
  unfold hp; simp
theorem hp_calm {h : Heap} {b s e : Nat} {mv : Bool} {es : List (List LV)} : calm (hp h b s e mv es) = hp (calm h) b s e false es := by
  unfold hp calm
  rw [List.map_set]
  rfl
theorem orMv_hp {h : Heap} {b s e : Nat} {mv : Bool} {es es' : List (List LV)} : orMv (hp h b s e mv es) (hp (calm h) b s e false es') = hp h b s e mv es' := by
  have h1 := orMv_calm (hp h b s e mv es')
  rw [hp_calm] at h1
  rw [← h1]
  unfold orMv
  refine List.map_congr_left fun x _ => ?_
  obtain ⟨x, i⟩ := x
  have : moved ((hp h b s e mv es).getD i none) = moved ((hp h b s e mv es').getD i none) := by
    unfold hp
    rw [List.getD_eq_getElem?_getD, List.getD_eq_getElem?_getD, List.getElem?_set, List.getElem?_set]
    split
    · split <;> rfl
    · rfl
  simp only [this, h1]
theorem dropMoved_hp {h : Heap} {b s e : Nat} {mv : Bool} {es es' : List (List LV)} (v : LV) : dropMoved (hp h b s e mv es) (hp (calm h) b s e false es') v = v := by
  have h1 := dropMoved_calm (hp h b s e mv es') v
  rw [hp_calm] at h1
  unfold dropMoved at h1 ⊢
  have : ∀ i, isRow ((hp h b s e mv es).getD i none) = isRow ((hp h b s e mv es').getD i none) := by
    intro i
    unfold hp
    rw [List.getD_eq_getElem?_getD, List.getD_eq_getElem?_getD, List.getElem?_set, List.getElem?_set]
    split
    · split <;> rfl
    · rfl
  simp only [this]
  exact h1
theorem xcal_hp {K : Ctx} {cf : CallF} {f : LV} {args : List LV} {h : Heap} {b s e : Nat} {mv : Bool} {es es' : List (List LV)} {v : LV} {d : Option Nat} {g : G} (hi : isoOf K f = 0)
    (hc : cf f args (hp (calm h) b s e false es) = .ok (v, hp (calm h) b s e false es')) : xF d g (calX K cf f args (hp h b s e mv es)) = .ok (3, putG g d v, hp h b s e mv es') := by
  unfold calX
  simp only [hi, beq_self_eq_true, cond_true, hp_calm, hc, ND.bind, xF_s, orMv_hp, dropMoved_hp]
  have : (g.map fun (x : Nat × LV) => (x.1, x.2)) = g := by simp
  rw [this]
section
variable {h : Heap} {b s e : Nat} {mv : Bool} {es : List (List LV)}
theorem ixs_hp (k : IntKind) (i : Nat) (hb : b < h.length) (hi : i < es.length) : ixV s (hp h b s e mv es) (.row b s none) (.int k (i : Int)) = some (.rptr b i s 0) := by
  simp only [ixV, hp_get hb, Int.toNat_natCast, beq_self_eq_true, cond_true, List.getElem?_eq_getElem hi, Option.map_some, show decide (0 ≤ (i : Int)) = true from decide_eq_true (by omega)]
theorem ld_hp (m : Option Nat) (i : Nat) {x : List LV} (hb : b < h.length) (hx : es[i]? = some x) : ldV m (hp h b s e mv es) (.rptr b i s 0) = pkV m 0 x := by
  simp only [ldV, hp_get hb, hx, beq_self_eq_true, cond_true, Option.bind_some]
theorem len_hp (hb : b < h.length) : lenSV (hp h b s e mv es) (.row b s none) = some (.int .i64 es.length) := by
  simp only [lenSV, hp_get hb]
theorem stV_hp (n : Nat) (i : Nat) {x : LV} {ns el : List LV} (hb : b < h.length) (hx : x.cells = some ns) (hn : ns.length = n) (hl : ns.length = el.length) (hr : refsL ns = []) (he : es[i]? = some el) : stV n (hp h b s e mv es) (.rptr b i s 0) x = some (hp h b s e mv (es.set i ns)) := by
  have : setAt el 0 ns = some ns := setAt_all el ns hl
  simp only [stV, hx, hn, hp_get hb, hr, he, this, hp_set, beq_self_eq_true, cond_true, Bool.not_true, Bool.false_or, List.isEmpty_nil, Bool.and_self, Option.bind_some, Option.map_some]
theorem stF_rptr (d : Option Nat) (n : Nat) (g : G) (b i s off : Nat) (x : LV) (hx : x.refs = []) : stF d n g h (some (.rptr b i s off)) (some x) = stO d g (stV n h (.rptr b i s off) x) := by
  have : (bif intoPure h (.rptr b i s off) then x.refs else []) = [] := by rw [hx]; cases intoPure h (.rptr b i s off) <;> rfl
  simp only [stF, this]
  cases stV n h (.rptr b i s off) x <;> rfl
end
end Go.LH


set_option linter.unusedVariables false
namespace Go.LH
theorem calm_app (a b : Heap) : calm (a ++ b) = calm a ++ calm b := List.map_append ..
theorem orMv_get (h h' : Heap) (i : Nat) : (orMv h h')[i]? = h'[i]?.map fun x => bif moved (h.getD i none) then setMv true x else x := by
  unfold orMv
  simp only [List.getElem?_map, List.getElem?_zipIdx, Nat.zero_add, Option.map_map]
  cases h'[i]? <;> rfl
theorem calm_unmoved {h : Heap} (hc : calm h = h) (i : Nat) : moved (h.getD i none) = false := by
  rw [← hc]
  simp only [calm, List.getD_eq_getElem?_getD, List.getElem?_map]
  cases h[i]? with
  | none => rfl
  | some x =>
    simp only [Option.map_some, Option.getD_some]
    cases x with
    | none => rfl
    | some y => cases y <;> rfl
theorem getD_lt {a b : Heap} {i : Nat} (h : i < a.length) : (a ++ b).getD i none = a.getD i none := by
  rw [List.getD_eq_getElem?_getD, List.getD_eq_getElem?_getD, List.getElem?_append_left h]
theorem getD_ge {a b : Heap} {i : Nat} (h : a.length ≤ i) : (a ++ b).getD i none = b.getD (i - a.length) none := by
  rw [List.getD_eq_getElem?_getD, List.getD_eq_getElem?_getD, List.getElem?_append_right h]
theorem orMv_app {H : Heap} (hc : calm H = H) (B B' : Heap) : orMv (H ++ B) (H ++ B') = H ++ orMv B B' := by
  refine List.ext_getElem? fun i => ?_
  rw [orMv_get]
  rcases Nat.lt_or_ge i H.length with h | h
  · rw [getD_lt h, calm_unmoved hc, List.getElem?_append_left h, List.getElem?_append_left h]
    cases H[i]? <;> rfl
  · rw [getD_ge h, List.getElem?_append_right h, List.getElem?_append_right h, orMv_get]
theorem orMv_grow (H ex : Heap) : orMv H (calm H ++ ex) = H ++ ex := by
  refine List.ext_getElem? fun i => ?_
  rw [orMv_get]
  rcases Nat.lt_or_ge i H.length with h | h
  · have := congrArg (fun l => l[i]?) (orMv_calm H)
    simp only [orMv_get] at this
    rw [List.getElem?_append_left (by rw [calm_len]; exact h), List.getElem?_append_left h, this]
  · rw [List.getElem?_append_right (by rw [calm_len]; exact h), List.getElem?_append_right h, calm_len]
    have : H.getD i none = none := by rw [List.getD_eq_getElem?_getD, List.getElem?_eq_none h]; rfl
    rw [this]
    cases ex[i - H.length]? <;> rfl
theorem dropMoved_of {h h' : Heap} {v : LV} (hv : ∀ b ∈ v.refs, moved (h'.getD b none) = false ∧ (isRow (h.getD b none) = true → (h'.getD b none).isNone = false)) : dropMoved h h' v = v := by
  unfold dropMoved
  have : v.refs.any (fun b => moved (h'.getD b none) || (isRow (h.getD b none) && (h'.getD b none).isNone)) = false := by
    rw [List.any_eq_false]
    intro b hb
    obtain ⟨h1, h2⟩ := hv b hb
    rw [h1]
    cases hr : isRow (h.getD b none) with
    | false => simp
    | true => rw [h2 hr]; simp
  rw [this]; rfl
theorem isRow_some {x : Option Blk} (h : isRow x = true) : x.isNone = false := by
  cases x with
  | none => cases h
  | some y => rfl
theorem isRow_calm (h : Heap) (i : Nat) : isRow ((calm h).getD i none) = isRow (h.getD i none) := by
  simp only [calm, List.getD_eq_getElem?_getD, List.getElem?_map]
  cases h[i]? with
  | none => rfl
  | some x =>
    simp only [Option.map_some, Option.getD_some]
    cases x with
    | none => rfl
    | some y => cases y <;> rfl
theorem calm_idem (h : Heap) : calm (calm h) = calm h := calm_calm h
theorem dropMoved_grow {H ex : Heap} {v : LV} (hv : v.lim H.length = true) : dropMoved H (calm H ++ ex) v = v := by
  refine dropMoved_of fun b hb => ?_
  have hl : b < H.length := by simpa using List.all_eq_true.1 hv b hb
  rw [getD_lt (by rw [calm_len]; exact hl)]
  exact ⟨calm_unmoved (calm_idem H) b, fun hr => isRow_some (by rw [isRow_calm]; exact hr)⟩
theorem wp_grow {md : Bool} {K : Ctx} {cf : CallF} {f : LV} {args : List LV} {H : Heap} {d : Option Nat} {g : G} {gh : List Gh} {live : List Nat} {fK : G → Heap → ND (G × Heap)} {Q : Ex → G → Heap → Prop} {R : LV → Heap → Prop}
    (hi : isoOf K f = 0) (hg : (g.all fun x => x.2.lim H.length) = true) (hc : W md (cf f args (calm H)) fun p => ∃ ex, p.2 = calm H ++ ex ∧ R p.1 ex)
    (hw : ∀ v ex, R v ex → WP md (rg gh live (fK (putG g d v) (H ++ ex))) Q) : WP md (rg gh live (nt (opT (xF d g (calX K cf f args H))) fK)) Q := by
  have key : xF d g (calX K cf f args H) = (cf f args (calm H)).bind fun p => .ok (3, putG (g.map fun x => (x.1, dropMoved H p.2 x.2)) d p.1, orMv H p.2) := by
    unfold calX
    simp only [hi, beq_self_eq_true, cond_true]
    unfold xF
    rw [bind_assoc]
    rfl
  rw [key]
  unfold WP rg nt opT
  rw [w_bind, w_bind, w_bind, w_bind]
  refine hc.mono fun p hp => ?_
  obtain ⟨v, h'⟩ := p
  obtain ⟨ex, rfl, hr⟩ := hp
  refine w_ok.2 (w_ok.2 ?_)
  have e : (g.map fun x => (x.1, dropMoved H (calm H ++ ex) x.2)) = g := by
    conv => rhs; rw [← List.map_id g]
    refine List.map_congr_left fun x hx => ?_
    rw [dropMoved_grow (List.all_eq_true.1 hg x hx)]; rfl
  simp only [e, orMv_grow]
  have := hw v ex hr
  unfold WP rg at this
  rw [w_bind] at this
  exact this
theorem calX_bind {K : Ctx} {cf : CallF} {f : LV} {args : List LV} {H : Heap} {d : Option Nat} {g : G} (hi : isoOf K f = 0) : xF d g (calX K cf f args H) = (cf f args (calm H)).bind fun p => .ok (3, putG (g.map fun x => (x.1, dropMoved H p.2 x.2)) d p.1, orMv H p.2) := by
  unfold calX
  simp only [hi, beq_self_eq_true, cond_true]
  unfold xF
  rw [bind_assoc]
  rfl
theorem wp_rf {md : Bool} {cf : CallF} {f : Nat} {a b : List LV} {h1 : Heap} {g : G} {l : Nat} {Q : Ex → G → Heap → Prop} {R : LV → Heap → Prop} (hc : W md (cf (.fn (.func f) a b) [.fn (.yield l) [] []] (calm h1)) fun p => R p.1 p.2)
    (hw : ∀ v h', R v h' → WP md (rfEnd l h1 g (v, h')) Q) : WP md (rfGo cf (some (.fn (.func f) a b)) h1 g l) Q := by
  simp only [rfGo, isFnV, cond_true]
  unfold WP
  rw [w_bind]
  exact hc.mono fun p hp => hw _ _ hp
end Go.LH


set_option linter.unusedVariables false
namespace Go.LH
theorem app_getD (H B : Heap) (k : Nat) : (H ++ B).getD (H.length + k) none = B.getD k none := by
  rw [getD_ge (by omega), Nat.add_sub_cancel_left]
theorem app_getD0 (H B : Heap) : (H ++ B).getD H.length none = B.getD 0 none := app_getD H B 0
theorem app_set (H B : Heap) (k : Nat) (x : Option Blk) : (H ++ B).set (H.length + k) x = H ++ B.set k x := by
  rw [List.set_append_right _ _ (by omega), Nat.add_sub_cancel_left]
theorem app_set0 (H B : Heap) (x : Option Blk) : (H ++ B).set H.length x = H ++ B.set 0 x := app_set H B 0 x
theorem heapRefs_app (a b : Heap) : heapRefs (a ++ b) = heapRefs a ++ heapRefs b := by simp [heapRefs]
theorem heapRefs_cons (b : Blk) (h : Heap) : heapRefs (some b :: h) = b.refs ++ heapRefs h := rfl
theorem heapRefs_none (h : Heap) : heapRefs (none :: h) = heapRefs h := rfl
theorem heapRefs_nil : heapRefs [] = [] := rfl
theorem refs_cells' (cs : List LV) (e : Nat) : (Blk.cells cs e).refs = refsL cs := rfl
theorem drop_of {b : Nat} {v : LV} (h : b ∉ v.refs) : v.drop b = v := by
  unfold LV.drop
  have : v.refs.contains b = false := by simpa using h
  rw [this]; rfl
theorem dropL_of {b : Nat} : ∀ {l : List LV}, b ∉ refsL l → l.map (LV.drop b) = l
  | [], _ => rfl
  | v :: l, h => by
    simp only [refsL, List.mem_append, not_or] at h
    rw [List.map_cons, drop_of h.1, dropL_of h.2]
theorem scrub1_of {b : Nat} {x : Blk} (h : b ∉ x.refs) : x.mapv (LV.drop b) = x := by
  cases x with
  | cells cs e => simp only [Blk.mapv, dropL_of (show b ∉ refsL cs from h)]
  | row pu mv es s e =>
    cases pu with
    | true => rfl
    | false =>
      simp only [Blk.mapv, cond_false]
      have h' : b ∉ es.flatMap refsL := h
      have : es.map (·.map (LV.drop b)) = es := by
        conv => rhs; rw [← List.map_id es]
        refine List.map_congr_left fun y hy => ?_
        exact dropL_of fun hb => h' (List.mem_flatMap.2 ⟨y, hy, hb⟩)
      rw [this]
  | map pu kt ks vs =>
    cases pu with
    | true => rfl
    | false =>
      simp only [Blk.mapv, cond_false]
      rw [dropL_of (show b ∉ refsL vs from h)]
  | iter m ks vs l =>
    simp only [Blk.refs, List.mem_append, not_or] at h
    cases l with
    | none => simp only [Blk.mapv, dropL_of h.1.2, Option.map_none]
    | some p => simp only [Blk.mapv, dropL_of h.1.2, Option.map_some, drop_of (show b ∉ p.2.refs from h.2)]
  | loop f t ps a bd st p => simp only [Blk.mapv, dropL_of (show b ∉ refsL t from h)]
theorem scrub_of {b : Nat} : ∀ {h : Heap}, b ∉ heapRefs h → scrubB b h = h
  | [], _ => rfl
  | none :: h, hn => by rw [scrub_none, scrub_of (by rwa [heapRefs_none] at hn)]
  | some x :: h, hn => by
    rw [heapRefs_cons, List.mem_append, not_or] at hn
    show some (x.mapv (LV.drop b)) :: scrubB b h = _
    rw [scrub1_of hn.1, scrub_of hn.2]
theorem scrub_app (b : Nat) (x y : Heap) : scrubB b (x ++ y) = scrubB b x ++ scrubB b y := by simp [scrubB]
def HClosed (H : Heap) : Prop := ∀ b ∈ heapRefs H, b < H.length
theorem HClosed.scrub {H : Heap} (h : HClosed H) {b : Nat} (hb : H.length ≤ b) : scrubB b H = H := scrub_of fun hm => absurd (h b hm) (by omega)
theorem HClosed.lt {H : Heap} (h : HClosed H) (n : Nat) (hn : H.length ≤ n) : (heapRefs H).all (fun b => decide (b < n)) = true := by
  rw [List.all_eq_true]
  intro b hb
  have := h b hb
  simpa using (by omega : b < n)
theorem heapRefs_calm (H : Heap) : heapRefs (calm H) = heapRefs H := by
  induction H with
  | nil => rfl
  | cons x H ih =>
    have : calm (x :: H) = setMv false x :: calm H := rfl
    rw [this]
    cases x with
    | none => rw [show setMv false none = none from rfl, heapRefs_none, heapRefs_none, ih]
    | some y =>
      have e : ∃ z, setMv false (some y) = some z ∧ z.refs = y.refs := by
        cases y with
        | row pu mv es s e => exact ⟨_, rfl, by cases pu <;> rfl⟩
        | _ => exact ⟨_, rfl, rfl⟩
      obtain ⟨z, e1, e2⟩ := e
      rw [e1, heapRefs_cons, heapRefs_cons, ih, e2]
theorem HClosed.calm {H : Heap} (h : HClosed H) : HClosed (calm H) := by
  intro b hb
  rw [heapRefs_calm] at hb
  rw [calm_len]; exact h b hb
theorem wp_nxt {K : Ctx} {cf : CallF} {b : Nat} {h : Heap} {m : Option Nat} {ks vs : List LV} {l : Option (LV × LV)} {d : Option Nat} {g : G} {gh : List Gh} {live : List Nat} {fK : G → Heap → ND (G × Heap)} {Q : Ex → G → Heap → Prop}
    (hb : h.getD b none = some (.iter m ks vs l))
    (h0 : ks = [] → WP false (rg gh live (fK (putG g d (.tup [.bool false])) h)) Q)
    (h1 : ∀ i, i < ks.length → WP false (rg gh live (fK (putG g d (.tup [.bool true, ks.getD i .un, vs.getD i .un])) (h.set b (some (.iter m (ks.eraseIdx i) (vs.eraseIdx i) (some (ks.getD i .un, vs.getD i .un))))))) Q) :
    WP false (rg gh live (nt (opT (xF d g (xsem K cf .nxt [.ptr b 0] h))) fK)) Q := by
  cases ks with
  | nil =>
    have e : xsem K cf .nxt [.ptr b 0] h = .ok (2, .tup [.bool false], none, h) := by
      show nxtX h (.ptr b 0) = _
      simp only [nxtX, hb]
    rw [e]
    exact h0 rfl
  | cons k r =>
    have e : xsem K cf .nxt [.ptr b 0] h = .pick (k :: r).length fun i => .ok (2, .tup [.bool true, (k :: r).getD i .un, vs.getD i .un], none, h.set b (some (.iter m ((k :: r).eraseIdx i) (vs.eraseIdx i) (some ((k :: r).getD i .un, vs.getD i .un))))) := by
      show nxtX h (.ptr b 0) = _
      simp only [nxtX, hb]
    rw [e]
    exact fun i hi => h1 i hi
theorem rg_mkAt {s off z e : Nat} {live : List Nat} {g : G} {h : Heap} {b o a ty : Nat} {nl : Option Bool} {cs : List LV} (hz : 0 < z) (hs : lk g s = some (.ptr b o)) (hb : h.getD b none = some (.cells cs ty)) (hc : cs[o + off]? = some (.sl a nl true [])) :
    rg [.mkrowAt s off z e] live (.ok (g, h)) = .ok (.normal, restr live g, (h.set b (some (.cells (cs.set (o + off) (.row h.length z none)) ty))) ++ [some (.row true true [] z e)]) := by
  have h2 : (!decide (0 < z)) = false := by simp [hz]
  simp only [rg, ND.bind, regF, ghsF, ghF, hs, hb, hc, h2, cond_false]
theorem w_call {md : Bool} {K : Ctx} {n f na : Nat} {x : TF} {rs : List ResultVar} {args : List LV} {h : Heap} {R : LV → Heap → Prop} (F : FnOK K f na x rs) (hl : args.length = na) (hw : WP md (execT K n (callN K n) x (argsG 0 args) h) (retQ K rs R)) :
    W md (callN K (n + 1) (.fn (.func f) [] []) args h) fun p => R p.1 p.2 := by
  refine W.ref (callT_ref F (first := []) (caps := []) (args := args) (by simpa using hl)) ?_
  simp only [List.nil_append, List.append_nil]
  exact wp_call hw
theorem w_callc {md : Bool} {K : Ctx} {n f na : Nat} {x : TF} {rs : List ResultVar} {args caps : List LV} {h : Heap} {R : LV → Heap → Prop} (F : FnOK K f na x rs) (hl : args.length + caps.length = na) (hw : WP md (execT K n (callN K n) x (argsG 0 (args ++ caps)) h) (retQ K rs R)) :
    W md (callN K (n + 1) (.fn (.func f) [] caps) args h) fun p => R p.1 p.2 := by
  refine W.ref (callT_ref F (first := []) (caps := caps) (args := args) (by simpa using hl)) ?_
  simp only [List.nil_append]
  exact wp_call hw
end Go.LH


set_option linter.unusedVariables false
namespace Go.LH
mutual
theorem frz_of (b : Nat) (x : Option Blk) : ∀ v : LV, b ∉ v.refs → v.frz b x = v
  | .row b' s v, h => by
    have : (b' == b) = false := by
      simp only [LV.refs, List.mem_singleton] at h
      simpa using fun e : b' = b => h e.symm
    simp only [LV.frz, this, cond_false]
  | .map b', h => by
    have : (b' == b) = false := by
      simp only [LV.refs, List.mem_singleton] at h
      simpa using fun e : b' = b => h e.symm
    simp only [LV.frz, this, cond_false]
  | .fn f first caps, h => by
    simp only [LV.refs, List.mem_append, not_or] at h
    simp only [LV.frz, frzL_of b x first h.1.2, frzL_of b x caps h.2]
  | .ifc t v, h => by
    simp only [LV.refs] at h
    simp only [LV.frz, frz_of b x v h]
  | .agg cs, h => by
    simp only [LV.refs] at h
    simp only [LV.frz, frzL_of b x cs h]
  | .tup cs, h => by
    simp only [LV.refs] at h
    simp only [LV.frz, frzL_of b x cs h]
  | .un, h => rfl
  | .bool _, h => rfl
  | .int _ _, h => rfl
  | .str _, h => rfl
  | .sl _ _ _ _, h => rfl
  | .bsl _ _ _ _, h => rfl
  | .ptr _ _, h => rfl
  | .rptr _ _ _ _, h => rfl
  | .eptr _ _, h => rfl
  | .nptr, h => rfl
  | .pmap _ _ _, h => rfl
  | .nmap, h => rfl
  | .nfn, h => rfl
  | .nifc, h => rfl
theorem frzL_of (b : Nat) (x : Option Blk) : ∀ l : List LV, b ∉ refsL l → frzL b x l = l
  | [], h => rfl
  | v :: l, h => by
    simp only [refsL, List.mem_append, not_or] at h
    simp only [frzL, frz_of b x v h.1, frzL_of b x l h.2]
end
theorem frzM_of {b : Nat} {x : Option Blk} {l : List LV} (h : b ∉ refsL l) : l.map (LV.frz b x) = l := by
  rw [← frzL_map, frzL_of b x l h]
theorem frz1_of {b : Nat} {x : Option Blk} {y : Blk} (h : b ∉ y.refs) : y.mapv (LV.frz b x) = y := by
  cases y with
  | cells cs e => simp only [Blk.mapv, frzM_of (show b ∉ refsL cs from h)]
  | row pu mv es s e =>
    cases pu with
    | true => rfl
    | false =>
      simp only [Blk.mapv, cond_false]
      have h' : b ∉ es.flatMap refsL := h
      have : es.map (·.map (LV.frz b x)) = es := by
        conv => rhs; rw [← List.map_id es]
        refine List.map_congr_left fun y hy => ?_
        exact frzM_of fun hb => h' (List.mem_flatMap.2 ⟨y, hy, hb⟩)
      rw [this]
  | map pu kt ks vs =>
    cases pu with
    | true => rfl
    | false =>
      simp only [Blk.mapv, cond_false]
      rw [frzM_of (show b ∉ refsL vs from h)]
  | iter m ks vs l =>
    simp only [Blk.refs, List.mem_append, not_or] at h
    cases l with
    | none => simp only [Blk.mapv, frzM_of h.1.2, Option.map_none]
    | some p => simp only [Blk.mapv, frzM_of h.1.2, Option.map_some, frz_of b x p.2 h.2]
  | loop f t ps a bd st p => simp only [Blk.mapv, frzM_of (show b ∉ refsL t from h)]
theorem frzH_of {b : Nat} {x : Option Blk} : ∀ {h : Heap}, b ∉ heapRefs h → (h.map fun y => y.map (Blk.mapv (LV.frz b x))) = h
  | [], _ => rfl
  | none :: h, hn => by rw [List.map_cons, frzH_of (by rwa [heapRefs_none] at hn)]; rfl
  | some y :: h, hn => by
    rw [heapRefs_cons, List.mem_append, not_or] at hn
    rw [List.map_cons, frzH_of hn.2]
    simp only [Option.map_some, frz1_of hn.1]
theorem rg_frz {s s' e : Nat} {live : List Nat} {g : G} {A : Heap} {mv : Bool} {es : List (List LV)} (hs : lk g s = some (.row A.length s' none)) (hA : A.length ∉ heapRefs A) :
    rg [.frz s] live (.ok (g, A ++ [some (.row true mv es s' e)])) = .ok (.normal, restr live (g.map fun (i, v) => (i, v.frz A.length (some (.row true mv es s' e)))), A ++ [none]) := by
  have h1 : (A ++ [some (Blk.row true mv es s' e)]).getD A.length none = some (.row true mv es s' e) := getD_app _ _
  have h2 : ((A ++ [some (Blk.row true mv es s' e)]).map fun y => y.map (Blk.mapv (LV.frz A.length (some (.row true mv es s' e))))).set A.length none = A ++ [none] := by
    rw [List.map_append, frzH_of hA, List.map_cons, List.map_nil, set_app]
  have h3 : frzable (some (.row true mv es s' e)) = true := rfl
  simp only [rg, ND.bind, regF, ghsF, ghF, hs, LV.refs, frzG, h1, h3, cond_true, h2]
theorem frz_row (b : Nat) (mv : Bool) (es : List (List LV)) (s e : Nat) : (LV.row b s none).frz b (some (.row true mv es s e)) = .sl s none false es := by
  simp only [LV.frz, beq_self_eq_true, cond_true, viewOf]
theorem frz_int (b : Nat) (x : Option Blk) (k : IntKind) (i : Int) : (LV.int k i).frz b x = .int k i := rfl
theorem frz_bool (b : Nat) (x : Option Blk) (i : Bool) : (LV.bool i).frz b x = .bool i := rfl
theorem frz_ptr (b b' o : Nat) (x : Option Blk) : (LV.ptr b' o).frz b x = .ptr b' o := rfl
theorem frz_sl (b : Nat) (x : Option Blk) (s : Nat) (nl : Option Bool) (ex : Bool) (es : List (List LV)) : (LV.sl s nl ex es).frz b x = .sl s nl ex es := rfl
theorem frz_rown (b b' s : Nat) (v : Option (Nat × Nat)) (x : Option Blk) (h : (b' == b) = false) : (LV.row b' s v).frz b x = .row b' s v := by
  simp only [LV.frz, h, cond_false]
theorem lim_drop {L : Nat} {v : LV} (h : v.lim L = true) : v.drop L = v := drop_of fun hb => by
  have := List.all_eq_true.1 h L hb
  simp at this
theorem lim_clip {L n : Nat} {v : LV} (h : v.lim L = true) (hn : L ≤ n) : v.clip n = v := by
  have : v.lim n = true := by
    unfold LV.lim at h ⊢
    rw [List.all_eq_true] at h ⊢
    intro b hb
    have := h b hb
    simp at this ⊢
    omega
  simp only [LV.clip, this, cond_true]
theorem hp_ne {h : Heap} {b s e i : Nat} {mv : Bool} {es : List (List LV)} (hi : b ≠ i) : (hp h b s e mv es).getD i none = h.getD i none := by
  unfold hp
  rw [List.getD_eq_getElem?_getD, List.getD_eq_getElem?_getD, List.getElem?_set_ne hi]
theorem hp_end (A : Heap) (s e : Nat) (mv : Bool) (es : List (List LV)) : A ++ [some (.row true mv es s e)] = hp (A ++ [none]) A.length s e mv es := by
  unfold hp; rw [set_app]
theorem scrub_hp {A : Heap} {s e : Nat} {mv mv' : Bool} {es es' : List (List LV)} (hA : A.length ∉ heapRefs A) : (scrubB A.length (hp (A ++ [none]) A.length s e mv es)).set A.length (some (.row true mv' es' s e)) = hp (A ++ [none]) A.length s e mv' es' := by
  rw [← hp_end, ← hp_end, scrub_app, scrub_of hA, scrub_r, scrub_n, set_app]
theorem stV_hpo {h : Heap} {b s e : Nat} {mv : Bool} {es : List (List LV)} (n i off : Nat) {x : LV} {ns el el' : List LV} (hb : b < h.length) (hx : x.cells = some ns) (hn : ns.length = n) (hr : refsL ns = []) (he : es[i]? = some el) (hs : setAt el off ns = some el') : stV n (hp h b s e mv es) (.rptr b i s off) x = some (hp h b s e mv (es.set i el')) := by
  simp only [stV, hx, hn, hp_get hb, hr, he, hs, hp_set, beq_self_eq_true, cond_true, Bool.not_true, Bool.false_or, List.isEmpty_nil, Bool.and_self, Option.bind_some, Option.map_some]
end Go.LH


set_option linter.unusedVariables false
namespace Go.LH
section
variable {κ : Type} [DecidableEq κ] {c : κ → LV}
theorem findK_map (he : ∀ a b, keyEq (c a) (c b) = decide (a = b)) (k : κ) : ∀ (ks : List κ) (i : Nat), findK (c k) (ks.map c) i = if k ∈ ks then some (i + ks.idxOf k) else none
  | [], i => by simp [findK]
  | x :: ks, i => by
    simp only [List.map_cons, findK, he]
    by_cases h : k = x
    · subst h
      simp
    · have h' : (x == k) = false := by simpa using fun e : x = k => h e.symm
      rw [findK_map he k ks (i + 1)]
      simp only [h, decide_false, cond_false, List.mem_cons, false_or, List.idxOf_cons, h']
      split
      · congr 1; omega
      · rfl
def addK (ks : List κ) (k : κ) : List κ := if k ∈ ks then ks else ks ++ [k]
theorem addK_nodup {ks : List κ} (h : ks.Nodup) (k : κ) : (addK ks k).Nodup := by
  unfold addK
  split
  · exact h
  · rename_i hk
    rw [List.nodup_append]
    exact ⟨h, by simp, fun a ha b hb => by simp at hb; subst hb; exact fun e => hk (e ▸ ha)⟩
theorem addK_mem {ks : List κ} {k x : κ} : x ∈ addK ks k ↔ x ∈ ks ∨ x = k := by
  unfold addK
  split
  · rename_i h
    exact ⟨.inl, fun h2 => h2.elim id fun e => e ▸ h⟩
  · simp
theorem mup_set (he : ∀ a b, keyEq (c a) (c b) = decide (a = b)) {K : Ctx} {cf : CallF} {kt m : Nat} {agg : Bool} {eks : List EK} {h : Heap} {ks : List κ} (k : κ) (hk : keyR agg eks (c k) = true) (hm : h.getD m none = some (.map true kt (ks.map c) (ks.map fun _ => .bool true))) :
    xsem K cf (.mup kt agg eks) [.map m, c k, .bool true] h = .ok (2, .tup [], none, dropIters m (h.set m (some (.map true kt ((addK ks k).map c) ((addK ks k).map fun _ => .bool true))))) := by
  have e : xsem K cf (.mup kt agg eks) [.map m, c k, .bool true] h = mupX (mupR kt agg eks h (.map m) (c k) (.bool true)) := rfl
  rw [e]
  have hcond : (kt = kt && (!true || (LV.bool true).refs.isEmpty)) = true := by simp [LV.refs]
  simp only [mupR, hk, cond_true, hm, hcond, if_true, findK_map he]
  unfold addK
  by_cases hmem : k ∈ ks
  · simp only [hmem, if_true, Nat.zero_add]
    have : (ks.map fun _ => LV.bool true).set (ks.idxOf k) (.bool true) = ks.map fun _ => LV.bool true := by
      refine List.ext_getElem? fun i => ?_
      rw [List.getElem?_set]
      split
      · rename_i hi; subst hi
        split
        · rename_i hl
          rw [List.length_map] at hl
          simp [hl]
        · rename_i hl
          rw [List.length_map] at hl
          exact absurd (List.idxOf_lt_length_of_mem hmem) hl
      · rfl
    rw [this]; rfl
  · simp only [hmem, if_false, List.map_append]; rfl
end
theorem drop_iters {m : Nat} : ∀ {h : Heap}, (h.all fun x => match x with | some (.iter _ _ _ _) => false | _ => true) = true → dropIters m h = h
  | [], _ => rfl
  | x :: h, hh => by
    rw [List.all_cons, Bool.and_eq_true] at hh
    have ih := drop_iters (m := m) hh.2
    unfold dropIters at ih ⊢
    rw [List.map_cons, ih]
    congr 1
    cases x with
    | none => rfl
    | some y => cases y <;> first | rfl | (cases hh.1; done)
theorem x_mkm (K : Ctx) (cf : CallF) (kt : Nat) (h : Heap) : xsem K cf (.mkm kt) [] h = .ok (1, .map h.length, none, h ++ [some (.map true kt [] [])]) := rfl
theorem mkf_s (f : Nat) (a b : List LV) : mkfV f (some a) (some b) = some (.fn (.func f) a b) := rfl
theorem wp_calM {x : ND LV} {v : LV} {F : LV → Nat × G × Heap} {gh : List Gh} {live : List Nat} {f : G → Heap → ND (G × Heap)} {Q : Ex → G → Heap → Prop} (hx : x.all (· = v)) (hw : WP false (rg gh live (f (F v).2.1 (F v).2.2)) Q) : WP false (rg gh live (nt (opT (ND.map F x)) f)) Q := by
  unfold WP rg nt opT ND.map
  rw [w_bind, w_bind, w_bind, w_bind]
  refine W.mono (m := false) hx fun a ha => ?_
  subst ha
  refine w_ok.2 (w_ok.2 ?_)
  unfold WP rg at hw
  rw [w_bind] at hw
  exact hw
theorem all_of_w {α : Type} {x : ND α} {Q : α → Prop} (h : W false x Q) : x.all Q := h
section
variable {h : Heap} {b s e : Nat} {pu mv : Bool} {es : List (List LV)}
theorem ixs_g (k : IntKind) (i : Nat) (hb : h.getD b none = some (.row pu mv es s e)) (hi : i < es.length) : ixV s h (.row b s none) (.int k (i : Int)) = some (.rptr b i s 0) := by
  simp only [ixV, hb, Int.toNat_natCast, beq_self_eq_true, cond_true, List.getElem?_eq_getElem hi, Option.map_some, show decide (0 ≤ (i : Int)) = true from decide_eq_true (by omega)]
theorem ld_g (m : Option Nat) (i o : Nat) {x : List LV} (hb : h.getD b none = some (.row pu mv es s e)) (hx : es[i]? = some x) : ldV m h (.rptr b i s o) = pkV m o x := by
  simp only [ldV, hb, hx, beq_self_eq_true, cond_true, Option.bind_some]
theorem len_g (hb : h.getD b none = some (.row pu mv es s e)) : lenSV h (.row b s none) = some (.int .i64 es.length) := by
  simp only [lenSV, hb]
end
end Go.LH

