/- Part of the proof: what the functions compute. -/
import Derived.Test.YtglhnodmpifjhaaRows
import Derived.WalkKit
import Derived.ProofKit
import Derived.OpenShut
import Derived.Test.YtglhnodmpifjhaaCV9x0
set_option linter.all false
set_option maxRecDepth 100000
set_option linter.unusedSimpArgs false
set_option linter.unusedVariables false
namespace Go.LH.s04
open Go Go.LH
attribute [local irreducible] W GivesA
theorem chg_days' (n : Nat) (A : Heap) (L i12 i13 : Nat) (a b : Nat → Int) (x0 x1 x2 x6 x11 x30 x31 x32 : LV) (Q : Ex → G → Heap → Prop) (hL : A.length = L)
    (hA : L ∉ heapRefs A) (h12 : A.getD i12 none = some (.cells (arrI a) 70)) (h13 : A.getD i13 none = some (.cells (arrI b) 70)) (hl12 : i12 < L) (hl13 : i13 < L)
    (hx : (x0.lim L && x1.lim L && x2.lim L && x6.lim L && x11.lim L && x30.lim L && x31.lim L && x32.lim L) = true) (hn : 1024 < n)
    (hQ : ∀ g mv, g = [(0, x0), (1, x1), (2, x2), (6, x6), (11, x11), (12, .ptr i12 0), (13, .ptr i13 0), (14, .row L 2 none), (30, x30), (31, x31), (32, x32), (44, I 1024), (45, .bool false)] → Q (.exit 4) g (A ++ [some (.row true mv ((daysN a b 1024).map cSp) 2 26)])) :
    WP false (iterF (L + 1) n (execT K n (callN K n) l24_1) [(0, x0), (1, x1), (2, x2), (6, x6), (11, x11), (12, .ptr i12 0), (13, .ptr i13 0), (14, .row L 2 none), (30, x30), (31, x31), (32, x32), (44, I 0)] (A ++ [some (.row true true [] 2 26)])) Q := by
  subst hL
  exact chg_days n A i12 i13 a b x0 x1 x2 x6 x11 x30 x31 x32 Q hA h12 h13 hl12 hl13 hx hn hQ
theorem keyEq_k (a b : Key) : Go.LH.keyEq (aKey a) (aKey b) = decide (a = b) := by
  obtain ⟨a1, a2, a3⟩ := a
  obtain ⟨b1, b2, b3⟩ := b
  rw [Bool.eq_iff_iff]
  simp [Go.LH.keyEq, eqC, scEq]
def keysF (l : List Fact) : List Key := l.foldl (fun ks f => addK ks f.k) []
theorem keysF_mem (l : List Fact) (k : Key) : k ∈ keysF l ↔ ∃ f ∈ l, f.k = k := by
  unfold keysF
  have : ∀ (l : List Fact) (ks : List Key), k ∈ l.foldl (fun ks f => addK ks f.k) ks ↔ k ∈ ks ∨ ∃ f ∈ l, f.k = k := by
    intro l
    induction l with
    | nil => simp
    | cons f l ih =>
      intro ks
      rw [List.foldl_cons, ih, addK_mem, or_assoc]
      constructor
      · rintro (h | h | ⟨g, h1, h2⟩)
        · exact .inl h
        · exact .inr ⟨f, by simp, h.symm⟩
        · exact .inr ⟨g, by simp [h1], h2⟩
      · rintro (h | ⟨g, h1, h2⟩)
        · exact .inl h
        · rcases List.mem_cons.1 h1 with rfl | h1
          · exact .inr (.inl h2.symm)
          · exact .inr (.inr ⟨g, h1, h2⟩)
  simpa using this l []
theorem keysF_len (l : List Fact) : (keysF l).length ≤ l.length := by
  unfold keysF
  have : ∀ (l : List Fact) (ks : List Key), (l.foldl (fun ks f => addK ks f.k) ks).length ≤ ks.length + l.length := by
    intro l
    induction l with
    | nil => simp
    | cons f l ih =>
      intro ks
      have h1 := ih (addK ks f.k)
      have h2 : (addK ks f.k).length ≤ ks.length + 1 := by unfold addK; split <;> simp
      simp only [List.foldl_cons, List.length_cons]
      omega
  simpa using this l []
theorem keysF_take {l : List Fact} {i : Nat} (h : i < l.length) : keysF (l.take (i + 1)) = addK (keysF (l.take i)) (l.getD i default).k := by
  unfold keysF
  rw [List.take_add_one, List.getElem?_eq_getElem h, getD_at h]
  simp [List.foldl_append]
abbrev Dif := Key × List (Int × Int)
@[reducible] def cDif (p : Dif) : List LV := [I p.1.a, I p.1.b, I p.1.c, .sl 2 none false (p.2.map cSp)]
def dayF (l : List Fact) (bf af : Int) (k : Key) : List (Int × Int) := daysN (valF l k bf) (valF l k af) 1024
def chgL (l : List Fact) (bf af : Int) (ks : List Key) : List Dif := ks.filterMap fun k => if (dayF l bf af k).length = 0 then none else some (k, dayF l bf af k)
theorem chgL_len (l : List Fact) (bf af : Int) (ks : List Key) : (chgL l bf af ks).length ≤ ks.length := List.length_filterMap_le ..
theorem chgL_app (l : List Fact) (bf af : Int) (ks : List Key) (k : Key) : chgL l bf af (ks ++ [k]) = chgL l bf af ks ++ (if (dayF l bf af k).length = 0 then [] else [(k, dayF l bf af k)]) := by
  unfold chgL
  rw [List.filterMap_append]
  congr 1
  simp only [List.filterMap_cons, List.filterMap_nil]
  split <;> rename_i h <;> split at h <;> simp_all
theorem chg_keys (n N : Nat) (nl : Option Bool) (ex : Bool) (l : List Fact) (bf af : Int) (out : List Key) (Q : Ex → G → Heap → Prop) (hn : l.length < n) (hb : l.length < 1000)
    (hQ : Q (.exit 0) [(0, sF nl ex l), (1, I bf), (2, I af), (6, .row 0 4 none), (7, .map 1), (18, sF nl ex l), (19, I l.length), (20, I l.length), (21, .bool false)] [some (.row true true [] 4 57), some (.map true 24 ((keysF l).map aKey) ((keysF l).map fun _ => .bool true))]) :
    WP false (iterF 2 n (execT K n (callN K n) l24_0) [(0, sF nl ex l), (1, I bf), (2, I af), (6, .row 0 4 none), (7, .map 1), (18, sF nl ex l), (19, I l.length), (20, I 0)] [some (.row true true [] 4 57), some (.map true 24 [] [])]) Q := by
  refine wp_loop (fun m g h => ∃ (i : Nat), i ≤ l.length ∧ m = l.length - i ∧ g = [(0, sF nl ex l), (1, I bf), (2, I af), (6, .row 0 4 none), (7, .map 1), (18, sF nl ex l), (19, I l.length), (20, I i)] ∧ h = [some (.row true true [] 4 57), some (.map true 24 ((keysF (l.take i)).map aKey) ((keysF (l.take i)).map fun _ => .bool true))]) ?_ n l.length _ _ ⟨0, by omega, by omega, rfl, rfl⟩ hn
  rintro m g h ⟨i, hi, rfl, rfl, rfl⟩
  simp only [l24_0, r24_3, WW, callF, calF, stepF, boxF, fillF.o1c, LV.cells, rv, argsG, ND.bind, fieldAt, getAt, eqsV, kindsOk, ekOf, eqC, scEq, Nat.blt, Nat.ble, putP, allK, Nat.reduceAdd, Nat.reduceBEq, List.getD_cons_zero, List.getD_cons_succ, List.getElem?_cons_zero, List.getElem?_cons_succ, List.length_nil, List.length_cons, List.nil_append, List.cons_append, Option.map_some, cond_true, cond_false, beq_self_eq_true, nd_map_ok, List.set_cons_zero, List.set_cons_succ, List.filter_nil, List.isEmpty_nil, List.zip_cons_cons, List.zip_nil_left, List.zip_nil_right, List.all_cons, List.all_nil, Option.isSome_some, List.replicate_succ, List.replicate_zero]
  refine ⟨fun hlt => ?_, fun hge => ?_⟩
  · have hlt : i < l.length := by simpa using hlt
    have e1 : IntKind.i64.wrap ((i : Int) + 1) = ((i + 1 : Nat) : Int) := by rw [wrap_id (by omega) (by omega)]; rfl
    have hk := keysF_take hlt
    generalize keysF (l.take i) = ks at *
    have hm := mup_set (K := K) (cf := callN K n) (c := aKey) keyEq_k (kt := 24) (m := 1) (agg := true) (eks := [.i .i64, .i .i64, .i .i64]) (h := [some (.row true true [] 4 57), some (.map true 24 (ks.map aKey) (ks.map fun _ => .bool true)), some (.cells (cFact (l.getD i default)) 28)]) (l.getD i default).k rfl rfl
    rw [← hk] at hm
    generalize hk0 : keysF (l.take (i + 1)) = ks' at hk hm
    rw [drop_iters rfl, List.set_cons_succ, List.set_cons_zero] at hm
    generalize hf : l.getD i default = f at *
    simp only [r24_4, r24_5, r24_6, getF' hlt, hf, hm, e1, WW, callF, calF, stepF, boxF, fillF.o1c, LV.cells, rv, argsG, ND.bind, fieldAt, getAt, eqsV, kindsOk, ekOf, eqC, scEq, Nat.blt, Nat.ble, putP, allK, Nat.reduceAdd, Nat.reduceBEq, List.getD_cons_zero, List.getD_cons_succ, List.getElem?_cons_zero, List.getElem?_cons_succ, List.length_nil, List.length_cons, List.nil_append, List.cons_append, Option.map_some, cond_true, cond_false, beq_self_eq_true, nd_map_ok, List.set_cons_zero, List.set_cons_succ, List.filter_nil, List.isEmpty_nil, List.zip_cons_cons, List.zip_nil_left, List.zip_nil_right, List.all_cons, List.all_nil, Option.isSome_some, List.replicate_succ, List.replicate_zero]
    rw [trunc_of (h' := [some (.row true true [] 4 57), some (.map true 24 (ks'.map aKey) (ks'.map fun _ => .bool true))]) _ rfl rfl]
    exact ⟨l.length - (i + 1), by omega, i + 1, by omega, rfl, rfl, by rw [hk0]⟩
  · have : i = l.length := by simp at hge; omega
    subst this
    simp only [List.take_length]
    have hge : decide ((l.length : Int) < (l.length : Int)) = false := by simp
    rw [hge]
    exact hQ
noncomputable def chH (ks out : List Key) (last : Option Key) (mv : Bool) (cs : List Dif) : Heap := some (.row true true (cs.map cDif) 4 57) :: some (.map true 24 (ks.map aKey) (ks.map fun _ => .bool true)) :: some (.cells [.map 1] 72) :: colB 3 1 out last mv
noncomputable def chA (ks out : List Key) (last : Option Key) (mv : Bool) (cs : List Dif) (k : Key) (a b : Nat → Int) : Heap := chH ks out last mv cs ++ [some (.cells (cKey k) 24), some (.cells (arrI a) 70), some (.cells (arrI b) 70)]
theorem chH_refs (ks out : List Key) (last : Option Key) (mv : Bool) (cs : List Dif) : heapRefs (chH ks out last mv cs) = [1, 4, 1] := by
  show [1] ++ ([4] ++ heapRefs [itB 1 [] last]) = _
  rw [refs_itB]; rfl
theorem chH_len (ks out : List Key) (last : Option Key) (mv : Bool) (cs : List Dif) : (chH ks out last mv cs).length = 7 := rfl
theorem getK {l : List Key} {i : Nat} (h : i < l.length) : (l.map cKey)[i]? = some (cKey (l.getD i ⟨0, 0, 0⟩)) := by simp [List.getD_eq_getElem?_getD, h]
theorem chg_loop (n : Nat) (nl : Option Bool) (ex : Bool) (l : List Fact) (bf af : Int) (ks out : List Key) (last : Option Key) (mv : Bool) (Q : Ex → G → Heap → Prop) (hn : l.length < n) (hb : l.length < 1000) (hn2 : 2000 < n) (ho : out.length < 1000)
    (hQ : Q (.exit 2) [(0, sF nl ex l), (1, I bf), (2, I af), (6, .row 0 4 none), (30, .row 4 3 none), (31, I out.length), (32, I out.length), (33, .bool false)] (chH ks out last mv (chgL l bf af out))) :
    WP false (iterF 7 (n + 30) (execT K (n + 30) (callN K (n + 30)) l24_2) [(0, sF nl ex l), (1, I bf), (2, I af), (6, .row 0 4 none), (30, .row 4 3 none), (31, I out.length), (32, I 0)] (chH ks out last mv [])) Q := by
  refine wp_loop (fun m g h => ∃ (i : Nat), i ≤ out.length ∧ m = out.length - i ∧ g = [(0, sF nl ex l), (1, I bf), (2, I af), (6, .row 0 4 none), (30, .row 4 3 none), (31, I out.length), (32, I i)] ∧ h = chH ks out last mv (chgL l bf af (out.take i))) ?_ (n + 30) out.length _ _ ⟨0, by omega, by omega, rfl, rfl⟩ (by omega)
  rintro m g h ⟨i, hi, rfl, rfl, rfl⟩
  simp only [l24_2, r24_8, WW, callF, calF, stepF, boxF, fillF.o1c, LV.cells, rv, argsG, ND.bind, fieldAt, getAt, eqsV, kindsOk, ekOf, eqC, scEq, Nat.blt, Nat.ble, putP, allK, Nat.reduceAdd, Nat.reduceBEq, List.getD_cons_zero, List.getD_cons_succ, List.getElem?_cons_zero, List.getElem?_cons_succ, List.length_nil, List.length_cons, List.nil_append, List.cons_append, Option.map_some, cond_true, cond_false, beq_self_eq_true, nd_map_ok, List.set_cons_zero, List.set_cons_succ, List.filter_nil, List.isEmpty_nil, List.zip_cons_cons, List.zip_nil_left, List.zip_nil_right, List.all_cons, List.all_nil, Option.isSome_some, List.replicate_succ, List.replicate_zero]
  refine ⟨fun hlt => ?_, fun hge => ?_⟩
  · have hlt : i < out.length := by simpa using hlt
    have e1 : IntKind.i64.wrap ((i : Int) + 1) = ((i + 1 : Nat) : Int) := by rw [wrap_id (by omega) (by omega)]; rfl
    have hcl := chgL_len l bf af (out.take i)
    have hnext : chgL l bf af (out.take (i + 1)) = chgL l bf af (out.take i) ++ (if (dayF l bf af (out.getD i ⟨0, 0, 0⟩)).length = 0 then [] else [(out.getD i ⟨0, 0, 0⟩, dayF l bf af (out.getD i ⟨0, 0, 0⟩))]) := by
      rw [List.take_add_one, List.getElem?_eq_getElem hlt, ← chgL_app]
      simp [List.getD_eq_getElem?_getD, hlt]
    have hgk := getK hlt
    have hil : i < (out.map cKey).length := by simpa using hlt
    have hcl2 : (chgL l bf af (out.take i)).length < 1000 := by simp at hcl; omega
    generalize chgL l bf af (out.take i) = cs at *
    generalize out.getD i ⟨0, 0, 0⟩ = k at *
    have hrow : (chH ks out last mv cs).getD 4 none = some (.row true mv (out.map cKey) 3 24) := rfl
    have hix : ixV 3 (chH ks out last mv cs) (.row 4 3 none) (.int .i64 (i : Int)) = some (.rptr 4 i 3 0) := ixs_g _ _ hrow hil
    have hld : ldV (some 3) (chH ks out last mv cs) (.rptr 4 i 3 0) = some (.agg (cKey k)) := by rw [ld_g _ _ _ hrow hgk]; rfl
    have e9 : WP false (rg [] [0, 1, 2, 6, 11, 30, 31, 32] (runT K (callN K (n + 30)) r24_9 [(0, sF nl ex l), (1, I bf), (2, I af), (6, .row 0 4 none), (30, .row 4 3 none), (31, I out.length), (32, I i), (33, .bool (decide ((i : Int) < (out.length : Int))))] (chH ks out last mv cs))) fun e g h => e = .normal ∧ g = [(0, sF nl ex l), (1, I bf), (2, I af), (6, .row 0 4 none), (11, .ptr 7 0), (30, .row 4 3 none), (31, I out.length), (32, I i)] ∧ h = chH ks out last mv cs ++ [some (.cells (cKey k) 24)] := by
      have hl7 := chH_len ks out last mv cs
      generalize chH ks out last mv cs = A at *
      rw [← hl7]
      simp only [r24_9, hix, hld, getD_app, set_app, WW, callF, calF, stepF, boxF, fillF.o1c, LV.cells, rv, argsG, ND.bind, fieldAt, getAt, eqsV, kindsOk, ekOf, eqC, scEq, Nat.blt, Nat.ble, putP, allK, Nat.reduceAdd, Nat.reduceBEq, List.getD_cons_zero, List.getD_cons_succ, List.getElem?_cons_zero, List.getElem?_cons_succ, List.length_nil, List.length_cons, List.nil_append, List.cons_append, Option.map_some, cond_true, cond_false, beq_self_eq_true, nd_map_ok, List.set_cons_zero, List.set_cons_succ, List.filter_nil, List.isEmpty_nil, List.zip_cons_cons, List.zip_nil_left, List.zip_nil_right, List.all_cons, List.all_nil, Option.isSome_some, List.replicate_succ, List.replicate_zero]
      exact ⟨trivial, trivial, trivial⟩
    refine e9.mono fun e g h hh => ?_
    obtain ⟨rfl, rfl, rfl⟩ := hh
    rw [sqQ_n, x_seq, wp_sq]
    have hva := fun h => values_i (n + 10) nl ex l k bf (by omega) (by omega) (by omega) h
    have hvb := fun h => values_i (n + 10) nl ex l k af (by omega) (by omega) (by omega) h
    have e10 : WP false (execT K (n + 30) (callN K (n + 30)) (.reg 10 r24_10 (some [0, 1, 0, 1, 0, 1, 0, 1, 1, 1, 2, 2]) [] [0, 1, 2, 6, 11, 12, 13, 30, 31, 32]) [(0, sF nl ex l), (1, I bf), (2, I af), (6, .row 0 4 none), (11, .ptr 7 0), (30, .row 4 3 none), (31, I out.length), (32, I i)] (chH ks out last mv cs ++ [some (.cells (cKey k) 24)])) fun e g h => e = .normal ∧ g = [(0, sF nl ex l), (1, I bf), (2, I af), (6, .row 0 4 none), (11, .ptr 7 0), (12, .ptr 8 0), (13, .ptr 9 0), (30, .row 4 3 none), (31, I out.length), (32, I i)] ∧ h = chH ks out last mv cs ++ [some (.cells (cKey k) 24), some (.cells (arrI (valF l k bf)) 70), some (.cells (arrI (valF l k af)) 70)] := by
      have g7 : ∀ X : Heap, (chH ks out last mv cs ++ some (.cells (cKey k) 24) :: X).getD 7 none = some (.cells (cKey k) 24) := fun X => rfl
      have g8 : ∀ x y : Option Blk, (chH ks out last mv cs ++ [some (.cells (cKey k) 24), x, y]).getD 8 none = x := fun x y => rfl
      have g9 : ∀ x y : Option Blk, (chH ks out last mv cs ++ [some (.cells (cKey k) 24), x, y]).getD 9 none = y := fun x y => rfl
      have s8 : ∀ x y z : Option Blk, (chH ks out last mv cs ++ [some (.cells (cKey k) 24), x, y]).set 8 z = chH ks out last mv cs ++ [some (.cells (cKey k) 24), z, y] := fun x y z => rfl
      have s9 : ∀ x y z : Option Blk, (chH ks out last mv cs ++ [some (.cells (cKey k) 24), x, y]).set 9 z = chH ks out last mv cs ++ [some (.cells (cKey k) 24), x, z] := fun x y z => rfl
      have hset : ∀ a b, setAt (arrI a) 0 (arrI b) = some (arrI b) := fun a b => setAt_all _ _ (by rw [arrI_len, arrI_len])
      have hl7 := chH_len ks out last mv cs
      generalize chH ks out last mv cs = A at *
      simp only [r24_10, hva, hvb, g7, g8, g9, s8, s9, hl7, List.append_assoc, List.length_append, arrI_0, hset, arrI_len, WW, callF, calF, stepF, boxF, fillF.o1c, LV.cells, rv, argsG, ND.bind, fieldAt, getAt, eqsV, kindsOk, ekOf, eqC, scEq, Nat.blt, Nat.ble, putP, allK, Nat.reduceAdd, Nat.reduceBEq, List.getD_cons_zero, List.getD_cons_succ, List.getElem?_cons_zero, List.getElem?_cons_succ, List.length_nil, List.length_cons, List.nil_append, List.cons_append, Option.map_some, cond_true, cond_false, beq_self_eq_true, nd_map_ok, List.set_cons_zero, List.set_cons_succ, List.filter_nil, List.isEmpty_nil, List.zip_cons_cons, List.zip_nil_left, List.zip_nil_right, List.all_cons, List.all_nil, Option.isSome_some]
      exact ⟨trivial, trivial, trivial⟩
    refine e10.mono fun e g h hh => ?_
    obtain ⟨rfl, rfl, rfl⟩ := hh
    rw [show chH ks out last mv cs ++ [some (Blk.cells (cKey k) 24), some (Blk.cells (arrI (valF l k bf)) 70), some (Blk.cells (arrI (valF l k af)) 70)] = chA ks out last mv cs k (valF l k bf) (valF l k af) from rfl]
    have hA8 : (chA ks out last mv cs k (valF l k bf) (valF l k af)).getD 8 none = some (.cells (arrI (valF l k bf)) 70) := rfl
    have hA9 : (chA ks out last mv cs k (valF l k bf) (valF l k af)).getD 9 none = some (.cells (arrI (valF l k af)) 70) := rfl
    have hA7 : ∀ X : Heap, (chA ks out last mv cs k (valF l k bf) (valF l k af) ++ X).getD 7 none = some (.cells (cKey k) 24) := fun X => rfl
    have hA0 : ∀ X : Heap, (chA ks out last mv cs k (valF l k bf) (valF l k af) ++ X).getD 0 none = some (.row true true (cs.map cDif) 4 57) := fun X => rfl
    have hAl : (chA ks out last mv cs k (valF l k bf) (valF l k af)).length = 10 := rfl
    have hAr : heapRefs (chA ks out last mv cs k (valF l k bf) (valF l k af)) = [1, 4, 1] := by
      unfold chA
      rw [heapRefs_app, chH_refs]
      simp only [heapRefs_cons, heapRefs_nil, refs_cells', arrI_refs]
      rfl
    have hAt : ∀ X : Heap, (chA ks out last mv cs k (valF l k bf) (valF l k af) ++ X).take 7 = chH ks out last mv cs := fun X => by
      unfold chA; rw [List.append_assoc]; exact List.take_left' rfl
    have hAs : ∀ es, (chA ks out last mv cs k (valF l k bf) (valF l k af) ++ [none]).set 0 (some (.row true true ((cs ++ es).map cDif) 4 57)) = chA ks out last mv (cs ++ es) k (valF l k bf) (valF l k af) ++ [none] := fun es => rfl
    have hfin : ∀ (cs' : List Dif) (X : Heap), chgL l bf af (out.take (i + 1)) = cs' → lpQ 7 (out.length - i) (fun m g h => ∃ (i : Nat), i ≤ out.length ∧ m = out.length - i ∧ g = [(0, sF nl ex l), (1, I bf), (2, I af), (6, .row 0 4 none), (30, .row 4 3 none), (31, I out.length), (32, I i)] ∧ h = chH ks out last mv (chgL l bf af (out.take i))) Q .normal [(0, sF nl ex l), (1, I bf), (2, I af), (6, .row 0 4 none), (30, .row 4 3 none), (31, I out.length), (32, I ((i + 1 : Nat) : Int))] (chH ks out last mv cs' ++ X) := fun cs' X e => by
      have ht : (chH ks out last mv cs' ++ X).take 7 = chH ks out last mv cs' := List.take_left' (chH_len ..)
      rw [lpQ_n, trunc_of _ ht (by rw [chH_refs]; rfl)]
      exact ⟨out.length - (i + 1), by omega, i + 1, by omega, rfl, rfl, by rw [e]⟩
    have hda : dayF l bf af k = daysN (valF l k bf) (valF l k af) 1024 := rfl
    rw [hda] at hnext
    generalize hAdef : chA ks out last mv cs k (valF l k bf) (valF l k af) = A at *
    simp only [r24_11, r24_12, x_loop, hAl, List.length_append, WW, callF, calF, stepF, boxF, fillF.o1c, LV.cells, rv, argsG, ND.bind, fieldAt, getAt, eqsV, kindsOk, ekOf, eqC, scEq, Nat.blt, Nat.ble, putP, allK, Nat.reduceAdd, Nat.reduceBEq, List.getD_cons_zero, List.getD_cons_succ, List.getElem?_cons_zero, List.getElem?_cons_succ, List.length_nil, List.length_cons, List.nil_append, List.cons_append, Option.map_some, cond_true, cond_false, beq_self_eq_true, nd_map_ok, List.set_cons_zero, List.set_cons_succ, List.filter_nil, List.isEmpty_nil, List.zip_cons_cons, List.zip_nil_left, List.zip_nil_right, List.all_cons, List.all_nil, Option.isSome_some, List.replicate_succ, List.replicate_zero]
    refine chg_days' (n + 30) A 10 8 9 (valF l k bf) (valF l k af) (sF nl ex l) (I bf) (I af) (.row 0 4 none) (.ptr 7 0) (.row 4 3 none) (I out.length) (I i) _ hAl (by rw [hAr]; simp) hA8 hA9 (by omega) (by omega) rfl (by omega) ?_
    rintro g mv2 rfl
    have hdl := daysN_len (valF l k bf) (valF l k af) 1024
    generalize daysN (valF l k bf) (valF l k af) 1024 = D at *
    have hlenD : lenSV (A ++ [some (.row true mv2 (D.map cSp) 2 26)]) (.row 10 2 none) = some (.int .i64 (D.length : Int)) := by
      rw [len_g (b := 10) (pu := true) (mv := mv2) (s := 2) (e := 26) (es := D.map cSp) (by rw [← hAl]; exact getD_app _ _), List.length_map]
    have hfrz := fun g live => rg_frz (s := 14) (s' := 2) (e := 26) (live := live) (g := g) (A := A) (mv := mv2) (es := D.map cSp)
    rw [hAl] at hfrz
    have hfz := frz_row 10 mv2 (D.map cSp) 2 26
    have hf0 := frz_rown 10 0 4 none (some (.row true mv2 (D.map cSp) 2 26)) rfl
    have hf4 := frz_rown 10 4 3 none (some (.row true mv2 (D.map cSp) 2 26)) rfl
    simp only [bkQ_x, r24_21, hlenD, WW, callF, calF, stepF, boxF, fillF.o1c, LV.cells, rv, argsG, ND.bind, fieldAt, getAt, eqsV, kindsOk, ekOf, eqC, scEq, Nat.blt, Nat.ble, putP, allK, Nat.reduceAdd, Nat.reduceBEq, List.getD_cons_zero, List.getD_cons_succ, List.getElem?_cons_zero, List.getElem?_cons_succ, List.length_nil, List.length_cons, List.nil_append, List.cons_append, Option.map_some, cond_true, cond_false, beq_self_eq_true, nd_map_ok, List.set_cons_zero, List.set_cons_succ, List.filter_nil, List.isEmpty_nil, List.zip_cons_cons, List.zip_nil_left, List.zip_nil_right, List.all_cons, List.all_nil, Option.isSome_some, List.replicate_succ, List.replicate_zero]
    rw [hfrz _ _ rfl (by rw [hAr]; simp)]
    simp only [List.map_cons, List.map_nil, hfz, hf0, hf4, frz_int, frz_bool, frz_ptr, frz_sl, WW, callF, calF, stepF, boxF, fillF.o1c, LV.cells, rv, argsG, ND.bind, fieldAt, getAt, eqsV, kindsOk, ekOf, eqC, scEq, Nat.blt, Nat.ble, putP, allK, Nat.reduceAdd, Nat.reduceBEq, List.getD_cons_zero, List.getD_cons_succ, List.getElem?_cons_zero, List.getElem?_cons_succ, List.length_nil, List.length_cons, List.nil_append, List.cons_append, Option.map_some, cond_true, cond_false, beq_self_eq_true, nd_map_ok, List.set_cons_zero, List.set_cons_succ, List.filter_nil, List.isEmpty_nil, List.zip_cons_cons, List.zip_nil_left, List.zip_nil_right, List.all_cons, List.all_nil, Option.isSome_some, List.replicate_succ, List.replicate_zero]
    refine ⟨fun hc => ?_, fun hc => ?_⟩
    · have hc : 0 < D.length := by simpa using hc
      have hx0 := fun g => x_app_row (K := K) (cf := callN K (n + 30)) (d := some 93) (g := g) (s := 4) (et := 57) (b := 0) (h := A ++ [none]) (nl := some false) (ex := true) (new := [cDif (k, D)]) (hA0 [none]) (by simp; omega)
      rw [scrub_of (by rw [heapRefs_app, hAr]; simp [heapRefs]), show cs.map cDif ++ [cDif (k, D)] = (cs ++ [(k, D)]).map cDif by simp, hAs] at hx0
      simp only [r24_22, r24_23, hA7, fillF, Option.bind_some, hx0, e1, WW, callF, calF, stepF, boxF, fillF.o1c, LV.cells, rv, argsG, ND.bind, fieldAt, getAt, eqsV, kindsOk, ekOf, eqC, scEq, Nat.blt, Nat.ble, putP, allK, Nat.reduceAdd, Nat.reduceBEq, List.getD_cons_zero, List.getD_cons_succ, List.getElem?_cons_zero, List.getElem?_cons_succ, List.length_nil, List.length_cons, List.nil_append, List.cons_append, Option.map_some, cond_true, cond_false, beq_self_eq_true, nd_map_ok, List.set_cons_zero, List.set_cons_succ, List.filter_nil, List.isEmpty_nil, List.zip_cons_cons, List.zip_nil_left, List.zip_nil_right, List.all_cons, List.all_nil, Option.isSome_some, List.replicate_succ, List.replicate_zero]
      unfold chA
      rw [List.append_assoc]
      exact lpQ_n.1 (hfin _ _ (by rw [hnext, if_neg (by omega)]))
    · have hc : D.length = 0 := by simpa using hc
      simp only [r24_23, e1, WW, callF, calF, stepF, boxF, fillF.o1c, LV.cells, rv, argsG, ND.bind, fieldAt, getAt, eqsV, kindsOk, ekOf, eqC, scEq, Nat.blt, Nat.ble, putP, allK, Nat.reduceAdd, Nat.reduceBEq, List.getD_cons_zero, List.getD_cons_succ, List.getElem?_cons_zero, List.getElem?_cons_succ, List.length_nil, List.length_cons, List.nil_append, List.cons_append, Option.map_some, cond_true, cond_false, beq_self_eq_true, nd_map_ok, List.set_cons_zero, List.set_cons_succ, List.filter_nil, List.isEmpty_nil, List.zip_cons_cons, List.zip_nil_left, List.zip_nil_right, List.all_cons, List.all_nil, Option.isSome_some, List.replicate_succ, List.replicate_zero]
      rw [← hAdef]
      unfold chA
      rw [List.append_assoc]
      exact lpQ_n.1 (hfin _ _ (by rw [hnext, if_pos hc, List.append_nil]))
  · have : i = out.length := by simp at hge; omega
    subst this
    have hge : decide ((out.length : Int) < (out.length : Int)) = false := by simp
    rw [hge, List.take_length]
    exact hQ
theorem changed_t (n N : Nat) (nl : Option Bool) (ex : Bool) (l : List Fact) (bf af : Int) (out : List Key) (hn : l.length < n) (hb : l.length < 1000) (hn2 : 2000 < n) (hN : N ≤ n) (hs : ∀ es : List Key, es.Perm (keysF l) → SortsTo N es out) (ho : out.length ≤ l.length) :
    GivesA K (n + 31) 24 [sF nl ex l, I bf, I af] (.sl 4 none false ((chgL l bf af out).map cDif)) := by
  refine givesA_wp ok24 rfl ?_
  simp only [b24, r24_0, r24_1, r24_2, x_loop, x_mkm, List.length_map, WW, callF, calF, stepF, boxF, fillF.o1c, LV.cells, rv, argsG, ND.bind, fieldAt, getAt, eqsV, kindsOk, ekOf, eqC, scEq, Nat.blt, Nat.ble, putP, allK, Nat.reduceAdd, Nat.reduceBEq, List.getD_cons_zero, List.getD_cons_succ, List.getElem?_cons_zero, List.getElem?_cons_succ, List.length_nil, List.length_cons, List.nil_append, List.cons_append, Option.map_some, cond_true, cond_false, beq_self_eq_true, nd_map_ok, List.set_cons_zero, List.set_cons_succ, List.filter_nil, List.isEmpty_nil, List.zip_cons_cons, List.zip_nil_left, List.zip_nil_right, List.all_cons, List.all_nil, Option.isSome_some, List.replicate_succ, List.replicate_zero]
  refine chg_keys (n + 30) N nl ex l bf af out _ (by omega) hb ?_
  have hi1 : isoOf K (.fn (.func 41) [] []) = 0 := rfl
  have hi2 : isoOf K (.fn (.func 40) [] []) = 0 := rfl
  have hkl := keysF_len l
  simp only [r24_7, WW, callF, calF, stepF, boxF, fillF.o1c, LV.cells, rv, argsG, ND.bind, fieldAt, getAt, eqsV, kindsOk, ekOf, eqC, scEq, Nat.blt, Nat.ble, putP, allK, Nat.reduceAdd, Nat.reduceBEq, List.getD_cons_zero, List.getD_cons_succ, List.getElem?_cons_zero, List.getElem?_cons_succ, List.length_nil, List.length_cons, List.nil_append, List.cons_append, Option.map_some, cond_true, cond_false, beq_self_eq_true, nd_map_ok, List.set_cons_zero, List.set_cons_succ, List.filter_nil, List.isEmpty_nil, List.zip_cons_cons, List.zip_nil_left, List.zip_nil_right, List.all_cons, List.all_nil, Option.isSome_some, List.replicate_succ, List.replicate_zero]
  refine wp_grow (R := fun v e => v = .fn (.func 56) [] [.ptr 2 0] ∧ e = [some (.cells [.map 1] 72)]) hi1 ?_ ?_ ?_
  · rfl
  · have hw := w_call (md := false) (n := n + 29) (h := calm [some (.row true true [] 4 57), some (.map true 24 ((keysF l).map aKey) ((keysF l).map fun _ => .bool true))]) (R := fun v h => v = .fn (.func 56) [] [.ptr 2 0] ∧ h = calm [some (.row true true [] 4 57), some (.map true 24 ((keysF l).map aKey) ((keysF l).map fun _ => .bool true))] ++ [some (.cells [.map 1] 72)]) ok41 (args := [.map 1]) rfl (by
      rw [show calm [some (.row true true [] 4 57), some (.map true 24 ((keysF l).map aKey) ((keysF l).map fun _ => .bool true))] = [some (.row true false [] 4 57), some (.map true 24 ((keysF l).map aKey) ((keysF l).map fun _ => .bool true))] from rfl]
      simp only [b41, r41_0, r41_1, mkf_s, WW, callF, calF, stepF, boxF, fillF.o1c, LV.cells, rv, argsG, ND.bind, fieldAt, getAt, eqsV, kindsOk, ekOf, eqC, scEq, Nat.blt, Nat.ble, putP, allK, Nat.reduceAdd, Nat.reduceBEq, List.getD_cons_zero, List.getD_cons_succ, List.getElem?_cons_zero, List.getElem?_cons_succ, List.length_nil, List.length_cons, List.nil_append, List.cons_append, Option.map_some, cond_true, cond_false, beq_self_eq_true, nd_map_ok, List.set_cons_zero, List.set_cons_succ, List.filter_nil, List.isEmpty_nil, List.zip_cons_cons, List.zip_nil_left, List.zip_nil_right, List.all_cons, List.all_nil, Option.isSome_some, List.replicate_succ, List.replicate_zero]
      exact ⟨trivial, trivial⟩)
    exact hw.mono fun p hp => ⟨_, hp.2, hp.1, rfl⟩
  · rintro v e ⟨rfl, rfl⟩
    simp only [WW, callF, calF, stepF, boxF, fillF.o1c, LV.cells, rv, argsG, ND.bind, fieldAt, getAt, eqsV, kindsOk, ekOf, eqC, scEq, Nat.blt, Nat.ble, putP, allK, Nat.reduceAdd, Nat.reduceBEq, List.getD_cons_zero, List.getD_cons_succ, List.getElem?_cons_zero, List.getElem?_cons_succ, List.length_nil, List.length_cons, List.nil_append, List.cons_append, Option.map_some, cond_true, cond_false, beq_self_eq_true, nd_map_ok, List.set_cons_zero, List.set_cons_succ, List.filter_nil, List.isEmpty_nil, List.zip_cons_cons, List.zip_nil_left, List.zip_nil_right, List.all_cons, List.all_nil, Option.isSome_some, List.replicate_succ, List.replicate_zero]
    have hS := sorted_t (n + 23) N [some (.row true false [] 4 57), some (.map true 24 ((keysF l).map aKey) ((keysF l).map fun _ => .bool true)), some (.cells [.map 1] 72)] 2 1 (keysF l) out (by intro b hb; rw [show heapRefs [some (.row true false [] 4 57), some (.map true 24 ((keysF l).map aKey) ((keysF l).map fun _ => .bool true)), some (.cells [.map 1] 72)] = [1] from rfl] at hb; simp at hb; subst hb; simp) rfl rfl rfl (by simp) (by simp) (by omega) (by omega) hs (by omega)
    refine wp_grow (R := fun v e => v = .row 4 3 none ∧ ∃ (last : Option Key) (mv : Bool), e = colB 3 1 out last mv) hi2 rfl ?_ ?_
    · exact hS.mono fun p hp => by
        obtain ⟨h1, es, last, mv, rfl, h3⟩ := hp
        exact ⟨_, h3, h1, last, mv, rfl⟩
    · rintro v e ⟨rfl, last, mv, rfl⟩
      have hlen : lenSV (some (.row true true [] 4 57) :: some (.map true 24 ((keysF l).map aKey) ((keysF l).map fun _ => .bool true)) :: some (.cells [.map 1] 72) :: colB 3 1 out last mv) (.row 4 3 none) = some (.int .i64 (out.length : Int)) := by
        rw [len_g (pu := true) (mv := mv) (s := 3) (e := 24) (es := out.map cKey) rfl, List.length_map]
      have hcl : (colB 3 1 out last mv).length = 4 := rfl
      simp only [hlen, x_loop, hcl, WW, callF, calF, stepF, boxF, fillF.o1c, LV.cells, rv, argsG, ND.bind, fieldAt, getAt, eqsV, kindsOk, ekOf, eqC, scEq, Nat.blt, Nat.ble, putP, allK, Nat.reduceAdd, Nat.reduceBEq, List.getD_cons_zero, List.getD_cons_succ, List.getElem?_cons_zero, List.getElem?_cons_succ, List.length_nil, List.length_cons, List.nil_append, List.cons_append, Option.map_some, cond_true, cond_false, beq_self_eq_true, nd_map_ok, List.set_cons_zero, List.set_cons_succ, List.filter_nil, List.isEmpty_nil, List.zip_cons_cons, List.zip_nil_left, List.zip_nil_right, List.all_cons, List.all_nil, Option.isSome_some, List.replicate_succ, List.replicate_zero]
      refine chg_loop n nl ex l bf af (keysF l) out last mv _ hn hb hn2 (by omega) ?_
      simp only [r24_24, WW, callF, calF, stepF, boxF, fillF.o1c, LV.cells, rv, argsG, ND.bind, fieldAt, getAt, eqsV, kindsOk, ekOf, eqC, scEq, Nat.blt, Nat.ble, putP, allK, Nat.reduceAdd, Nat.reduceBEq, List.getD_cons_zero, List.getD_cons_succ, List.getElem?_cons_zero, List.getElem?_cons_succ, List.length_nil, List.length_cons, List.nil_append, List.cons_append, Option.map_some, cond_true, cond_false, beq_self_eq_true, nd_map_ok, List.set_cons_zero, List.set_cons_succ, List.filter_nil, List.isEmpty_nil, List.zip_cons_cons, List.zip_nil_left, List.zip_nil_right, List.all_cons, List.all_nil, Option.isSome_some, List.replicate_succ, List.replicate_zero]
      rfl
end Go.LH.s04

set_option maxRecDepth 100000
set_option linter.unusedSimpArgs false
set_option linter.unusedVariables false
namespace Go.LH.s04
open Go Go.LH
attribute [local irreducible] W GivesA
@[reducible] def cDg (nl : Option Bool) (ex : Bool) (p : Dif) : List LV := [I p.1.a, I p.1.b, I p.1.c, .sl 2 nl ex (p.2.map cSp)]
instance : Inhabited Dif := ⟨(⟨0, 0, 0⟩, [])⟩
theorem getDf {nl : Option Bool} {ex : Bool} {l : List Dif} {i : Nat} (h : i < l.length) : (l.map (cDg nl ex))[i]? = some (cDg nl ex (l.getD i default)) := by simp [List.getD_eq_getElem?_getD, h]
theorem getSp {l : List (Int × Int)} {i : Nat} (h : i < l.length) : (l.map cSp)[i]? = some (cSp (l.getD i default)) := by simp [List.getD_eq_getElem?_getD, h]
theorem getDD {α : Type} [Inhabited α] {l : List α} {i : Nat} (h : i < l.length) : l[i] = l.getD i default := by simp [List.getD_eq_getElem?_getD, h]
theorem ext_getD {α : Type} [Inhabited α] {a b : List α} (hl : a.length = b.length) (h : ∀ j, j < a.length → a.getD j default = b.getD j default) : a = b :=
  List.ext_getElem hl fun j h1 h2 => by rw [getDD h1, getDD h2]; exact h j h1
theorem keyEq3 (a b : Key) : (a.a == b.a && (a.b == b.b && a.c == b.c)) = decide (a = b) := by
  obtain ⟨a1, a2, a3⟩ := a
  obtain ⟨b1, b2, b3⟩ := b
  rw [Bool.eq_iff_iff]
  simp
theorem sameDays (n : Nat) (n1 n2 m1 m2 : Option Bool) (e1 e2 x1 x2 : Bool) (a b : List Dif) (i : Nat) (hi : i < a.length) (hi2 : i < b.length) (Q : Ex → G → Heap → Prop) (hl : (a.getD i default).2.length = (b.getD i default).2.length) (hn : (a.getD i default).2.length < n) (hb : (a.getD i default).2.length < 100000)
    (hF : (a.getD i default).2 ≠ (b.getD i default).2 → Q .ret [(4, .bool false)] [])
    (hQ : (a.getD i default).2 = (b.getD i default).2 → ∀ j, Q (.exit 2) [(0, .sl 4 m1 x1 (a.map (cDg n1 e1))), (1, .sl 4 m2 x2 (b.map (cDg n2 e2))), (5, I i), (6, I j), (51, .bool false)] []) :
    WP true (iterF 0 n (execT K n (callN K n) l23_0) [(0, .sl 4 m1 x1 (a.map (cDg n1 e1))), (1, .sl 4 m2 x2 (b.map (cDg n2 e2))), (5, I i), (6, I 0)] []) Q := by
  refine wp_loop (fun m g h => ∃ j : Nat, j ≤ (a.getD i default).2.length ∧ m = (a.getD i default).2.length - j ∧ (∀ k, k < j → (a.getD i default).2.getD k default = (b.getD i default).2.getD k default) ∧ g = [(0, .sl 4 m1 x1 (a.map (cDg n1 e1))), (1, .sl 4 m2 x2 (b.map (cDg n2 e2))), (5, I i), (6, I j)] ∧ h = []) ?_ n (a.getD i default).2.length _ _ ⟨0, by omega, by omega, by omega, rfl, rfl⟩ hn
  rintro m g h ⟨j, hj, rfl, hz, rfl, rfl⟩
  have ga := getDf (nl := n1) (ex := e1) hi
  have gb := getDf (nl := n2) (ex := e2) hi2
  generalize a.getD i default = A at *
  generalize b.getD i default = B at *
  simp only [l23_0, r23_9, ga, gb, List.length_map, WW, callF, calF, stepF, boxF, fillF.o1c, LV.cells, rv, argsG, ND.bind, fieldAt, getAt, eqsV, kindsOk, ekOf, eqC, scEq, Nat.blt, Nat.ble, putP, allK, Nat.reduceAdd, Nat.reduceBEq, List.getD_cons_zero, List.getD_cons_succ, List.getElem?_cons_zero, List.getElem?_cons_succ, List.length_nil, List.length_cons, List.nil_append, List.cons_append, Option.map_some, cond_true, cond_false, beq_self_eq_true, nd_map_ok, List.set_cons_zero, List.set_cons_succ, List.filter_nil, List.isEmpty_nil, List.zip_cons_cons, List.zip_nil_left, List.zip_nil_right, List.all_cons, List.all_nil, Option.isSome_some, List.replicate_succ, List.replicate_zero]
  refine ⟨fun hlt => ?_, fun hge => ?_⟩
  · have hlt : j < A.2.length := by simpa using hlt
    have e1' : IntKind.i64.wrap ((j : Int) + 1) = ((j + 1 : Nat) : Int) := by rw [wrap_id (by omega) (by omega)]; rfl
    simp only [r23_10, r23_11, r23_12, ga, gb, getSp hlt, getSp (show j < B.2.length by omega), ptEq, e1', WW, callF, calF, stepF, boxF, fillF.o1c, LV.cells, rv, argsG, ND.bind, fieldAt, getAt, eqsV, kindsOk, ekOf, eqC, scEq, Nat.blt, Nat.ble, putP, allK, Nat.reduceAdd, Nat.reduceBEq, List.getD_cons_zero, List.getD_cons_succ, List.getElem?_cons_zero, List.getElem?_cons_succ, List.length_nil, List.length_cons, List.nil_append, List.cons_append, Option.map_some, cond_true, cond_false, beq_self_eq_true, nd_map_ok, List.set_cons_zero, List.set_cons_succ, List.filter_nil, List.isEmpty_nil, List.zip_cons_cons, List.zip_nil_left, List.zip_nil_right, List.all_cons, List.all_nil, Option.isSome_some, List.replicate_succ, List.replicate_zero]
    refine ⟨fun hne => ?_, fun hz0 => ?_⟩
    · refine hF fun e => ?_
      rw [e] at hne
      simp at hne
    · refine ⟨A.2.length - (j + 1), by omega, j + 1, by omega, rfl, fun k hk => ?_, rfl, trivial⟩
      rcases Nat.lt_or_ge k j with h1 | h1
      · exact hz k h1
      · have : k = j := by omega
        subst this
        simpa using hz0
  · have hj2 : j = A.2.length := by simp at hge; omega
    have hge : decide ((j : Int) < (A.2.length : Int)) = false := by simp; omega
    rw [hge]
    exact hQ (ext_getD hl fun k hk => hz k (by omega)) _
theorem sameD_t (n : Nat) (n1 n2 m1 m2 : Option Bool) (e1 e2 x1 x2 : Bool) (a b : List Dif) (hn : a.length < n) (hb : a.length < 100000) (hd : ∀ p ∈ a, p.2.length < n ∧ p.2.length < 100000) : Gives K (n + 10) 23 [.sl 4 m1 x1 (a.map (cDg n1 e1)), .sl 4 m2 x2 (b.map (cDg n2 e2))] (.bool (decide (a = b))) := by
  refine gives_wp ok23 rfl ?_
  simp only [b23, r23_0, r23_1, r23_2, r23_3, x_loop, List.length_map, WW, callF, calF, stepF, boxF, fillF.o1c, LV.cells, rv, argsG, ND.bind, fieldAt, getAt, eqsV, kindsOk, ekOf, eqC, scEq, Nat.blt, Nat.ble, putP, allK, Nat.reduceAdd, Nat.reduceBEq, List.getD_cons_zero, List.getD_cons_succ, List.getElem?_cons_zero, List.getElem?_cons_succ, List.length_nil, List.length_cons, List.nil_append, List.cons_append, Option.map_some, cond_true, cond_false, beq_self_eq_true, nd_map_ok, List.set_cons_zero, List.set_cons_succ, List.filter_nil, List.isEmpty_nil, List.zip_cons_cons, List.zip_nil_left, List.zip_nil_right, List.all_cons, List.all_nil, Option.isSome_some, List.replicate_succ, List.replicate_zero]
  refine ⟨fun h => ?_, fun h => ?_⟩
  · rw [isV_bool]
    have : a ≠ b := by rintro rfl; simp at h
    simp [this]
  · have hl : a.length = b.length := by
      have : (a.length : Int) = b.length := by simpa using h
      omega
    refine wp_loop (fun m g h => ∃ i : Nat, i ≤ a.length ∧ m = a.length - i ∧ (∀ j, j < i → a.getD j default = b.getD j default) ∧ ∃ t, g = (0, .sl 4 m1 x1 (a.map (cDg n1 e1))) :: (1, .sl 4 m2 x2 (b.map (cDg n2 e2))) :: (5, I i) :: t ∧ h = []) ?_ (n + 9) a.length _ _ ⟨0, by omega, by omega, by omega, [], rfl, rfl⟩ (by omega)
    rintro m g h ⟨i, hi, rfl, hz, t, rfl, rfl⟩
    simp only [l23_1, r23_4, List.length_map, WW, callF, calF, stepF, boxF, fillF.o1c, LV.cells, rv, argsG, ND.bind, fieldAt, getAt, eqsV, kindsOk, ekOf, eqC, scEq, Nat.blt, Nat.ble, putP, allK, Nat.reduceAdd, Nat.reduceBEq, List.getD_cons_zero, List.getD_cons_succ, List.getElem?_cons_zero, List.getElem?_cons_succ, List.length_nil, List.length_cons, List.nil_append, List.cons_append, Option.map_some, cond_true, cond_false, beq_self_eq_true, nd_map_ok, List.set_cons_zero, List.set_cons_succ, List.filter_nil, List.isEmpty_nil, List.zip_cons_cons, List.zip_nil_left, List.zip_nil_right, List.all_cons, List.all_nil, Option.isSome_some, List.replicate_succ, List.replicate_zero]
    refine ⟨fun hlt => ?_, fun hge => ?_⟩
    · have hlt : i < a.length := by simpa using hlt
      have hlt2 : i < b.length := by omega
      have e1' : IntKind.i64.wrap ((i : Int) + 1) = ((i + 1 : Nat) : Int) := by rw [wrap_id (by omega) (by omega)]; rfl
      have ga := getDf (nl := n1) (ex := e1) hlt
      have gb := getDf (nl := n2) (ex := e2) hlt2
      have hdi := hd (a.getD i default) (by rw [← getDD hlt]; exact List.getElem_mem hlt)
      simp only [r23_5, r23_6, r23_7, r23_8, x_loop, ga, gb, List.length_map, keyEq3, WW, callF, calF, stepF, boxF, fillF.o1c, LV.cells, rv, argsG, ND.bind, fieldAt, getAt, eqsV, kindsOk, ekOf, eqC, scEq, Nat.blt, Nat.ble, putP, allK, Nat.reduceAdd, Nat.reduceBEq, List.getD_cons_zero, List.getD_cons_succ, List.getElem?_cons_zero, List.getElem?_cons_succ, List.length_nil, List.length_cons, List.nil_append, List.cons_append, Option.map_some, cond_true, cond_false, beq_self_eq_true, nd_map_ok, List.set_cons_zero, List.set_cons_succ, List.filter_nil, List.isEmpty_nil, List.zip_cons_cons, List.zip_nil_left, List.zip_nil_right, List.all_cons, List.all_nil, Option.isSome_some, List.replicate_succ, List.replicate_zero]
      refine ⟨fun hne => ?_, fun he => ?_⟩
      · rw [isV_bool]
        have : a ≠ b := by rintro rfl; simp at hne
        simp [this]
      · have he : (a.getD i default).1 = (b.getD i default).1 ∧ (a.getD i default).2.length = (b.getD i default).2.length := by
          revert he
          generalize a.getD i default = A
          generalize b.getD i default = B
          intro he
          simp at he
          exact ⟨he.1, by omega⟩
        refine sameDays (n + 9) n1 n2 m1 m2 e1 e2 x1 x2 a b i hlt hlt2 _ he.2 (by omega) (by omega) (fun hne => ?_) (fun he2 j => ?_)
        · have : a ≠ b := by rintro rfl; exact hne rfl
          simp only [WW, callF, calF, stepF, boxF, fillF.o1c, LV.cells, rv, argsG, ND.bind, fieldAt, getAt, eqsV, kindsOk, ekOf, eqC, scEq, Nat.blt, Nat.ble, putP, allK, Nat.reduceAdd, Nat.reduceBEq, List.getD_cons_zero, List.getD_cons_succ, List.getElem?_cons_zero, List.getElem?_cons_succ, List.length_nil, List.length_cons, List.nil_append, List.cons_append, Option.map_some, cond_true, cond_false, beq_self_eq_true, nd_map_ok, List.set_cons_zero, List.set_cons_succ, List.filter_nil, List.isEmpty_nil, List.zip_cons_cons, List.zip_nil_left, List.zip_nil_right, List.all_cons, List.all_nil, Option.isSome_some, List.replicate_succ, List.replicate_zero]
          rw [isV_bool]
          simp [this]
        · simp only [e1', WW, callF, calF, stepF, boxF, fillF.o1c, LV.cells, rv, argsG, ND.bind, fieldAt, getAt, eqsV, kindsOk, ekOf, eqC, scEq, Nat.blt, Nat.ble, putP, allK, Nat.reduceAdd, Nat.reduceBEq, List.getD_cons_zero, List.getD_cons_succ, List.getElem?_cons_zero, List.getElem?_cons_succ, List.length_nil, List.length_cons, List.nil_append, List.cons_append, Option.map_some, cond_true, cond_false, beq_self_eq_true, nd_map_ok, List.set_cons_zero, List.set_cons_succ, List.filter_nil, List.isEmpty_nil, List.zip_cons_cons, List.zip_nil_left, List.zip_nil_right, List.all_cons, List.all_nil, Option.isSome_some, List.replicate_succ, List.replicate_zero]
          refine ⟨a.length - (i + 1), by omega, i + 1, by omega, rfl, fun j hj => ?_, _, rfl, trivial⟩
          rcases Nat.lt_or_ge j i with h1 | h1
          · exact hz j h1
          · have : j = i := by omega
            subst this
            exact Prod.ext he.1 he2
    · simp only [WW, callF, calF, stepF, boxF, fillF.o1c, LV.cells, rv, argsG, ND.bind, fieldAt, getAt, eqsV, kindsOk, ekOf, eqC, scEq, Nat.blt, Nat.ble, putP, allK, Nat.reduceAdd, Nat.reduceBEq, List.getD_cons_zero, List.getD_cons_succ, List.getElem?_cons_zero, List.getElem?_cons_succ, List.length_nil, List.length_cons, List.nil_append, List.cons_append, Option.map_some, cond_true, cond_false, beq_self_eq_true, nd_map_ok, List.set_cons_zero, List.set_cons_succ, List.filter_nil, List.isEmpty_nil, List.zip_cons_cons, List.zip_nil_left, List.zip_nil_right, List.all_cons, List.all_nil, Option.isSome_some, List.replicate_succ, List.replicate_zero, r23_13]
      rw [isV_bool]
      have : a = b := ext_getD hl fun j hj => hz j (by simp at hge; omega)
      simp [this]
theorem sameD_i (n : Nat) (n1 n2 m1 m2 : Option Bool) (e1 e2 x1 x2 : Bool) (a b : List Dif) (hn : a.length < n) (hb : a.length < 100000) (hd : ∀ p ∈ a, p.2.length < n ∧ p.2.length < 100000) (h : Heap) : callIso "" (callN K (n + 10)) (.fn (.func 23) [] []) [.sl 4 m1 x1 (a.map (cDg n1 e1)), .sl 4 m2 x2 (b.map (cDg n2 e2))] h = .ok (.bool (decide (a = b))) :=
  iso_gives ⟨open_sl _ _ _ _, open_sl _ _ _ _, trivial⟩ (sameD_t n n1 n2 m1 m2 e1 e2 x1 x2 a b hn hb hd)
end Go.LH.s04

set_option maxRecDepth 100000
set_option linter.unusedSimpArgs false
set_option linter.unusedVariables false
namespace Go.LH.s04
open Go Go.LH
attribute [local irreducible] W GivesA
theorem iso_flat {K : Ctx} {n f : Nat} {vs vs' : List LV} {v : LV} {h : Heap} {s : String} (hp : vs.mapM (pureV pureDepth h) = some vs') (hg : Gives K n f vs' v) (hv : v.flat = true) : callIso s (callN K n) (.fn (.func f) [] []) vs h = .ok v := by
  obtain ⟨u, h', e1, e2⟩ := hg
  unfold callIso
  have pf : pureV pureDepth h (.fn (.func f) [] []) = some (.fn (.func f) [] []) := rfl
  rw [pf, hp]
  simp only [e1, ND.bind, e2, hv, Bool.or_true, cond_true]
@[reducible] def delV (cap : LV) : LV := .fn (.func 48) [] [cap]
theorem del_t (n : Nat) (known : Int) (f : Fact) : ∃ h', callN K (n + 1) (delV (.eptr [I known] 0)) [.agg (cFact f)] [] = .ok (.bool (decide (known < f.kn)), h') := by
  have hw := w_callc (md := true) (n := n) (h := []) (args := [.agg (cFact f)]) (caps := [.eptr [I known] 0]) (R := fun v h => v = .bool (decide (known < f.kn))) ok48 rfl (by
    simp only [b48, r48_0, r48_1, WW, callF, calF, stepF, boxF, fillF.o1c, LV.cells, rv, argsG, ND.bind, fieldAt, getAt, eqsV, kindsOk, ekOf, eqC, scEq, Nat.blt, Nat.ble, putP, allK, Nat.reduceAdd, Nat.reduceBEq, List.getD_cons_zero, List.getD_cons_succ, List.getElem?_cons_zero, List.getElem?_cons_succ, List.length_nil, List.length_cons, List.nil_append, List.cons_append, Option.map_some, cond_true, cond_false, beq_self_eq_true, nd_map_ok, List.set_cons_zero, List.set_cons_succ, List.filter_nil, List.isEmpty_nil, List.zip_cons_cons, List.zip_nil_left, List.zip_nil_right, List.all_cons, List.all_nil, Option.isSome_some, List.replicate_succ, List.replicate_zero])
  unfold W at hw
  obtain ⟨⟨v, h'⟩, h1, rfl⟩ := hw
  exact ⟨h', h1⟩
theorem del_i (n : Nat) (known : Int) (f : Fact) (h : Heap) (cap : LV) (hc : pureV pureDepth h (delV cap) = some (delV (.eptr [I known] 0))) : callIso "" (callN K (n + 1)) (delV cap) [.agg (cFact f)] h = .ok (.bool (decide (known < f.kn))) := by
  obtain ⟨h', e1⟩ := del_t n known f
  unfold callIso
  have pa : [LV.agg (cFact f)].mapM (pureV pureDepth h) = some [.agg (cFact f)] := (openL_pure (vs := [.agg (cFact f)]) ⟨open_agg rfl, trivial⟩).1
  rw [hc, pa]
  have hv : pureV pureDepth h' (.bool (decide (known < f.kn))) = some (.bool (decide (known < f.kn))) := rfl
  simp only [e1, ND.bind, hv, LV.flat, Bool.or_true, cond_true]
theorem pv_row {n : Nat} {h : Heap} {b s e : Nat} {mv : Bool} {es ds : List (List LV)} {w : Option (Nat × Nat)} (hb : h.getD b none = some (.row true mv es s e)) (hv : viewOf es w = some ds) : pureV (n + 1) h (.row b s w) = some (.sl s none false ds) := by
  simp only [pureV, hb, beq_self_eq_true, cond_true, hv, Option.map_some]
def isLate (known : Int) (f : Fact) : Bool := decide (known < f.kn)
def uptoF (l : List Fact) (known : Int) : List Fact := l.filter fun f => !isLate known f
theorem cap_p {h : Heap} {known : Int} (h0 : h.getD 0 none = some (.cells [I known] 3)) : pureV pureDepth h (delV (.ptr 0 0)) = some (delV (.eptr [I known] 0)) := by
  have e1 : pureV 7 h (.ptr 0 0) = some (.eptr [I known] 0) := by
    simp only [pureV, h0, List.mapM_cons, List.mapM_nil]
    rfl
  show (match ([] : List LV).mapM (pureV 7 h), [LV.ptr 0 0].mapM (pureV 7 h) with
    | some a, some b => some (LV.fn (.func 48) a b)
    | _, _ => none) = _
  simp only [List.mapM_cons, List.mapM_nil, e1]
  rfl
theorem hp_app {H X : Heap} {b s e : Nat} {mv : Bool} {es : List (List LV)} (hb : b < H.length) : hp H b s e mv es ++ X = hp (H ++ X) b s e mv es := by
  unfold hp; rw [List.set_append_left _ _ hb]
theorem uptoF_take {l : List Fact} {j : Nat} (known : Int) (h : j < l.length) : uptoF (l.take (j + 1)) known = uptoF (l.take j) known ++ (if isLate known (l.getD j default) then [] else [l.getD j default]) := by
  unfold uptoF
  rw [List.take_add_one, List.getElem?_eq_getElem h, getD_at h, List.filter_append]
  congr 1
  generalize l.getD j default = v
  cases hh : isLate known v <;> simp [hh]
theorem delL (n : Nat) (H : Heap) (b : Nat) (l : List Fact) (known : Int) (i0 : Nat) (Q : Ex → G → Heap → Prop) (hi0 : i0 < l.length) (hf0 : uptoF (l.take (i0 + 1)) known = l.take i0) (hb : b < H.length) (hb0 : b ≠ 0) (h0 : H.getD 0 none = some (.cells [I known] 3)) (hcl : ∀ es, (heapRefs (hp H b 8 28 false es)).all (fun x => decide (x < H.length)) = true) (hn : l.length < n) (hl : l.length < 1000)
    (hQ : ∀ (cur : List Fact), cur.length = l.length → cur.take (uptoF l known).length = uptoF l known → Q (.exit 0) [(0, .row b 8 none), (1, delV (.ptr 0 0)), (5, I (uptoF l known).length), (6, I l.length), (19, .bool false)] (hp H b 8 28 false (cur.map cFact))) :
    WP true (iterF H.length (n + 9) (execT K (n + 9) (callN K (n + 9)) l46_0) [(0, .row b 8 none), (1, delV (.ptr 0 0)), (5, I i0), (6, I ((i0 + 1 : Nat) : Int))] (hp H b 8 28 false (l.map cFact))) Q := by
  refine wp_loop (fun m g h => ∃ (i j : Nat) (cur : List Fact), i < j ∧ j ≤ l.length ∧ m = l.length - j ∧ cur.length = l.length ∧ cur.take i = uptoF (l.take j) known ∧ (uptoF (l.take j) known).length = i ∧ cur.drop j = l.drop j ∧ g = [(0, .row b 8 none), (1, delV (.ptr 0 0)), (5, I i), (6, I j)] ∧ h = hp H b 8 28 false (cur.map cFact)) ?_ (n + 9) (l.length - (i0 + 1)) _ _ ⟨i0, i0 + 1, l, by omega, by omega, rfl, rfl, hf0.symm, by rw [hf0, List.length_take]; omega, rfl, rfl, rfl⟩ (by omega)
  rintro m g h ⟨i, j, cur, hij, hj, rfl, hcl', htk, hil, hdr, rfl, rfl⟩
  have hlen := fun es => len_hp (h := H) (b := b) (s := 8) (e := 28) (mv := false) (es := es) hb
  simp only [l46_0, r46_5, hlen, List.length_map, hcl', WW, callF, calF, stepF, boxF, fillF.o1c, LV.cells, rv, argsG, ND.bind, fieldAt, getAt, eqsV, kindsOk, ekOf, eqC, scEq, Nat.blt, Nat.ble, putP, allK, Nat.reduceAdd, Nat.reduceBEq, List.getD_cons_zero, List.getD_cons_succ, List.getElem?_cons_zero, List.getElem?_cons_succ, List.length_nil, List.length_cons, List.nil_append, List.cons_append, Option.map_some, cond_true, cond_false, beq_self_eq_true, nd_map_ok, List.set_cons_zero, List.set_cons_succ, List.filter_nil, List.isEmpty_nil, List.zip_cons_cons, List.zip_nil_left, List.zip_nil_right, List.all_cons, List.all_nil, Option.isSome_some, List.replicate_succ, List.replicate_zero]
  refine ⟨fun hlt => ?_, fun hge => ?_⟩
  · have hlt : j < l.length := by simpa using hlt
    have hjc : j < cur.length := by omega
    have e1 : IntKind.i64.wrap ((j : Int) + 1) = ((j + 1 : Nat) : Int) := by rw [wrap_id (by omega) (by omega)]; rfl
    have e2 : IntKind.i64.wrap ((i : Int) + 1) = ((i + 1 : Nat) : Int) := by rw [wrap_id (by omega) (by omega)]; rfl
    have hcj : cur.getD j default = l.getD j default := by
      have : (cur.drop j)[0]? = (l.drop j)[0]? := by rw [hdr]
      simp only [List.getElem?_drop, Nat.add_zero] at this
      simp only [List.getD_eq_getElem?_getD, this]
    have hdr1 : cur.drop (j + 1) = l.drop (j + 1) := by
      rw [← List.drop_drop, hdr, List.drop_drop]
    have hut := uptoF_take known hlt
    have hcf : (cur.map cFact)[j]? = some (cFact (l.getD j default)) := by rw [getF' hjc, hcj]
    have hjm : j < (cur.map cFact).length := by simpa using hjc
    have him : i < (cur.map cFact).length := by simp; omega
    generalize hv : l.getD j default = v at *
    have e7 : WP true (rg [] [0, 1, 5, 6, 7] (runT K (callN K (n + 9)) r46_7 [(0, .row b 8 none), (1, delV (.ptr 0 0)), (5, I i), (6, I j), (19, .bool (decide ((j : Int) < (l.length : Int))))] (hp H b 8 28 false (cur.map cFact)))) fun e g h => e = .normal ∧ g = [(0, .row b 8 none), (1, delV (.ptr 0 0)), (5, I i), (6, I j), (7, .ptr H.length 0)] ∧ h = hp (H ++ [some (.cells (cFact v) 28)]) b 8 28 false (cur.map cFact) := by
      have hix := ixs_hp (h := H) (b := b) (s := 8) (e := 28) (mv := false) (es := cur.map cFact) .i64 j hb hjm
      have hld := ld_hp (h := H) (b := b) (s := 8) (e := 28) (mv := false) (es := cur.map cFact) (some 8) j hb hcf
      rw [← hp_app hb, ← hp_len (h := H) (b := b) (s := 8) (e := 28) (mv := false) (es := cur.map cFact)]
      generalize hp H b 8 28 false (cur.map cFact) = A at *
      simp only [r46_7, hix, hld, getD_app, set_app, WW, callF, calF, stepF, boxF, fillF.o1c, LV.cells, rv, argsG, ND.bind, fieldAt, getAt, eqsV, kindsOk, ekOf, eqC, scEq, Nat.blt, Nat.ble, putP, allK, Nat.reduceAdd, Nat.reduceBEq, List.getD_cons_zero, List.getD_cons_succ, List.getElem?_cons_zero, List.getElem?_cons_succ, List.length_nil, List.length_cons, List.nil_append, List.cons_append, Option.map_some, cond_true, cond_false, beq_self_eq_true, nd_map_ok, List.set_cons_zero, List.set_cons_succ, List.filter_nil, List.isEmpty_nil, List.zip_cons_cons, List.zip_nil_left, List.zip_nil_right, List.all_cons, List.all_nil, Option.isSome_some, List.replicate_succ, List.replicate_zero]
      exact ⟨trivial, trivial, trivial⟩
    refine e7.mono fun e g h hh => ?_
    obtain ⟨rfl, rfl, rfl⟩ := hh
    have hb1 : b < (H ++ [some (Blk.cells (cFact v) 28)]).length := by simp; omega
    have hgv : ∀ es, (hp (H ++ [some (Blk.cells (cFact v) 28)]) b 8 28 false es).getD H.length none = some (.cells (cFact v) 28) := fun es => by rw [hp_ne (by omega), getD_app]
    have hg0 : ∀ es, (hp (H ++ [some (Blk.cells (cFact v) 28)]) b 8 28 false es).getD 0 none = some (.cells [I known] 3) := fun es => by rw [hp_ne hb0, getD_lt (by omega), h0]
    have hdel := fun es => del_i (n + 8) known v (hp (H ++ [some (Blk.cells (cFact v) 28)]) b 8 28 false es) (.ptr 0 0) (cap_p (hg0 es))
    have hdx := fun es => calX_iso (K := K) (cf := callN K (n + 9)) (f := 48) (args := [.agg (cFact v)]) (h := hp (H ++ [some (Blk.cells (cFact v) 28)]) b 8 28 false es) (a := []) (b := [.ptr 0 0]) rfl (hdel es)
    have fin : ∀ (i' : Nat) (cur' : List Fact), i' < j + 1 → cur'.length = l.length → cur'.take i' = uptoF (l.take (j + 1)) known → (uptoF (l.take (j + 1)) known).length = i' → cur'.drop (j + 1) = l.drop (j + 1) →
        lpQ H.length (l.length - j) (fun m g h => ∃ (i j : Nat) (cur : List Fact), i < j ∧ j ≤ l.length ∧ m = l.length - j ∧ cur.length = l.length ∧ cur.take i = uptoF (l.take j) known ∧ (uptoF (l.take j) known).length = i ∧ cur.drop j = l.drop j ∧ g = [(0, .row b 8 none), (1, delV (.ptr 0 0)), (5, I i), (6, I j)] ∧ h = hp H b 8 28 false (cur.map cFact)) Q .normal [(0, .row b 8 none), (1, delV (.ptr 0 0)), (5, I i'), (6, I ((j + 1 : Nat) : Int))] (hp (H ++ [some (Blk.cells (cFact v) 28)]) b 8 28 false (cur'.map cFact)) := fun i' cur' h1 h2 h3 h4 h5 => by
      have ht : (hp (H ++ [some (Blk.cells (cFact v) 28)]) b 8 28 false (cur'.map cFact)).take H.length = hp H b 8 28 false (cur'.map cFact) := by
        rw [← hp_app hb]; exact List.take_left' hp_len
      rw [lpQ_n, trunc_of _ ht (hcl _)]
      refine ⟨l.length - (j + 1), by omega, i', j + 1, cur', h1, by omega, rfl, h2, h3, h4, h5, ?_, rfl⟩
      have c1 : (LV.row b 8 none).clip H.length = .row b 8 none := by simp [LV.clip, LV.lim, LV.refs, hb]
      have c2 : (delV (.ptr 0 0)).clip H.length = delV (.ptr 0 0) := by
        have : 0 < H.length := by omega
        simp [LV.clip, LV.lim, LV.refs, refsL, this]
      simp only [mapc_cons, mapc_nil, c1, c2, clip_int]
    have hdx' := hdx (cur.map cFact)
    simp only [r46_8, hgv, hdx', WW, callF, calF, stepF, boxF, fillF.o1c, LV.cells, rv, argsG, ND.bind, fieldAt, getAt, eqsV, kindsOk, ekOf, eqC, scEq, Nat.blt, Nat.ble, putP, allK, Nat.reduceAdd, Nat.reduceBEq, List.getD_cons_zero, List.getD_cons_succ, List.getElem?_cons_zero, List.getElem?_cons_succ, List.length_nil, List.length_cons, List.nil_append, List.cons_append, Option.map_some, cond_true, cond_false, beq_self_eq_true, nd_map_ok, List.set_cons_zero, List.set_cons_succ, List.filter_nil, List.isEmpty_nil, List.zip_cons_cons, List.zip_nil_left, List.zip_nil_right, List.all_cons, List.all_nil, Option.isSome_some, List.replicate_succ, List.replicate_zero]
    refine ⟨fun hq => ?_, fun hq => ?_⟩
    · have hq : isLate known v = false := by simpa [isLate] using hq
      have hix := ixs_hp (h := H ++ [some (Blk.cells (cFact v) 28)]) (b := b) (s := 8) (e := 28) (mv := false) (es := cur.map cFact) .i64 i hb1 him
      have hst := stV_hp (h := H ++ [some (Blk.cells (cFact v) 28)]) (b := b) (s := 8) (e := 28) (mv := false) (es := cur.map cFact) 8 i (x := .agg (cFact v)) (ns := cFact v) (el := cFact (cur.getD i default)) hb1 rfl rfl rfl rfl (getF' (by omega))
      rw [← List.map_set] at hst
      have hsf := fun d g h => stF_rptr d 8 g b i 8 0 (h := h) (.agg (cFact v)) rfl
      simp only [r46_9, r46_10, r46_6, hgv, hix, hsf, hst, e1, e2, WW, callF, calF, stepF, boxF, fillF.o1c, LV.cells, rv, argsG, ND.bind, fieldAt, getAt, eqsV, kindsOk, ekOf, eqC, scEq, Nat.blt, Nat.ble, putP, allK, Nat.reduceAdd, Nat.reduceBEq, List.getD_cons_zero, List.getD_cons_succ, List.getElem?_cons_zero, List.getElem?_cons_succ, List.length_nil, List.length_cons, List.nil_append, List.cons_append, Option.map_some, cond_true, cond_false, beq_self_eq_true, nd_map_ok, List.set_cons_zero, List.set_cons_succ, List.filter_nil, List.isEmpty_nil, List.zip_cons_cons, List.zip_nil_left, List.zip_nil_right, List.all_cons, List.all_nil, Option.isSome_some, List.replicate_succ, List.replicate_zero]
      refine lpQ_n.1 (fin (i + 1) _ (by omega) (by simpa using hcl') ?_ ?_ ?_)
      · rw [hut, hq, List.take_succ, ← htk]
        simp [List.take_set_of_le, show i < cur.length by omega]
      · rw [hut, hq]; simp [hil]
      · rw [List.drop_set_of_lt (by omega), hdr1]
    · have hq : isLate known v = true := by simpa [isLate] using hq
      simp only [r46_6, e1, WW, callF, calF, stepF, boxF, fillF.o1c, LV.cells, rv, argsG, ND.bind, fieldAt, getAt, eqsV, kindsOk, ekOf, eqC, scEq, Nat.blt, Nat.ble, putP, allK, Nat.reduceAdd, Nat.reduceBEq, List.getD_cons_zero, List.getD_cons_succ, List.getElem?_cons_zero, List.getElem?_cons_succ, List.length_nil, List.length_cons, List.nil_append, List.cons_append, Option.map_some, cond_true, cond_false, beq_self_eq_true, nd_map_ok, List.set_cons_zero, List.set_cons_succ, List.filter_nil, List.isEmpty_nil, List.zip_cons_cons, List.zip_nil_left, List.zip_nil_right, List.all_cons, List.all_nil, Option.isSome_some, List.replicate_succ, List.replicate_zero]
      exact lpQ_n.1 (fin i cur (by omega) hcl' (by rw [hut, hq]; simpa using htk) (by rw [hut, hq]; simpa using hil) hdr1)
  · have : j = l.length := by simp at hge; omega
    subst this
    rw [List.take_length] at htk hil
    have hge : decide ((l.length : Int) < (l.length : Int)) = false := by simp
    rw [hge, ← hil]
    exact hQ cur hcl' (by rw [hil]; exact htk)
theorem hp_get' {h : Heap} {b s e : Nat} {mv : Bool} {es : List (List LV)} (hb : b < h.length) : (hp h b s e mv es)[b]? = some (some (.row true mv es s e)) := by
  unfold hp; rw [List.getElem?_set_self hb]
theorem delF_t (n : Nat) (H : Heap) (b : Nat) (l : List Fact) (known : Int) (hb : b < H.length) (hb0 : b ≠ 0) (h0 : H.getD 0 none = some (.cells [I known] 3)) (hcl : ∀ es, (heapRefs (hp H b 8 28 false es)).all (fun x => decide (x < H.length)) = true) (hn : l.length < n) (hl : l.length < 1000) :
    W true (callN K (n + 10) (.fn (.func 46) [] []) [.row b 8 none, delV (.ptr 0 0)] (hp H b 8 28 false (l.map cFact))) fun r => ∃ es w, r.1 = .row b 8 w ∧ r.2 = hp H b 8 28 false es ∧ viewOf es w = some ((uptoF l known).map cFact) := by
  refine w_call (R := fun v h => ∃ es w, v = .row b 8 w ∧ h = hp H b 8 28 false es ∧ viewOf es w = some ((uptoF l known).map cFact)) ok46 rfl ?_
  have hg0 : ∀ es X, (hp H b 8 28 false es ++ X).getD 0 none = some (.cells [I known] 3) := fun es X => by
    rw [getD_lt (by rw [hp_len]; omega), hp_ne hb0, h0]
  have hidx : callIso "" (callN K (n + 9)) (.fn (.func 52) [] []) [.row b 8 none, delV (.ptr 0 0)] (hp H b 8 28 false (l.map cFact)) = .ok (I (findI (isLate known) l)) := by
    have hg0' := hg0 (l.map cFact) []
    rw [List.append_nil] at hg0'
    refine iso_flat (vs' := [.sl 8 none false (l.map cFact), delV (.eptr [I known] 0)]) ?_ (index_t (n + 8) none false l _ (isLate known) (fun f _ h => calX_iso rfl (del_i (n + 7) known f h (.eptr [I known] 0) rfl)) rfl (by omega) (by omega)) rfl
    simp only [List.mapM_cons, List.mapM_nil, cap_p hg0']
    have : pureV pureDepth (hp H b 8 28 false (l.map cFact)) (.row b 8 none) = some (.sl 8 none false (l.map cFact)) := pv_row (hp_get hb) rfl
    rw [this]
    rfl
  have hlen := fun es => len_hp (h := H) (b := b) (s := 8) (e := 28) (mv := false) (es := es) hb
  simp only [b46, r46_0, r46_1, r46_2, r46_3, hidx, WW, callF, calF, stepF, boxF, fillF.o1c, LV.cells, rv, argsG, ND.bind, fieldAt, getAt, eqsV, kindsOk, ekOf, eqC, scEq, Nat.blt, Nat.ble, putP, allK, Nat.reduceAdd, Nat.reduceBEq, List.getD_cons_zero, List.getD_cons_succ, List.getElem?_cons_zero, List.getElem?_cons_succ, List.length_nil, List.length_cons, List.nil_append, List.cons_append, Option.map_some, cond_true, cond_false, beq_self_eq_true, nd_map_ok, List.set_cons_zero, List.set_cons_succ, List.filter_nil, List.isEmpty_nil, List.zip_cons_cons, List.zip_nil_left, List.zip_nil_right, List.all_cons, List.all_nil, Option.isSome_some, List.replicate_succ, List.replicate_zero]
  have hcase : (l.findIdx? (isLate known) = none ∧ uptoF l known = l) ∨ ∃ i0, i0 < l.length ∧ l.findIdx? (isLate known) = some i0 ∧ uptoF (l.take (i0 + 1)) known = l.take i0 := by
    cases hf : l.findIdx? (isLate known) with
    | none =>
      refine .inl ⟨rfl, ?_⟩
      rw [List.findIdx?_eq_none_iff] at hf
      exact List.filter_eq_self.2 fun a ha => by simp [hf a ha]
    | some i0 =>
      rw [List.findIdx?_eq_some_iff_getElem] at hf
      obtain ⟨h1, h2, h3⟩ := hf
      refine .inr ⟨i0, h1, rfl, ?_⟩
      rw [uptoF_take known h1, ← getD_at h1, h2]
      simp only [if_true, List.append_nil]
      refine List.filter_eq_self.2 fun a ha => ?_
      obtain ⟨k, hk, rfl⟩ := List.getElem_of_mem ha
      rw [List.length_take] at hk
      rw [List.getElem_take]
      have := h3 k (by omega)
      simpa using this
  rcases hcase with ⟨hc1, hc2⟩ | ⟨i0, hi0, hc1, hc2⟩
  · have hf : findI (isLate known) l = -1 := by simp [findI, hc1]
    refine ⟨fun hm => ?_, fun hm => ?_⟩
    · exact ⟨_, none, rfl, rfl, by rw [hc2]; rfl⟩
    · rw [hf] at hm; cases hm
  · have hf : findI (isLate known) l = (i0 : Int) := by simp [findI, hc1]
    refine ⟨fun hm => ?_, fun hm => ?_⟩
    · rw [hf] at hm; simp at hm
    · have e1 : IntKind.i64.wrap ((i0 : Int) + 1) = ((i0 + 1 : Nat) : Int) := by rw [wrap_id (by omega) (by omega)]; rfl
      simp only [r46_4, x_loop, hf, e1, hp_len, WW, callF, calF, stepF, boxF, fillF.o1c, LV.cells, rv, argsG, ND.bind, fieldAt, getAt, eqsV, kindsOk, ekOf, eqC, scEq, Nat.blt, Nat.ble, putP, allK, Nat.reduceAdd, Nat.reduceBEq, List.getD_cons_zero, List.getD_cons_succ, List.getElem?_cons_zero, List.getElem?_cons_succ, List.length_nil, List.length_cons, List.nil_append, List.cons_append, Option.map_some, cond_true, cond_false, beq_self_eq_true, nd_map_ok, List.set_cons_zero, List.set_cons_succ, List.filter_nil, List.isEmpty_nil, List.zip_cons_cons, List.zip_nil_left, List.zip_nil_right, List.all_cons, List.all_nil, Option.isSome_some, List.replicate_succ, List.replicate_zero]
      refine delL n H b l known i0 _ hi0 hc2 hb hb0 h0 hcl hn hl ?_
      intro cur h1 h2
      have hk : (uptoF l known).length ≤ l.length := List.length_filter_le ..
      generalize (uptoF l known).length = k at *
      have hs1 : slcV 8 (hp H b 8 28 false (cur.map cFact)) (.row b 8 none) (some (.int .i64 (k : Int))) none none = some (.row b 8 (some (k, l.length - k))) := by
        simp [slcV, hp_get' hb, sliceV.bd, h1, hk]
      have hs2 : ∀ es, es.length = l.length → slcV 8 (hp H b 8 28 false es) (.row b 8 none) none (some (.int .i64 (k : Int))) none = some (.row b 8 (some (0, k))) := by
        intro es he
        simp [slcV, hp_get' hb, sliceV.bd, he, hk]
      have hclr : clrX 8 (List.replicate 8 (.int .i64 0)) (hp H b 8 28 false (cur.map cFact)) (.row b 8 (some (k, l.length - k))) = .ok (2, .tup [], none, hp H b 8 28 false ((cur.map cFact).take k ++ List.replicate (l.length - k) (List.replicate 8 (.int .i64 0)) ++ (cur.map cFact).drop (k + (l.length - k)))) := by
        have hkk : decide (k + (l.length - k) ≤ ((cur.map cFact)).length) = true := decide_eq_true (by simp; omega)
        simp only [clrX, hp_get hb, hkk, hp_set, beq_self_eq_true, cond_true, Bool.and_self]
      have hx : ∀ h, xsem K (callN K (n + 9)) (.clr 8 (List.replicate 8 (.int .i64 0))) [.row b 8 (some (k, l.length - k))] h = clrX 8 (List.replicate 8 (.int .i64 0)) h (.row b 8 (some (k, l.length - k))) := fun h => rfl
      have hl2 : ((cur.map cFact).take k ++ List.replicate (l.length - k) (List.replicate 8 (LV.int .i64 0)) ++ (cur.map cFact).drop (k + (l.length - k))).length = l.length := by simp; omega
      have hvw : viewOf ((cur.map cFact).take k ++ List.replicate (l.length - k) (List.replicate 8 (LV.int .i64 0)) ++ (cur.map cFact).drop (k + (l.length - k))) (some (0, k)) = some ((uptoF l known).map cFact) := by
        have : decide (0 + k ≤ ((cur.map cFact).take k ++ List.replicate (l.length - k) (List.replicate 8 (LV.int .i64 0)) ++ (cur.map cFact).drop (k + (l.length - k))).length) = true := decide_eq_true (by rw [hl2]; omega)
        simp only [viewOf, this, cond_true, List.drop_zero]
        rw [List.append_assoc, List.take_append_of_le_length (by simp; omega), List.take_take, Nat.min_self, ← List.map_take, h2]
      have hs2' := hs2 _ hl2
      generalize (cur.map cFact).take k ++ List.replicate (l.length - k) (List.replicate 8 (LV.int .i64 0)) ++ (cur.map cFact).drop (k + (l.length - k)) = es2 at *
      simp only [r46_11, r46_12, hs1, hx, hclr, hs2', WW, callF, calF, stepF, boxF, fillF.o1c, LV.cells, rv, argsG, ND.bind, fieldAt, getAt, eqsV, kindsOk, ekOf, eqC, scEq, Nat.blt, Nat.ble, putP, allK, Nat.reduceAdd, Nat.reduceBEq, List.getD_cons_zero, List.getD_cons_succ, List.getElem?_cons_zero, List.getElem?_cons_succ, List.length_nil, List.length_cons, List.nil_append, List.cons_append, Option.map_some, cond_true, cond_false, beq_self_eq_true, nd_map_ok, List.set_cons_zero, List.set_cons_succ, List.filter_nil, List.isEmpty_nil, List.zip_cons_cons, List.zip_nil_left, List.zip_nil_right, List.all_cons, List.all_nil, Option.isSome_some]
      exact ⟨es2, some (0, k), rfl, rfl, hvw⟩
end Go.LH.s04

set_option maxRecDepth 100000
set_option linter.unusedSimpArgs false
set_option linter.unusedVariables false
namespace Go.LH.s04
open Go Go.LH
attribute [local irreducible] W GivesA
theorem of_w {α : Type} {x : ND α} {Q : α → Prop} (h : W true x Q) : ∃ a, x = .ok a ∧ Q a := by unfold W at h; exact h
theorem x_isnil (K : Ctx) (cf : CallF) (neg : Bool) (k : TK) (x y : LV) (h : Heap) : xsem K cf (.isnil neg k) [x, y] h = xv 0 h (isnilV neg k x y) := rfl
theorem isnil_sl (neg : Bool) (e s s' : Nat) (b ex ex' : Bool) (es es' : List (List LV)) : isnilV neg (.slice e) (.sl s (some b) ex es) (.sl s' (some true) ex' es') = some (.bool (bif neg then !b else b)) := by
  cases b <;> cases neg <;> rfl
theorem xv_s (c : Nat) (h : Heap) (v : LV) : xv c h (some v) = .ok (c, v, none, h) := rfl
theorem app_sl {K : Ctx} {cf : CallF} {d : Option Nat} {g : G} {s s' et : Nat} {nl nl' : Option Bool} {ex : Bool} {es : List (List LV)} {h : Heap} (hl : es.length ≤ 16777216) :
    xF d g (xsem K cf (.app s et) [.sl s' nl true [], .sl s nl' ex es] h) = .ok (3, putG g d (.row h.length s none), h ++ [some (.row true true es s et)]) := by
  have h2 : decide (es.length ≤ sizeLim) = true := decide_eq_true hl
  simp only [xsem, appR, elemsOf, beq_self_eq_true, Bool.true_or, cond_true, List.isEmpty_nil, Bool.or_true, List.length_nil, Nat.zero_add, h2, Bool.and_self, List.nil_append, appX, xF_n]
theorem clone_t (n : Nat) (b ex : Bool) (l : List Fact) (h : Heap) (hb : b = true → l = []) (hl : l.length < 1000) : W true (callN K (n + 1) (.fn (.func 47) [] []) [sF (some b) ex l] h) fun r => r.1 = .row (h.length + 1) 8 none ∧ r.2 = h ++ [some (.row true true [] 8 28), some (.row true true (l.map cFact) 8 28)] := by
  refine w_call (args := [sF (some b) ex l]) (h := h) (R := fun v h' => v = .row (h.length + 1) 8 none ∧ h' = h ++ [some (.row true true [] 8 28), some (.row true true (l.map cFact) 8 28)]) ok47 (by rfl) ?_
  simp only [b47, r47_0, r47_1, r47_2, x_isnil, isnil_sl, xv_s, WW, callF, calF, stepF, boxF, fillF.o1c, LV.cells, rv, argsG, ND.bind, fieldAt, getAt, eqsV, kindsOk, ekOf, eqC, scEq, Nat.blt, Nat.ble, putP, allK, Nat.reduceAdd, Nat.reduceBEq, List.getD_cons_zero, List.getD_cons_succ, List.getElem?_cons_zero, List.getElem?_cons_succ, List.length_nil, List.length_cons, List.nil_append, List.cons_append, Option.map_some, cond_true, cond_false, beq_self_eq_true, nd_map_ok, List.set_cons_zero, List.set_cons_succ, List.filter_nil, List.isEmpty_nil, List.zip_cons_cons, List.zip_nil_left, List.zip_nil_right, List.all_cons, List.all_nil, Option.isSome_some]
  refine ⟨fun hc => ?_, fun hc => ?_⟩
  · subst hc
    rw [hb rfl]
    simp only [List.length_append, List.append_assoc, WW, callF, calF, stepF, boxF, fillF.o1c, LV.cells, rv, argsG, ND.bind, fieldAt, getAt, eqsV, kindsOk, ekOf, eqC, scEq, Nat.blt, Nat.ble, putP, allK, Nat.reduceAdd, Nat.reduceBEq, List.getD_cons_zero, List.getD_cons_succ, List.getElem?_cons_zero, List.getElem?_cons_succ, List.length_nil, List.length_cons, List.nil_append, List.cons_append, Option.map_some, cond_true, cond_false, beq_self_eq_true, nd_map_ok, List.set_cons_zero, List.set_cons_succ, List.filter_nil, List.isEmpty_nil, List.zip_cons_cons, List.zip_nil_left, List.zip_nil_right, List.all_cons, List.all_nil, Option.isSome_some]
    exact ⟨trivial, rfl⟩
  · have hx := fun d g h => app_sl (K := K) (cf := callN K n) (d := d) (g := g) (s := 8) (s' := 8) (et := 28) (nl := some false) (nl' := some b) (ex := ex) (es := l.map cFact) (h := h) (by simp; omega)
    simp only [r47_3, hx, List.length_append, List.append_assoc, List.replicate_zero, WW, callF, calF, stepF, boxF, fillF.o1c, LV.cells, rv, argsG, ND.bind, fieldAt, getAt, eqsV, kindsOk, ekOf, eqC, scEq, Nat.blt, Nat.ble, putP, allK, Nat.reduceAdd, Nat.reduceBEq, List.getD_cons_zero, List.getD_cons_succ, List.getElem?_cons_zero, List.getElem?_cons_succ, List.length_nil, List.length_cons, List.nil_append, List.cons_append, Option.map_some, cond_true, cond_false, beq_self_eq_true, nd_map_ok, List.set_cons_zero, List.set_cons_succ, List.filter_nil, List.isEmpty_nil, List.zip_cons_cons, List.zip_nil_left, List.zip_nil_right, List.all_cons, List.all_nil, Option.isSome_some]
    exact ⟨trivial, trivial⟩
theorem upto_t (n : Nat) (b ex : Bool) (l : List Fact) (known : Int) (hb : b = true → l = []) (hn : l.length < n) (hl : l.length < 1000) : Gives K (n + 20) 28 [sF (some b) ex l, I known] (.sl 8 none false ((uptoF l known).map cFact)) := by
  refine gives_wp ok28 (by rfl) ?_
  have hi1 : isoOf K (.fn (.func 47) [] []) = 0 := rfl
  have hi2 : isoOf K (.fn (.func 46) [] []) = 0 := rfl
  simp only [b28, r28_0, r28_1, mkf_s, WW, callF, calF, stepF, boxF, fillF.o1c, LV.cells, rv, argsG, ND.bind, fieldAt, getAt, eqsV, kindsOk, ekOf, eqC, scEq, Nat.blt, Nat.ble, putP, allK, Nat.reduceAdd, Nat.reduceBEq, List.getD_cons_zero, List.getD_cons_succ, List.getElem?_cons_zero, List.getElem?_cons_succ, List.length_nil, List.length_cons, List.nil_append, List.cons_append, Option.map_some, cond_true, cond_false, beq_self_eq_true, nd_map_ok, List.set_cons_zero, List.set_cons_succ, List.filter_nil, List.isEmpty_nil, List.zip_cons_cons, List.zip_nil_left, List.zip_nil_right, List.all_cons, List.all_nil, Option.isSome_some, List.replicate_succ, List.replicate_zero]
  refine wp_grow (R := fun v e => v = .row 2 8 none ∧ e = [some (.row true true [] 8 28), some (.row true true (l.map cFact) 8 28)]) hi1 rfl ?_ ?_
  · exact (clone_t (n + 18) b ex l _ hb hl).mono fun r hr => ⟨_, hr.2, hr.1, rfl⟩
  · rintro v e ⟨rfl, rfl⟩
    have hD := delF_t (n + 9) [some (.cells [I known] 3), some (.row true false [] 8 28), some (.row true false (l.map cFact) 8 28)] 2 l known (by simp) (by omega) rfl (fun es => by unfold hp; rfl) (by omega) hl
    obtain ⟨⟨v, h'⟩, h1, es, w, rfl, rfl, h4⟩ := of_w hD
    have hcall := fun d g => xcal_hp (K := K) (cf := callN K (n + 19)) (f := .fn (.func 46) [] []) (args := [.row 2 8 none, delV (.ptr 0 0)]) (h := [some (.cells [I known] 3), some (.row true true [] 8 28), some (.row true true (l.map cFact) 8 28)]) (b := 2) (s := 8) (e := 28) (mv := true) (es := l.map cFact) (es' := es) (v := .row 2 8 w) (d := d) (g := g) hi2 h1
    rw [show hp [some (.cells [I known] 3), some (.row true true [] 8 28), some (.row true true (l.map cFact) 8 28)] 2 8 28 true (l.map cFact) = [some (.cells [I known] 3), some (.row true true [] 8 28), some (.row true true (l.map cFact) 8 28)] by unfold hp; rfl] at hcall
    simp only [mkf_s, hcall, WW, callF, calF, stepF, boxF, fillF.o1c, LV.cells, rv, argsG, ND.bind, fieldAt, getAt, eqsV, kindsOk, ekOf, eqC, scEq, Nat.blt, Nat.ble, putP, allK, Nat.reduceAdd, Nat.reduceBEq, List.getD_cons_zero, List.getD_cons_succ, List.getElem?_cons_zero, List.getElem?_cons_succ, List.length_nil, List.length_cons, List.nil_append, List.cons_append, Option.map_some, cond_true, cond_false, beq_self_eq_true, nd_map_ok, List.set_cons_zero, List.set_cons_succ, List.filter_nil, List.isEmpty_nil, List.zip_cons_cons, List.zip_nil_left, List.zip_nil_right, List.all_cons, List.all_nil, Option.isSome_some, List.replicate_succ, List.replicate_zero]
    exact pv_row (hp_get (by simp)) h4
theorem upto_i (n : Nat) (b ex : Bool) (l : List Fact) (known : Int) (hb : b = true → l = []) (hn : l.length < n) (hl : l.length < 1000) (h : Heap) : callIso "" (callN K (n + 20)) (.fn (.func 28) [] []) [sF (some b) ex l, I known] h = .ok (.sl 8 none false ((uptoF l known).map cFact)) :=
  iso_gives ⟨open_sl _ _ _ _, open_int _ _, trivial⟩ (upto_t n b ex l known hb hn hl)
theorem app_row {K : Ctx} {cf : CallF} {s et : Nat} {nl : Option Bool} {l : List Fact} {f : Fact} {h : Heap} (hl : l.length < 1000) :
    xsem K cf (.app 8 28) [sF nl true l, .sl 8 (some false) true [cFact f]] h = .ok (3, .row h.length 8 none, none, h ++ [some (.row true true ((l ++ [f]).map cFact) 8 28)]) := by
  have h2 : decide ((l.map cFact).length + [cFact f].length ≤ sizeLim) = true := decide_eq_true (by simp [sizeLim]; omega)
  have h3 : (bif (l.map cFact).isEmpty then true else !([cFact f] : List (List LV)).isEmpty) = true := by cases (l.map cFact).isEmpty <;> rfl
  simp only [xsem, appR, elemsOf, beq_self_eq_true, Bool.true_or, cond_true, h2, h3, Bool.and_self, appX, List.map_append, List.map_cons, List.map_nil]
def addF (l : List Fact) (f : Fact) : List Fact × Int :=
  if checkF l ≠ 0 then ([], checkF l) else if fitsF f = false then ([], 40) else if l.length > 0 ∧ 0 ≤ cmpF (l.getD (l.length - 1) default) f then ([], 41) else (l ++ [f], 0)
theorem isV_rowI {h : Heap} {b s e : Nat} {mv : Bool} {es ds : List (List LV)} {w : Option (Nat × Nat)} {i : Int} (hb : h.getD b none = some (.row true mv es s e)) (hv : viewOf es w = some ds) : IsV (.tup [.sl s none false ds, I i]) (.tup [.row b s w, I i]) h := by
  unfold IsV
  refine pv_tup _ _ _ _ ?_
  simp only [pvs, pv_row (n := 6) hb hv]
  rfl
theorem add_t (n : Nat) (nl : Option Bool) (ex : Bool) (l : List Fact) (f : Fact) (hn : l.length < n) (hb : l.length < 1000) : Gives K (n + 30) 13 [sF nl ex l, .agg (cFact f)] (.tup [.sl 8 none false ((addF l f).1.map cFact), I (addF l f).2]) := by
  refine gives_wp ok13 (by rfl) ?_
  have hc := fun h => check_i (n + 9) nl ex l (by omega) (by omega) h
  have hf := fun h => fits_i (n + 27) f h
  have hcl := fun h => clip_i (n + 28) nl ex l h
  have hcm := fun a b h => cmpF_i (n + 19) a b h
  have hap := fun (X : Heap) => app_row (K := K) (cf := callN K (n + 29)) (s := 8) (et := 28) (l := l) (f := f) (nl := if nl = some true then some true else none) (h := X) hb
  simp only [b13, r13_0, r13_1, r13_2, r13_3, r13_4, r13_5, hc, hf, WW, callF, calF, stepF, boxF, fillF.o1c, LV.cells, rv, argsG, ND.bind, fieldAt, getAt, eqsV, kindsOk, ekOf, eqC, scEq, Nat.blt, Nat.ble, putP, allK, Nat.reduceAdd, Nat.reduceBEq, List.getD_cons_zero, List.getD_cons_succ, List.getElem?_cons_zero, List.getElem?_cons_succ, List.length_nil, List.length_cons, List.nil_append, List.cons_append, Option.map_some, cond_true, cond_false, beq_self_eq_true, nd_map_ok, List.set_cons_zero, List.set_cons_succ, List.filter_nil, List.isEmpty_nil, List.zip_cons_cons, List.zip_nil_left, List.zip_nil_right, List.all_cons, List.all_nil, Option.isSome_some, List.replicate_succ, List.replicate_zero]
  refine ⟨fun h1 => ?_, fun h1 => ?_⟩
  · have h1 : checkF l ≠ 0 := by simpa using h1
    simp only [addF, h1, ne_eq, not_false_eq_true, if_true]
    exact isV_rowI rfl rfl
  · have h1 : checkF l = 0 := by simpa using h1
    refine ⟨fun h2 => ?_, fun h2 => ?_⟩
    · have h2 : fitsF f = false := by simpa using h2
      simp only [addF, h1, h2, ne_eq, not_true_eq_false, if_false, if_true]
      exact isV_rowI rfl rfl
    · have h2 : fitsF f = true := by simpa using h2
      rcases List.eq_nil_or_concat l with he | ⟨ds, p, he⟩
      · subst he
        have h00 : decide ((0 : Int) < ((0 : Nat) : Int)) = false := rfl
        simp only [r13_6, r13_8, List.length_nil, List.map_nil, h00, hcl, hap, WW, callF, calF, stepF, boxF, fillF.o1c, LV.cells, rv, argsG, ND.bind, fieldAt, getAt, eqsV, kindsOk, ekOf, eqC, scEq, Nat.blt, Nat.ble, putP, allK, Nat.reduceAdd, Nat.reduceBEq, List.getD_cons_zero, List.getD_cons_succ, List.getElem?_cons_zero, List.getElem?_cons_succ, List.length_nil, List.length_cons, List.nil_append, List.cons_append, Option.map_some, cond_true, cond_false, beq_self_eq_true, nd_map_ok, List.set_cons_zero, List.set_cons_succ, List.filter_nil, List.isEmpty_nil, List.zip_cons_cons, List.zip_nil_left, List.zip_nil_right, List.all_cons, List.all_nil, Option.isSome_some, List.replicate_succ, List.replicate_zero]
        simp only [addF, h1, h2, ne_eq, not_true_eq_false, if_false, if_true, List.length_nil, Nat.lt_irrefl, false_and, Bool.true_eq_false, gt_iff_lt]
        exact isV_rowI rfl rfl
      · rw [List.concat_eq_append] at he
        have hl : l.length = ds.length + 1 := by rw [he]; simp
        have hpos : decide ((0 : Int) < (l.length : Int)) = true := decide_eq_true (by omega)
        have hwr : IntKind.i64.wrap ((l.length : Int) - 1) = ((l.length - 1 : Nat) : Int) := by rw [wrap_id (by omega) (by omega)]; omega
        have hgl := getF' (l := l) (i := l.length - 1) (by omega)
        simp only [r13_6, r13_7, List.length_map, hpos, hwr, hgl, hcm, WW, callF, calF, stepF, boxF, fillF.o1c, LV.cells, rv, argsG, ND.bind, fieldAt, getAt, eqsV, kindsOk, ekOf, eqC, scEq, Nat.blt, Nat.ble, putP, allK, Nat.reduceAdd, Nat.reduceBEq, List.getD_cons_zero, List.getD_cons_succ, List.getElem?_cons_zero, List.getElem?_cons_succ, List.length_nil, List.length_cons, List.nil_append, List.cons_append, Option.map_some, cond_true, cond_false, beq_self_eq_true, nd_map_ok, List.set_cons_zero, List.set_cons_succ, List.filter_nil, List.isEmpty_nil, List.zip_cons_cons, List.zip_nil_left, List.zip_nil_right, List.all_cons, List.all_nil, Option.isSome_some, List.replicate_succ, List.replicate_zero]
        refine ⟨fun h3 => ?_, fun h3 => ?_⟩
        · have h3 : 0 ≤ cmpF (l.getD (l.length - 1) default) f := by simpa using h3
          have h4 : l.length > 0 ∧ 0 ≤ cmpF (l.getD (l.length - 1) default) f := ⟨by omega, h3⟩
          simp only [addF, h1, h2, ne_eq, not_true_eq_false, if_false, if_true, Bool.true_eq_false, h4, and_self]
          exact isV_rowI rfl rfl
        · have h3 : ¬ 0 ≤ cmpF (l.getD (l.length - 1) default) f := by simpa using h3
          simp only [r13_8, hcl, hap, WW, callF, calF, stepF, boxF, fillF.o1c, LV.cells, rv, argsG, ND.bind, fieldAt, getAt, eqsV, kindsOk, ekOf, eqC, scEq, Nat.blt, Nat.ble, putP, allK, Nat.reduceAdd, Nat.reduceBEq, List.getD_cons_zero, List.getD_cons_succ, List.getElem?_cons_zero, List.getElem?_cons_succ, List.length_nil, List.length_cons, List.nil_append, List.cons_append, Option.map_some, cond_true, cond_false, beq_self_eq_true, nd_map_ok, List.set_cons_zero, List.set_cons_succ, List.filter_nil, List.isEmpty_nil, List.zip_cons_cons, List.zip_nil_left, List.zip_nil_right, List.all_cons, List.all_nil, Option.isSome_some, List.replicate_succ, List.replicate_zero]
          simp only [addF, h1, h2, ne_eq, not_true_eq_false, if_false, if_true, Bool.true_eq_false, h3, and_false]
          exact isV_rowI rfl rfl
theorem add_i (n : Nat) (nl : Option Bool) (ex : Bool) (l : List Fact) (f : Fact) (hn : l.length < n) (hb : l.length < 1000) (h : Heap) : callIso "" (callN K (n + 30)) (.fn (.func 13) [] []) [sF nl ex l, .agg (cFact f)] h = .ok (.tup [.sl 8 none false ((addF l f).1.map cFact), I (addF l f).2]) :=
  iso_gives ⟨open_sl _ _ _ _, open_agg rfl, trivial⟩ (add_t n nl ex l f hn hb)
end Go.LH.s04

set_option maxRecDepth 100000
namespace Go.LH.s04
open Go Go.LH
noncomputable def r3_0 : List TO := [.op (some 3) (.box 28 (.t 1)),
  .op (some 4) (.mv (.c (.bool false)))]
noncomputable def r3_1 : List TO := [.op (some 9) (.call 11 []),
  .op (some 10) (.un .not (.t 9))]
noncomputable def r3_2 : List TO := [.op (some 4) (.mv (.c (.bool false)))]
noncomputable def r3_3 : List TO := [.op (some 11) (.mv (.t 0)),
  .op (some 12) (.call 12 [(.t 11)]),
  .op (some 13) (.un .not (.t 12))]
noncomputable def r3_4 : List TO := [.op (some 4) (.mv (.c (.bool true)))]
noncomputable def r3_5 : List TO := [.op (some 15) (.mv (.t 0)),
  .op (some 16) (.ld (some 8) (.t 3)),
  .op (some 17) (.call 13 [(.t 15), (.t 16)]),
  .op (some 14) (.mv (.t 17)),
  .op (some 18) (.ext (.t 14) 0),
  .op (some 19) (.ext (.t 14) 1),
  .op (some 5) (.mv (.t 18)),
  .op (some 6) (.mv (.t 19))]
noncomputable def r3_6 : List TO := [.op (some 21) (.mv (.t 0)),
  .op (some 22) (.ld (some 8) (.t 3)),
  .op (some 23) (.call 14 [(.t 21), (.t 22)]),
  .op (some 20) (.mv (.t 23)),
  .op (some 24) (.ext (.t 20) 0),
  .op (some 25) (.ext (.t 20) 1),
  .op (some 7) (.mv (.t 24)),
  .op (some 8) (.mv (.t 25))]
noncomputable def r3_7 : List TO := [.op (some 26) (.mv (.t 0)),
  .op (some 27) (.call 15 [(.t 26)]),
  .op (some 28) (.mv (.t 0)),
  .op (some 29) (.call 16 [(.t 28)]),
  .op (some 30) (.bin .eql (.t 27) (.t 29)),
  .op (some 31) (.mv (.t 30)),
  .sc 35 31 true [.op (some 32) (.mv (.t 5)), .op (some 33) (.mv (.t 7)), .op (some 34) (.call 17 [(.t 32), (.t 33)])] 34 false,
  .op (some 36) (.mv (.t 35)),
  .sc 40 36 true [.op (some 37) (.mv (.t 6)), .op (some 38) (.mv (.t 8)), .op (some 39) (.bin .eql (.t 37) (.t 38))] 39 false,
  .op (some 4) (.mv (.t 40))]
noncomputable def b3 : TF := (.seq (.reg 0 r3_0 none [] [0, 3]) (.seq (.seq (.reg 1 r3_1 none [] [0, 3, 10]) (.cond (.t 10) (.seq (.reg 2 r3_2 none [] [4]) .ret) .skip)) (.seq (.seq (.reg 3 r3_3 none [] [0, 3, 13]) (.cond (.t 13) (.seq (.reg 4 r3_4 none [] [4]) .ret) .skip)) (.seq (.reg 5 r3_5 none [] [0, 3, 5, 6]) (.seq (.reg 6 r3_6 none [] [0, 5, 6, 7, 8]) (.seq (.reg 7 r3_7 none [] [4]) .ret))))))
noncomputable def r4_0 : List TO := [.op (some 6) (.box 24 (.t 1)),
  .op (some 10) (.mv (.c (.bool false)))]
noncomputable def r4_1 : List TO := [.op (some 17) (.call 11 []),
  .op (some 18) (.un .not (.t 17))]
noncomputable def r4_2 : List TO := [.op (some 10) (.mv (.c (.bool false)))]
noncomputable def r4_3 : List TO := [.op (some 19) (.mv (.t 0)),
  .op (some 20) (.call 12 [(.t 19)]),
  .op (some 21) (.un .not (.t 20))]
noncomputable def r4_4 : List TO := [.op (some 10) (.mv (.c (.bool true)))]
noncomputable def r4_5 : List TO := [.op (some 22) (.ld (some 3) (.t 6)),
  .op (some 23) (.x (.bsl 3 [(.int .i64 0), (.int .i64 0), (.int .i64 0)] 1 24 [0] true) [(.t 22)]),
  .op (some 11) (.mv (.t 23))]
noncomputable def r4_6 : List TO := [.op (some 24) (.mv (.t 0)),
  .op (some 25) (.lenS (.t 24)),
  .op (some 26) (.bin .gtr (.t 25) (.c (.int .i64 0)))]
noncomputable def r4_7 : List TO := [.op (some 27) (.mv (.t 11)),
  .op (some 28) (.mv (.t 0)),
  .op (some 29) (.ixs 8 (.t 28) (.c (.int .i64 0))),
  .op (some 30) (.fa 0 (.t 29)),
  .op (some 31) (.ld (some 3) (.t 30)),
  .op (some 32) (.mv (.t 0)),
  .op (some 33) (.mv (.t 0)),
  .op (some 34) (.lenS (.t 33)),
  .op (some 35) (.bin .sub (.t 34) (.c (.int .i64 1))),
  .op (some 36) (.ixs 8 (.t 32) (.t 35)),
  .op (some 37) (.fa 0 (.t 36)),
  .op (some 38) (.ld (some 3) (.t 37)),
  .op (some 39) (.x (.bsl 3 [(.int .i64 0), (.int .i64 0), (.int .i64 0)] 2 24 [0, 1] false) [(.t 31), (.t 38)]),
  .op (some 40) (.x (.app 3 24) [(.t 27), (.t 39)]),
  .op (some 11) (.mv (.t 40))]
noncomputable def r4_8 : List TO := [.op (some 12) (.mv (.c (.int .i64 0)))]
noncomputable def r4_9 : List TO := [.op (some 41) (.mv (.t 12)),
  .op (some 42) (.mv (.t 11)),
  .op (some 43) (.lenS (.t 42)),
  .op (some 44) (.bin .lss (.t 41) (.t 43))]
noncomputable def r4_11 : List TO := [.op (some 48) (.mv (.t 0)),
  .op (some 49) (.mv (.t 11)),
  .op (some 50) (.mv (.t 12)),
  .op (some 51) (.ixs 3 (.t 49) (.t 50)),
  .op (some 52) (.ld (some 3) (.t 51)),
  .op (some 53) (.mv (.t 2)),
  .op (some 54) (.mv (.t 4)),
  .op (some 55) (.call 18 [(.t 48), (.t 52), (.t 53), (.t 54)]),
  .op (some 47) (.mv (.t 55)),
  .op (some 56) (.ext (.t 47) 0),
  .op (some 57) (.ext (.t 47) 1),
  .op (some 13) (.mv (.t 56)),
  .op (some 14) (.mv (.t 57))]
noncomputable def r4_12 : List TO := [.op (some 59) (.mv (.t 0)),
  .op (some 60) (.mv (.t 11)),
  .op (some 61) (.mv (.t 12)),
  .op (some 62) (.ixs 3 (.t 60) (.t 61)),
  .op (some 63) (.ld (some 3) (.t 62)),
  .op (some 64) (.mv (.t 2)),
  .op (some 65) (.mv (.t 4)),
  .op (some 66) (.call 19 [(.t 59), (.t 63), (.t 64), (.t 65)]),
  .op (some 58) (.mv (.t 66)),
  .op (some 67) (.ext (.t 58) 0),
  .op (some 68) (.ext (.t 58) 1),
  .op (some 15) (.mv (.t 67)),
  .op (some 16) (.mv (.t 68))]
noncomputable def r4_13 : List TO := [.op (some 69) (.mv (.t 13)),
  .op (some 70) (.mv (.t 15)),
  .op (some 71) (.bin .neq (.t 69) (.t 70)),
  .op (some 72) (.mv (.t 71)),
  .sc 76 72 false [.op (some 73) (.mv (.t 14)), .op (some 74) (.mv (.t 16)), .op (some 75) (.binB .neq (.t 73) (.t 74))] 75 true,
  .op (some 77) (.mv (.t 76)),
  .sc 98 77 false [.op (some 78) (.mv (.t 0)), .op (some 79) (.mv (.t 11)), .op (some 80) (.mv (.t 12)), .op (some 81) (.ixs 3 (.t 79) (.t 80)), .op (some 82) (.ld (some 3) (.t 81)), .op (some 83) (.mv (.t 2)), .op (some 84) (.mv (.t 3)), .op (some 85) (.mv (.t 4)), .op (some 86) (.call 21 [(.t 78), (.t 82), (.t 83), (.t 84), (.t 85)]), .op (some 87) (.mv (.t 0)), .op (some 88) (.mv (.t 11)), .op (some 89) (.mv (.t 12)), .op (some 90) (.ixs 3 (.t 88) (.t 89)), .op (some 91) (.ld (some 3) (.t 90)), .op (some 92) (.mv (.t 2)), .op (some 93) (.mv (.t 3)), .op (some 94) (.mv (.t 4)), .op (some 95) (.call 22 [(.t 87), (.t 91), (.t 92), (.t 93), (.t 94)]), .op (some 96) (.call 20 [(.t 86), (.t 95)]), .op (some 97) (.un .not (.t 96))] 97 true]
noncomputable def r4_14 : List TO := [.op (some 10) (.mv (.c (.bool false)))]
noncomputable def r4_10 : List TO := [.op (some 45) (.mv (.t 12)),
  .op (some 46) (.bin .add (.t 45) (.c (.int .i64 1))),
  .op (some 12) (.mv (.t 46))]
noncomputable def l4_0 : TF := (.seq (.seq (.reg 9 r4_9 none [] [0, 2, 3, 4, 11, 12, 44]) (.cond (.t 44) .skip (.exit 0))) (.seq (.block 1 (.seq (.reg 11 r4_11 none [] [0, 2, 3, 4, 11, 12, 13, 14]) (.seq (.reg 12 r4_12 none [] [0, 2, 3, 4, 11, 12, 13, 14, 15, 16]) (.seq (.reg 13 r4_13 (some [0, 0, 0, 0, 0, 0, 0, 0, 0, 0, 0, 0, 1, 1, 0, 0, 0, 1, 0, 0, 0, 1, 1, 0, 0, 0, 1, 1, 0, 0]) [] [0, 2, 3, 4, 11, 12, 98]) (.cond (.t 98) (.seq (.reg 14 r4_14 none [] [10]) .ret) .skip))))) (.reg 10 r4_10 none [] [0, 2, 3, 4, 11, 12])))
noncomputable def r4_15 : List TO := [.op (some 10) (.mv (.c (.bool true)))]
noncomputable def b4 : TF := (.seq (.reg 0 r4_0 none [] [0, 2, 3, 4, 6]) (.seq (.seq (.reg 1 r4_1 none [] [0, 2, 3, 4, 6, 18]) (.cond (.t 18) (.seq (.reg 2 r4_2 none [] [10]) .ret) .skip)) (.seq (.seq (.reg 3 r4_3 none [] [0, 2, 3, 4, 6, 21]) (.cond (.t 21) (.seq (.reg 4 r4_4 none [] [10]) .ret) .skip)) (.seq (.reg 5 r4_5 none [] [0, 2, 3, 4, 11]) (.seq (.seq (.reg 6 r4_6 none [] [0, 2, 3, 4, 11, 26]) (.cond (.t 26) (.reg 7 r4_7 (some [0, 0, 1, 0, 1, 0, 0, 1, 0, 1, 0, 1, 1, 3, 0]) [] [0, 2, 3, 4, 11]) .skip)) (.seq (.seq (.reg 8 r4_8 none [] [0, 2, 3, 4, 11, 12]) (.block 0 (.loop l4_0))) (.seq (.reg 15 r4_15 none [] [10]) .ret)))))))
noncomputable def r5_0 : List TO := [.op (some 8) (.mv (.c (.bool false)))]
noncomputable def r5_1 : List TO := [.op (some 9) (.call 11 []),
  .op (some 10) (.un .not (.t 9))]
noncomputable def r5_2 : List TO := [.op (some 8) (.mv (.c (.bool false)))]
noncomputable def r5_3 : List TO := [.op (some 11) (.mv (.t 0)),
  .op (some 12) (.lenS (.t 11)),
  .op (some 13) (.bin .gtr (.t 12) (.c (.int .i64 14))),
  .op (some 14) (.mv (.t 13)),
  .sc 18 14 false [.op (some 15) (.mv (.t 1)), .op (some 16) (.lenS (.t 15)), .op (some 17) (.bin .gtr (.t 16) (.c (.int .i64 6)))] 17 true]
noncomputable def r5_4 : List TO := [.op (some 8) (.mv (.c (.bool true)))]
noncomputable def r5_5 : List TO := [.op (some 19) (.mv (.t 0)),
  .op (some 20) (.mv (.t 2)),
  .op (some 21) (.mv (.t 3)),
  .op (some 22) (.call 24 [(.t 19), (.t 20), (.t 21)]),
  .op (some 23) (.mv (.t 0)),
  .op (some 24) (.mv (.t 2)),
  .op (some 25) (.mv (.t 3)),
  .op (some 26) (.call 25 [(.t 23), (.t 24), (.t 25)]),
  .op (some 27) (.call 23 [(.t 22), (.t 26)]),
  .op (some 28) (.mv (.t 27)),
  .sc 40 28 true [.op (some 29) (.mv (.t 0)), .op (some 30) (.mv (.t 1)), .op (some 31) (.mv (.t 2)), .op (some 32) (.mv (.t 3)), .op (some 33) (.call 26 [(.t 29), (.t 30), (.t 31), (.t 32)]), .op (some 34) (.mv (.t 0)), .op (some 35) (.mv (.t 1)), .op (some 36) (.mv (.t 2)), .op (some 37) (.mv (.t 3)), .op (some 38) (.call 27 [(.t 34), (.t 35), (.t 36), (.t 37)]), .op (some 39) (.binB .eql (.t 33) (.t 38))] 39 false,
  .op (some 41) (.mv (.t 40)),
  .sc 49 41 true [.op (some 42) (.mv (.t 0)), .op (some 43) (.mv (.t 2)), .op (some 44) (.call 28 [(.t 42), (.t 43)]), .op (some 45) (.mv (.t 0)), .op (some 46) (.mv (.t 2)), .op (some 47) (.call 29 [(.t 45), (.t 46)]), .op (some 48) (.call 17 [(.t 44), (.t 47)])] 48 false,
  .op (some 8) (.mv (.t 49))]
noncomputable def b5 : TF := (.seq (.reg 0 r5_0 none [] [0, 1, 2, 3]) (.seq (.seq (.reg 1 r5_1 none [] [0, 1, 2, 3, 10]) (.cond (.t 10) (.seq (.reg 2 r5_2 none [] [8]) .ret) .skip)) (.seq (.seq (.reg 3 r5_3 none [] [0, 1, 2, 3, 18]) (.cond (.t 18) (.seq (.reg 4 r5_4 none [] [8]) .ret) .skip)) (.seq (.reg 5 r5_5 none [] [8]) .ret))))
noncomputable def r6_0 : List TO := [.op (some 7) (.box 24 (.t 2)),
  .op (some 10) (.mv (.c (.bool false)))]
noncomputable def r6_1 : List TO := [.op (some 20) (.call 11 []),
  .op (some 21) (.un .not (.t 20))]
noncomputable def r6_2 : List TO := [.op (some 10) (.mv (.c (.bool false)))]
noncomputable def r6_3 : List TO := [.op (some 22) (.mv (.t 0)),
  .op (some 23) (.lenS (.t 22)),
  .op (some 24) (.bin .gtr (.t 23) (.c (.int .i64 10))),
  .op (some 25) (.mv (.t 24)),
  .sc 29 25 false [.op (some 26) (.mv (.t 1)), .op (some 27) (.lenS (.t 26)), .op (some 28) (.bin .gtr (.t 27) (.c (.int .i64 6)))] 28 true,
  .op (some 30) (.mv (.t 29)),
  .sc 33 30 false [.op (some 31) (.mv (.t 4)), .op (some 32) (.bin .lss (.t 31) (.c (.int .i64 0)))] 32 true]
noncomputable def r6_4 : List TO := [.op (some 10) (.mv (.c (.bool true)))]
noncomputable def r6_5 : List TO := [.op (some 11) (.mv (.c (.int .i64 0)))]
noncomputable def r6_6 : List TO := [.op (some 34) (.mv (.t 11)),
  .op (some 35) (.mv (.t 1)),
  .op (some 36) (.lenS (.t 35)),
  .op (some 37) (.bin .lss (.t 34) (.t 36))]
noncomputable def r6_8 : List TO := [.op (some 40) (.mv (.t 1)),
  .op (some 41) (.mv (.t 11)),
  .op (some 42) (.ixs 8 (.t 40) (.t 41)),
  .op (some 43) (.fa 6 (.t 42)),
  .op (some 44) (.ld none (.t 43)),
  .op (some 45) (.mv (.t 4)),
  .op (some 46) (.bin .leq (.t 44) (.t 45))]
noncomputable def r6_9 : List TO := [.op (some 10) (.mv (.c (.bool true)))]
noncomputable def r6_7 : List TO := [.op (some 38) (.mv (.t 11)),
  .op (some 39) (.bin .add (.t 38) (.c (.int .i64 1))),
  .op (some 11) (.mv (.t 39))]
noncomputable def l6_0 : TF := (.seq (.seq (.reg 6 r6_6 none [] [0, 1, 3, 4, 7, 11, 37]) (.cond (.t 37) .skip (.exit 0))) (.seq (.block 1 (.seq (.reg 8 r6_8 none [] [0, 1, 3, 4, 7, 11, 46]) (.cond (.t 46) (.seq (.reg 9 r6_9 none [] [10]) .ret) .skip))) (.reg 7 r6_7 none [] [0, 1, 3, 4, 7, 11])))
noncomputable def r6_10 : List TO := [.op (some 47) (.x (.bsl 8 (List.replicate 8 (.int .i64 0)) 0 28 [] false) []),
  .op (some 48) (.mv (.t 0)),
  .op (some 49) (.x (.app 8 28) [(.t 47), (.t 48)]),
  .op (some 50) (.mv (.t 1)),
  .op (some 51) (.x (.app 8 28) [(.t 49), (.t 50)]),
  .op (some 12) (.mv (.t 51))]
noncomputable def r6_11 : List TO := [.op (some 52) (.ld (some 3) (.t 7)),
  .op (some 53) (.x (.bsl 3 [(.int .i64 0), (.int .i64 0), (.int .i64 0)] 1 24 [0] true) [(.t 52)]),
  .op (some 13) (.mv (.t 53))]
noncomputable def r6_12 : List TO := [.op (some 14) (.mv (.c (.int .i64 0)))]
noncomputable def r6_13 : List TO := [.op (some 54) (.mv (.t 14)),
  .op (some 55) (.mv (.t 12)),
  .op (some 56) (.lenS (.t 55)),
  .op (some 57) (.bin .lss (.t 54) (.t 56))]
noncomputable def r6_15 : List TO := [.op (some 60) (.mv (.t 13)),
  .op (some 61) (.mv (.t 12)),
  .op (some 62) (.mv (.t 14)),
  .op (some 63) (.ixs 8 (.t 61) (.t 62)),
  .op (some 64) (.fa 0 (.t 63)),
  .op (some 65) (.ld (some 3) (.t 64)),
  .op (some 66) (.x (.bsl 3 [(.int .i64 0), (.int .i64 0), (.int .i64 0)] 1 24 [0] false) [(.t 65)]),
  .op (some 67) (.x (.app 3 24) [(.t 60), (.t 66)]),
  .op (some 13) (.mv (.t 67))]
noncomputable def r6_14 : List TO := [.op (some 58) (.mv (.t 14)),
  .op (some 59) (.bin .add (.t 58) (.c (.int .i64 1))),
  .op (some 14) (.mv (.t 59))]
noncomputable def l6_1 : TF := (.seq (.seq (.reg 13 r6_13 none [] [0, 3, 4, 12, 13, 14, 57]) (.cond (.t 57) .skip (.exit 2))) (.seq (.block 3 (.reg 15 r6_15 none [] [0, 3, 4, 12, 13, 14])) (.reg 14 r6_14 none [] [0, 3, 4, 12, 13, 14])))
noncomputable def r6_16 : List TO := [.op (some 15) (.mv (.c (.int .i64 0)))]
noncomputable def r6_17 : List TO := [.op (some 68) (.mv (.t 15)),
  .op (some 69) (.mv (.t 13)),
  .op (some 70) (.lenS (.t 69)),
  .op (some 71) (.bin .lss (.t 68) (.t 70))]
noncomputable def r6_19 : List TO := [.op (some 75) (.mv (.t 0)),
  .op (some 76) (.mv (.t 13)),
  .op (some 77) (.mv (.t 15)),
  .op (some 78) (.ixs 3 (.t 76) (.t 77)),
  .op (some 79) (.ld (some 3) (.t 78)),
  .op (some 80) (.mv (.t 3)),
  .op (some 81) (.mv (.t 4)),
  .op (some 82) (.call 18 [(.t 75), (.t 79), (.t 80), (.t 81)]),
  .op (some 74) (.mv (.t 82)),
  .op (some 83) (.ext (.t 74) 0),
  .op (some 84) (.ext (.t 74) 1),
  .op (some 16) (.mv (.t 83)),
  .op (some 17) (.mv (.t 84))]
noncomputable def r6_20 : List TO := [.op (some 86) (.mv (.t 12)),
  .op (some 87) (.mv (.t 13)),
  .op (some 88) (.mv (.t 15)),
  .op (some 89) (.ixs 3 (.t 87) (.t 88)),
  .op (some 90) (.ld (some 3) (.t 89)),
  .op (some 91) (.mv (.t 3)),
  .op (some 92) (.mv (.t 4)),
  .op (some 93) (.call 18 [(.t 86), (.t 90), (.t 91), (.t 92)]),
  .op (some 85) (.mv (.t 93)),
  .op (some 94) (.ext (.t 85) 0),
  .op (some 95) (.ext (.t 85) 1),
  .op (some 18) (.mv (.t 94)),
  .op (some 19) (.mv (.t 95))]
noncomputable def r6_21 : List TO := [.op (some 96) (.mv (.t 16)),
  .op (some 97) (.mv (.t 18)),
  .op (some 98) (.bin .neq (.t 96) (.t 97)),
  .op (some 99) (.mv (.t 98)),
  .sc 103 99 false [.op (some 100) (.mv (.t 17)), .op (some 101) (.mv (.t 19)), .op (some 102) (.binB .neq (.t 100) (.t 101))] 102 true,
  .op (some 104) (.mv (.t 103)),
  .sc 121 104 false [.op (some 105) (.mv (.t 0)), .op (some 106) (.mv (.t 13)), .op (some 107) (.mv (.t 15)), .op (some 108) (.ixs 3 (.t 106) (.t 107)), .op (some 109) (.ld (some 3) (.t 108)), .op (some 110) (.mv (.t 4)), .op (some 111) (.call 21 [(.t 105), (.t 109), (.c (.int .i64 0)), (.c (.int .i64 40)), (.t 110)]), .op (some 112) (.mv (.t 12)), .op (some 113) (.mv (.t 13)), .op (some 114) (.mv (.t 15)), .op (some 115) (.ixs 3 (.t 113) (.t 114)), .op (some 116) (.ld (some 3) (.t 115)), .op (some 117) (.mv (.t 4)), .op (some 118) (.call 21 [(.t 112), (.t 116), (.c (.int .i64 0)), (.c (.int .i64 40)), (.t 117)]), .op (some 119) (.call 20 [(.t 111), (.t 118)]), .op (some 120) (.un .not (.t 119))] 120 true]
noncomputable def r6_22 : List TO := [.op (some 10) (.mv (.c (.bool false)))]
noncomputable def r6_18 : List TO := [.op (some 72) (.mv (.t 15)),
  .op (some 73) (.bin .add (.t 72) (.c (.int .i64 1))),
  .op (some 15) (.mv (.t 73))]
noncomputable def l6_2 : TF := (.seq (.seq (.reg 17 r6_17 none [] [0, 3, 4, 12, 13, 15, 71]) (.cond (.t 71) .skip (.exit 4))) (.seq (.block 5 (.seq (.reg 19 r6_19 none [] [0, 3, 4, 12, 13, 15, 16, 17]) (.seq (.reg 20 r6_20 none [] [0, 3, 4, 12, 13, 15, 16, 17, 18, 19]) (.seq (.reg 21 r6_21 (some [0, 0, 0, 0, 0, 0, 0, 0, 0, 0, 0, 0, 1, 1, 0, 1, 0, 0, 0, 1, 1, 0, 1, 1, 0, 0]) [] [0, 3, 4, 12, 13, 15, 121]) (.cond (.t 121) (.seq (.reg 22 r6_22 none [] [10]) .ret) .skip))))) (.reg 18 r6_18 none [] [0, 3, 4, 12, 13, 15])))
noncomputable def r6_23 : List TO := [.op (some 122) (.mv (.t 12)),
  .op (some 123) (.mv (.t 4)),
  .op (some 124) (.call 28 [(.t 122), (.t 123)]),
  .op (some 125) (.mv (.t 0)),
  .op (some 126) (.mv (.t 4)),
  .op (some 127) (.call 28 [(.t 125), (.t 126)]),
  .op (some 128) (.call 17 [(.t 124), (.t 127)]),
  .op (some 129) (.mv (.t 128)),
  .sc 137 129 true [.op (some 130) (.mv (.t 12)), .op (some 131) (.mv (.t 4)), .op (some 132) (.call 24 [(.t 130), (.c (.int .i64 0)), (.t 131)]), .op (some 133) (.mv (.t 0)), .op (some 134) (.mv (.t 4)), .op (some 135) (.call 24 [(.t 133), (.c (.int .i64 0)), (.t 134)]), .op (some 136) (.call 23 [(.t 132), (.t 135)])] 136 false,
  .op (some 10) (.mv (.t 137))]
noncomputable def b6 : TF := (.seq (.reg 0 r6_0 none [] [0, 1, 3, 4, 7]) (.seq (.seq (.reg 1 r6_1 none [] [0, 1, 3, 4, 7, 21]) (.cond (.t 21) (.seq (.reg 2 r6_2 none [] [10]) .ret) .skip)) (.seq (.seq (.reg 3 r6_3 none [] [0, 1, 3, 4, 7, 33]) (.cond (.t 33) (.seq (.reg 4 r6_4 none [] [10]) .ret) .skip)) (.seq (.seq (.reg 5 r6_5 none [] [0, 1, 3, 4, 7, 11]) (.block 0 (.loop l6_0))) (.seq (.reg 10 r6_10 none [] [0, 3, 4, 7, 12]) (.seq (.reg 11 r6_11 none [] [0, 3, 4, 12, 13]) (.seq (.seq (.reg 12 r6_12 none [] [0, 3, 4, 12, 13, 14]) (.block 2 (.loop l6_1))) (.seq (.seq (.reg 16 r6_16 none [] [0, 3, 4, 12, 13, 15]) (.block 4 (.loop l6_2))) (.seq (.reg 23 r6_23 none [] [10]) .ret)))))))))
noncomputable def r7_0 : List TO := [.op (some 6) (.box 24 (.t 1)),
  .op (some 10) (.mv (.c (.bool false)))]
noncomputable def r7_1 : List TO := [.op (some 18) (.call 11 []),
  .op (some 19) (.un .not (.t 18))]
noncomputable def r7_2 : List TO := [.op (some 10) (.mv (.c (.bool false)))]
noncomputable def r7_3 : List TO := [.op (some 20) (.mv (.t 0)),
  .op (some 21) (.call 12 [(.t 20)]),
  .op (some 22) (.un .not (.t 21)),
  .op (some 23) (.mv (.t 22)),
  .sc 27 23 false [.op (some 24) (.mv (.t 4)), .op (some 25) (.mv (.t 3)), .op (some 26) (.bin .lss (.t 24) (.t 25))] 26 true]
noncomputable def r7_4 : List TO := [.op (some 10) (.mv (.c (.bool true)))]
noncomputable def r7_5 : List TO := [.op (some 28) (.mv (.t 0)),
  .op (some 29) (.mv (.t 3)),
  .op (some 30) (.call 28 [(.t 28), (.t 29)]),
  .op (some 11) (.mv (.t 30))]
noncomputable def r7_6 : List TO := [.op (some 31) (.ld (some 3) (.t 6)),
  .op (some 32) (.x (.bsl 3 [(.int .i64 0), (.int .i64 0), (.int .i64 0)] 1 24 [0] true) [(.t 31)]),
  .op (some 12) (.mv (.t 32))]
noncomputable def r7_7 : List TO := [.op (some 33) (.mv (.t 0)),
  .op (some 34) (.lenS (.t 33)),
  .op (some 35) (.bin .gtr (.t 34) (.c (.int .i64 0)))]
noncomputable def r7_8 : List TO := [.op (some 36) (.mv (.t 12)),
  .op (some 37) (.mv (.t 0)),
  .op (some 38) (.ixs 8 (.t 37) (.c (.int .i64 0))),
  .op (some 39) (.fa 0 (.t 38)),
  .op (some 40) (.ld (some 3) (.t 39)),
  .op (some 41) (.mv (.t 0)),
  .op (some 42) (.mv (.t 0)),
  .op (some 43) (.lenS (.t 42)),
  .op (some 44) (.bin .quo (.t 43) (.c (.int .i64 2))),
  .op (some 45) (.ixs 8 (.t 41) (.t 44)),
  .op (some 46) (.fa 0 (.t 45)),
  .op (some 47) (.ld (some 3) (.t 46)),
  .op (some 48) (.x (.bsl 3 [(.int .i64 0), (.int .i64 0), (.int .i64 0)] 2 24 [0, 1] false) [(.t 40), (.t 47)]),
  .op (some 49) (.x (.app 3 24) [(.t 36), (.t 48)]),
  .op (some 12) (.mv (.t 49))]
noncomputable def r7_9 : List TO := [.op (some 13) (.mv (.c (.int .i64 0)))]
noncomputable def r7_10 : List TO := [.op (some 50) (.mv (.t 13)),
  .op (some 51) (.mv (.t 12)),
  .op (some 52) (.lenS (.t 51)),
  .op (some 53) (.bin .lss (.t 50) (.t 52))]
noncomputable def r7_12 : List TO := [.op (some 57) (.mv (.t 0)),
  .op (some 58) (.mv (.t 12)),
  .op (some 59) (.mv (.t 13)),
  .op (some 60) (.ixs 3 (.t 58) (.t 59)),
  .op (some 61) (.ld (some 3) (.t 60)),
  .op (some 62) (.mv (.t 2)),
  .op (some 63) (.mv (.t 3)),
  .op (some 64) (.call 18 [(.t 57), (.t 61), (.t 62), (.t 63)]),
  .op (some 56) (.mv (.t 64)),
  .op (some 65) (.ext (.t 56) 0),
  .op (some 66) (.ext (.t 56) 1),
  .op (some 14) (.mv (.t 65)),
  .op (some 15) (.mv (.t 66))]
noncomputable def r7_13 : List TO := [.op (some 68) (.mv (.t 11)),
  .op (some 69) (.mv (.t 12)),
  .op (some 70) (.mv (.t 13)),
  .op (some 71) (.ixs 3 (.t 69) (.t 70)),
  .op (some 72) (.ld (some 3) (.t 71)),
  .op (some 73) (.mv (.t 2)),
  .op (some 74) (.mv (.t 4)),
  .op (some 75) (.call 18 [(.t 68), (.t 72), (.t 73), (.t 74)]),
  .op (some 67) (.mv (.t 75)),
  .op (some 76) (.ext (.t 67) 0),
  .op (some 77) (.ext (.t 67) 1),
  .op (some 16) (.mv (.t 76)),
  .op (some 17) (.mv (.t 77))]
noncomputable def r7_14 : List TO := [.op (some 78) (.mv (.t 14)),
  .op (some 79) (.mv (.t 16)),
  .op (some 80) (.bin .neq (.t 78) (.t 79)),
  .op (some 81) (.mv (.t 80)),
  .sc 85 81 false [.op (some 82) (.mv (.t 15)), .op (some 83) (.mv (.t 17)), .op (some 84) (.binB .neq (.t 82) (.t 83))] 84 true]
noncomputable def r7_15 : List TO := [.op (some 10) (.mv (.c (.bool false)))]
noncomputable def r7_11 : List TO := [.op (some 54) (.mv (.t 13)),
  .op (some 55) (.bin .add (.t 54) (.c (.int .i64 1))),
  .op (some 13) (.mv (.t 55))]
noncomputable def l7_0 : TF := (.seq (.seq (.reg 10 r7_10 none [] [0, 2, 3, 4, 11, 12, 13, 53]) (.cond (.t 53) .skip (.exit 0))) (.seq (.block 1 (.seq (.reg 12 r7_12 none [] [0, 2, 3, 4, 11, 12, 13, 14, 15]) (.seq (.reg 13 r7_13 none [] [0, 2, 3, 4, 11, 12, 13, 14, 15, 16, 17]) (.seq (.reg 14 r7_14 none [] [0, 2, 3, 4, 11, 12, 13, 85]) (.cond (.t 85) (.seq (.reg 15 r7_15 none [] [10]) .ret) .skip))))) (.reg 11 r7_11 none [] [0, 2, 3, 4, 11, 12, 13])))
noncomputable def r7_16 : List TO := [.op (some 86) (.mv (.t 11)),
  .op (some 87) (.lenS (.t 86)),
  .op (some 88) (.mv (.t 0)),
  .op (some 89) (.lenS (.t 88)),
  .op (some 90) (.bin .leq (.t 87) (.t 89)),
  .op (some 10) (.mv (.t 90))]
noncomputable def b7 : TF := (.seq (.reg 0 r7_0 none [] [0, 2, 3, 4, 6]) (.seq (.seq (.reg 1 r7_1 none [] [0, 2, 3, 4, 6, 19]) (.cond (.t 19) (.seq (.reg 2 r7_2 none [] [10]) .ret) .skip)) (.seq (.seq (.reg 3 r7_3 none [] [0, 2, 3, 4, 6, 27]) (.cond (.t 27) (.seq (.reg 4 r7_4 none [] [10]) .ret) .skip)) (.seq (.reg 5 r7_5 none [] [0, 2, 3, 4, 6, 11]) (.seq (.reg 6 r7_6 none [] [0, 2, 3, 4, 11, 12]) (.seq (.seq (.reg 7 r7_7 none [] [0, 2, 3, 4, 11, 12, 35]) (.cond (.t 35) (.reg 8 r7_8 (some [0, 0, 1, 0, 1, 0, 0, 1, 0, 1, 0, 1, 1, 3, 0]) [] [0, 2, 3, 4, 11, 12]) .skip)) (.seq (.seq (.reg 9 r7_9 none [] [0, 2, 3, 4, 11, 12, 13]) (.block 0 (.loop l7_0))) (.seq (.reg 16 r7_16 none [] [10]) .ret))))))))
noncomputable def r8_0 : List TO := [.op (some 5) (.box 24 (.t 1)),
  .op (some 8) (.mv (.c (.bool false)))]
noncomputable def r8_1 : List TO := [.op (some 16) (.call 11 []),
  .op (some 17) (.un .not (.t 16))]
noncomputable def r8_2 : List TO := [.op (some 8) (.mv (.c (.bool false)))]
noncomputable def r8_3 : List TO := [.op (some 18) (.mv (.t 0)),
  .op (some 19) (.call 12 [(.t 18)]),
  .op (some 20) (.un .not (.t 19))]
noncomputable def r8_4 : List TO := [.op (some 8) (.mv (.c (.bool true)))]
noncomputable def r8_5 : List TO := [.op (some 21) (.mv (.t 0)),
  .op (some 22) (.lenS (.t 21)),
  .op (some 23) (.bin .gtr (.t 22) (.c (.int .i64 0)))]
noncomputable def r8_6 : List TO := [.op (some 24) (.mv (.t 0)),
  .op (some 25) (.fa 1 (.t 5)),
  .op (some 26) (.ld none (.t 25)),
  .op (some 27) (.bin .and (.t 26) (.c (.int .i64 31))),
  .op (some 28) (.mv (.t 0)),
  .op (some 29) (.lenS (.t 28)),
  .op (some 30) (.bin .rem (.t 27) (.t 29)),
  .op (some 31) (.ixs 8 (.t 24) (.t 30)),
  .op (some 32) (.fa 0 (.t 31)),
  .op (some 33) (.ld (some 3) (.t 32)),
  .op none (.st 3 24 (.tmp 5) (.tmp 33))]
noncomputable def r8_7 : List TO := [.op (some 35) (.mv (.t 0)),
  .op (some 36) (.ld (some 3) (.t 5)),
  .op (some 37) (.mv (.t 2)),
  .op (some 38) (.mv (.t 3)),
  .op (some 39) (.call 18 [(.t 35), (.t 36), (.t 37), (.t 38)]),
  .op (some 34) (.mv (.t 39)),
  .op (some 40) (.ext (.t 34) 0),
  .op (some 41) (.ext (.t 34) 1),
  .op (some 9) (.mv (.t 40)),
  .op (some 10) (.mv (.t 41))]
noncomputable def r8_8 : List TO := [.op (some 11) (.mv (.c (.bool false))),
  .op (some 12) (.mv (.c (.bool false)))]
noncomputable def r8_9 : List TO := [.op (some 13) (.mv (.c (.int .i64 0)))]
noncomputable def r8_10 : List TO := [.op (some 42) (.mv (.t 13)),
  .op (some 43) (.mv (.t 0)),
  .op (some 44) (.lenS (.t 43)),
  .op (some 45) (.bin .lss (.t 42) (.t 44))]
noncomputable def r8_12 : List TO := [.op (some 48) (.mv (.t 0)),
  .op (some 49) (.mv (.t 13)),
  .op (some 50) (.ixs 8 (.t 48) (.t 49)),
  .op (some 51) (.fa 0 (.t 50)),
  .op (some 52) (.ld (some 3) (.t 51)),
  .op (some 53) (.ld (some 3) (.t 5)),
  .op (some 54) (.eqs true [(.i .i64), (.i .i64), (.i .i64)] (.t 52) (.t 53)),
  .op (some 55) (.mv (.t 54)),
  .sc 64 55 false [.op (some 56) (.mv (.t 0)), .op (some 57) (.mv (.t 13)), .op (some 58) (.ixs 8 (.t 56) (.t 57)), .op (some 59) (.fa 4 (.t 58)), .op (some 60) (.fa 0 (.t 59)), .op (some 61) (.ld none (.t 60)), .op (some 62) (.mv (.t 2)), .op (some 63) (.bin .gtr (.t 61) (.t 62))] 63 true,
  .op (some 65) (.mv (.t 64)),
  .sc 74 65 false [.op (some 66) (.mv (.t 0)), .op (some 67) (.mv (.t 13)), .op (some 68) (.ixs 8 (.t 66) (.t 67)), .op (some 69) (.fa 4 (.t 68)), .op (some 70) (.fa 1 (.t 69)), .op (some 71) (.ld none (.t 70)), .op (some 72) (.mv (.t 2)), .op (some 73) (.bin .leq (.t 71) (.t 72))] 73 true,
  .op (some 75) (.mv (.t 74)),
  .sc 83 75 false [.op (some 76) (.mv (.t 0)), .op (some 77) (.mv (.t 13)), .op (some 78) (.ixs 8 (.t 76) (.t 77)), .op (some 79) (.fa 6 (.t 78)), .op (some 80) (.ld none (.t 79)), .op (some 81) (.mv (.t 3)), .op (some 82) (.bin .gtr (.t 80) (.t 81))] 82 true]
noncomputable def r8_13 : List TO := [.op (some 14) (.mv (.c (.bool true)))]
noncomputable def r8_14 : List TO := [.op (some 15) (.mv (.c (.int .i64 0)))]
noncomputable def r8_15 : List TO := [.op (some 84) (.mv (.t 15)),
  .op (some 85) (.mv (.t 0)),
  .op (some 86) (.lenS (.t 85)),
  .op (some 87) (.bin .lss (.t 84) (.t 86))]
noncomputable def r8_17 : List TO := [.op (some 90) (.mv (.t 0)),
  .op (some 91) (.mv (.t 15)),
  .op (some 92) (.ixs 8 (.t 90) (.t 91)),
  .op (some 93) (.fa 0 (.t 92)),
  .op (some 94) (.ld (some 3) (.t 93)),
  .op (some 95) (.ld (some 3) (.t 5)),
  .op (some 96) (.eqs false [(.i .i64), (.i .i64), (.i .i64)] (.t 94) (.t 95)),
  .op (some 97) (.mv (.t 96)),
  .sc 106 97 true [.op (some 98) (.mv (.t 0)), .op (some 99) (.mv (.t 15)), .op (some 100) (.ixs 8 (.t 98) (.t 99)), .op (some 101) (.fa 4 (.t 100)), .op (some 102) (.fa 0 (.t 101)), .op (some 103) (.ld none (.t 102)), .op (some 104) (.mv (.t 2)), .op (some 105) (.bin .leq (.t 103) (.t 104))] 105 false,
  .op (some 107) (.mv (.t 106)),
  .sc 116 107 true [.op (some 108) (.mv (.t 2)), .op (some 109) (.mv (.t 0)), .op (some 110) (.mv (.t 15)), .op (some 111) (.ixs 8 (.t 109) (.t 110)), .op (some 112) (.fa 4 (.t 111)), .op (some 113) (.fa 1 (.t 112)), .op (some 114) (.ld none (.t 113)), .op (some 115) (.bin .lss (.t 108) (.t 114))] 115 false,
  .op (some 117) (.mv (.t 116)),
  .sc 125 117 true [.op (some 118) (.mv (.t 0)), .op (some 119) (.mv (.t 15)), .op (some 120) (.ixs 8 (.t 118) (.t 119)), .op (some 121) (.fa 6 (.t 120)), .op (some 122) (.ld none (.t 121)), .op (some 123) (.mv (.t 3)), .op (some 124) (.bin .leq (.t 122) (.t 123))] 124 false,
  .op (some 126) (.mv (.t 125)),
  .sc 153 126 true [.op (some 127) (.mv (.t 0)), .op (some 128) (.mv (.t 13)), .op (some 129) (.ixs 8 (.t 127) (.t 128)), .op (some 130) (.ld (some 8) (.t 129)), .op (some 131) (.mv (.t 0)), .op (some 132) (.mv (.t 15)), .op (some 133) (.ixs 8 (.t 131) (.t 132)), .op (some 134) (.ld (some 8) (.t 133)), .op (some 135) (.call 30 [(.t 130), (.t 134)]), .op (some 136) (.mv (.t 135)), .sc 152 136 false [.op (some 137) (.mv (.t 15)), .op (some 138) (.mv (.t 13)), .op (some 139) (.bin .gtr (.t 137) (.t 138)), .op (some 140) (.mv (.t 139)), .sc 151 140 true [.op (some 141) (.mv (.t 0)), .op (some 142) (.mv (.t 15)), .op (some 143) (.ixs 8 (.t 141) (.t 142)), .op (some 144) (.ld (some 8) (.t 143)), .op (some 145) (.mv (.t 0)), .op (some 146) (.mv (.t 13)), .op (some 147) (.ixs 8 (.t 145) (.t 146)), .op (some 148) (.ld (some 8) (.t 147)), .op (some 149) (.call 30 [(.t 144), (.t 148)]), .op (some 150) (.un .not (.t 149))] 150 false] 151 true] 152 false]
noncomputable def r8_18 : List TO := [.op (some 14) (.mv (.c (.bool false)))]
noncomputable def r8_16 : List TO := [.op (some 88) (.mv (.t 15)),
  .op (some 89) (.bin .add (.t 88) (.c (.int .i64 1))),
  .op (some 15) (.mv (.t 89))]
noncomputable def l8_0 : TF := (.seq (.seq (.reg 15 r8_15 none [] [0, 2, 3, 5, 9, 10, 11, 13, 14, 15, 87]) (.cond (.t 87) .skip (.exit 2))) (.seq (.block 3 (.seq (.reg 17 r8_17 (some [0, 0, 1, 0, 1, 1, 0, 0, 0, 0, 1, 0, 0, 1, 0, 0, 0, 0, 0, 0, 0, 1, 0, 0, 1, 0, 0, 0, 0, 0, 1, 0, 1, 0, 0, 0, 0, 0, 0, 1, 1, 0, 0, 1, 1, 1, 0, 0, 0, 0, 0, 0, 0, 1, 1, 0, 0, 1, 1, 1, 0, 0, 0, 0]) [] [0, 2, 3, 5, 9, 10, 11, 13, 14, 15, 153]) (.cond (.t 153) (.reg 18 r8_18 none [] [0, 2, 3, 5, 9, 10, 11, 13, 14, 15]) .skip))) (.reg 16 r8_16 none [] [0, 2, 3, 5, 9, 10, 11, 13, 14, 15])))
noncomputable def r8_19 : List TO := [.op (some 12) (.mv (.c (.bool true)))]
noncomputable def r8_20 : List TO := [.op (some 154) (.mv (.t 14))]
noncomputable def r8_21 : List TO := [.op (some 11) (.mv (.c (.bool true)))]
noncomputable def r8_22 : List TO := [.op (some 155) (.mv (.t 10)),
  .op (some 156) (.mv (.t 0)),
  .op (some 157) (.mv (.t 13)),
  .op (some 158) (.ixs 8 (.t 156) (.t 157)),
  .op (some 159) (.fa 3 (.t 158)),
  .op (some 160) (.ld none (.t 159)),
  .op (some 161) (.bin .geq (.t 160) (.c (.int .i64 0))),
  .op (some 162) (.binB .neq (.t 155) (.t 161)),
  .op (some 163) (.mv (.t 162)),
  .sc 174 163 false [.op (some 164) (.mv (.t 10)), .op (some 165) (.mv (.t 164)), .sc 173 165 true [.op (some 166) (.mv (.t 9)), .op (some 167) (.mv (.t 0)), .op (some 168) (.mv (.t 13)), .op (some 169) (.ixs 8 (.t 167) (.t 168)), .op (some 170) (.fa 3 (.t 169)), .op (some 171) (.ld none (.t 170)), .op (some 172) (.bin .neq (.t 166) (.t 171))] 172 false] 173 true]
noncomputable def r8_23 : List TO := [.op (some 8) (.mv (.c (.bool false)))]
noncomputable def r8_11 : List TO := [.op (some 46) (.mv (.t 13)),
  .op (some 47) (.bin .add (.t 46) (.c (.int .i64 1))),
  .op (some 13) (.mv (.t 47))]
noncomputable def l8_1 : TF := (.seq (.seq (.reg 10 r8_10 none [] [0, 2, 3, 5, 9, 10, 11, 12, 13, 45]) (.cond (.t 45) .skip (.exit 0))) (.seq (.block 1 (.seq (.seq (.reg 12 r8_12 (some [0, 0, 1, 0, 1, 1, 0, 0, 0, 0, 1, 0, 0, 1, 0, 0, 0, 0, 0, 0, 1, 0, 0, 1, 0, 0, 0, 0, 0, 0, 1, 0, 1, 0, 0, 0]) [] [0, 2, 3, 5, 9, 10, 11, 12, 13, 83]) (.cond (.t 83) (.exit 1) .skip)) (.seq (.reg 13 r8_13 none [] [0, 2, 3, 5, 9, 10, 11, 13, 14]) (.seq (.seq (.reg 14 r8_14 none [] [0, 2, 3, 5, 9, 10, 11, 13, 14, 15]) (.block 2 (.loop l8_0))) (.seq (.reg 19 r8_19 none [] [0, 2, 3, 5, 9, 10, 11, 12, 13, 14]) (.seq (.reg 20 r8_20 none [] [0, 2, 3, 5, 9, 10, 11, 12, 13, 154]) (.cond (.t 154) (.seq (.reg 21 r8_21 none [] [0, 2, 3, 5, 9, 10, 11, 12, 13]) (.seq (.reg 22 r8_22 none [] [0, 2, 3, 5, 9, 10, 11, 12, 13, 174]) (.cond (.t 174) (.seq (.reg 23 r8_23 none [] [8]) .ret) .skip))) .skip))))))) (.reg 11 r8_11 none [] [0, 2, 3, 5, 9, 10, 11, 12, 13])))
noncomputable def r8_24 : List TO := [.op (some 175) (.mv (.t 11)),
  .op (some 176) (.mv (.t 12)),
  .op (some 177) (.binB .eql (.t 175) (.t 176)),
  .op (some 178) (.mv (.t 177)),
  .sc 184 178 true [.op (some 179) (.mv (.t 12)), .op (some 180) (.mv (.t 179)), .sc 183 180 false [.op (some 181) (.mv (.t 10)), .op (some 182) (.un .not (.t 181))] 182 true] 183 false,
  .op (some 185) (.mv (.t 184)),
  .sc 191 185 true [.op (some 186) (.mv (.t 10)), .op (some 187) (.mv (.t 186)), .sc 190 187 false [.op (some 188) (.mv (.t 9)), .op (some 189) (.bin .eql (.t 188) (.c (.int .i64 0)))] 189 true] 190 false,
  .op (some 8) (.mv (.t 191))]
noncomputable def b8 : TF := (.seq (.reg 0 r8_0 none [] [0, 2, 3, 5]) (.seq (.seq (.reg 1 r8_1 none [] [0, 2, 3, 5, 17]) (.cond (.t 17) (.seq (.reg 2 r8_2 none [] [8]) .ret) .skip)) (.seq (.seq (.reg 3 r8_3 none [] [0, 2, 3, 5, 20]) (.cond (.t 20) (.seq (.reg 4 r8_4 none [] [8]) .ret) .skip)) (.seq (.seq (.reg 5 r8_5 none [] [0, 2, 3, 5, 23]) (.cond (.t 23) (.reg 6 r8_6 none [] [0, 2, 3, 5]) .skip)) (.seq (.reg 7 r8_7 none [] [0, 2, 3, 5, 9, 10]) (.seq (.reg 8 r8_8 none [] [0, 2, 3, 5, 9, 10, 11, 12]) (.seq (.seq (.reg 9 r8_9 none [] [0, 2, 3, 5, 9, 10, 11, 12, 13]) (.block 0 (.loop l8_1))) (.seq (.reg 24 r8_24 none [] [8]) .ret))))))))
noncomputable def r9_0 : List TO := [.op (some 5) (.box 54 (.t 1)),
  .op (some 8) (.mv (.c (.bool false)))]
noncomputable def r9_1 : List TO := [.op (some 18) (.call 11 []),
  .op (some 19) (.un .not (.t 18))]
noncomputable def r9_2 : List TO := [.op (some 8) (.mv (.c (.bool false)))]
noncomputable def r9_3 : List TO := [.op (some 20) (.mv (.t 0)),
  .op (some 21) (.lenS (.t 20)),
  .op (some 22) (.bin .gtr (.t 21) (.c (.int .i64 10)))]
noncomputable def r9_4 : List TO := [.op (some 8) (.mv (.c (.bool true)))]
noncomputable def r9_5 : List TO := [.op (some 23) (.mv (.t 0)),
  .op (some 24) (.mv (.t 2)),
  .op (some 25) (.mv (.t 3)),
  .op (some 26) (.call 24 [(.t 23), (.t 24), (.t 25)]),
  .op (some 9) (.mv (.t 26))]
noncomputable def r9_6 : List TO := [.op (some 10) (.mv (.c (.bool false)))]
noncomputable def r9_7 : List TO := [.op (some 11) (.mv (.c (.int .i64 0)))]
noncomputable def r9_8 : List TO := [.op (some 27) (.mv (.t 11)),
  .op (some 28) (.mv (.t 9)),
  .op (some 29) (.lenS (.t 28)),
  .op (some 30) (.bin .lss (.t 27) (.t 29))]
noncomputable def r9_10 : List TO := [.op (some 12) (.mv (.c (.int .i64 0)))]
noncomputable def r9_11 : List TO := [.op (some 33) (.mv (.t 12)),
  .op (some 34) (.mv (.t 9)),
  .op (some 35) (.mv (.t 11)),
  .op (some 36) (.ixs 4 (.t 34) (.t 35)),
  .op (some 37) (.fa 3 (.t 36)),
  .op (some 38) (.ld none (.t 37)),
  .op (some 39) (.lenS (.t 38)),
  .op (some 40) (.bin .lss (.t 33) (.t 39))]
noncomputable def r9_13 : List TO := [.op (some 43) (.mv (.t 9)),
  .op (some 44) (.mv (.t 11)),
  .op (some 45) (.ixs 4 (.t 43) (.t 44)),
  .op (some 46) (.fa 3 (.t 45)),
  .op (some 47) (.ld none (.t 46)),
  .op (some 48) (.mv (.t 12)),
  .op (some 49) (.ixs 2 (.t 47) (.t 48)),
  .op (some 50) (.ld (some 2) (.t 49)),
  .op (some 13) (.new [(.int .i64 0), (.int .i64 0)] 26),
  .op none (.st 2 26 (.tmp 13) (.tmp 50))]
noncomputable def r9_14 : List TO := [.op (some 51) (.fa 0 (.t 13)),
  .op (some 52) (.ld none (.t 51)),
  .op (some 53) (.fa 1 (.t 13)),
  .op (some 54) (.ld none (.t 53)),
  .op (some 55) (.bin .geq (.t 52) (.t 54)),
  .op (some 56) (.mv (.t 55)),
  .sc 60 56 false [.op (some 57) (.fa 0 (.t 13)), .op (some 58) (.ld none (.t 57)), .op (some 59) (.bin .lss (.t 58) (.c (.int .i64 0)))] 59 true,
  .op (some 61) (.mv (.t 60)),
  .sc 65 61 false [.op (some 62) (.fa 1 (.t 13)), .op (some 63) (.ld none (.t 62)), .op (some 64) (.bin .gtr (.t 63) (.c (.int .i64 1024)))] 64 true,
  .op (some 66) (.mv (.t 65)),
  .sc 84 66 false [.op (some 67) (.mv (.t 12)), .op (some 68) (.bin .gtr (.t 67) (.c (.int .i64 0))), .op (some 69) (.mv (.t 68)), .sc 83 69 true [.op (some 70) (.mv (.t 9)), .op (some 71) (.mv (.t 11)), .op (some 72) (.ixs 4 (.t 70) (.t 71)), .op (some 73) (.fa 3 (.t 72)), .op (some 74) (.ld none (.t 73)), .op (some 75) (.mv (.t 12)), .op (some 76) (.bin .sub (.t 75) (.c (.int .i64 1))), .op (some 77) (.ixs 2 (.t 74) (.t 76)), .op (some 78) (.fa 1 (.t 77)), .op (some 79) (.ld none (.t 78)), .op (some 80) (.fa 0 (.t 13)), .op (some 81) (.ld none (.t 80)), .op (some 82) (.bin .geq (.t 79) (.t 81))] 82 false] 83 true]
noncomputable def r9_15 : List TO := [.op (some 8) (.mv (.c (.bool false)))]
noncomputable def r9_16 : List TO := [.op (some 86) (.mv (.t 0)),
  .op (some 87) (.mv (.t 9)),
  .op (some 88) (.mv (.t 11)),
  .op (some 89) (.ixs 4 (.t 87) (.t 88)),
  .op (some 90) (.fa 0 (.t 89)),
  .op (some 91) (.ld (some 3) (.t 90)),
  .op (some 92) (.fa 0 (.t 13)),
  .op (some 93) (.ld none (.t 92)),
  .op (some 94) (.mv (.t 2)),
  .op (some 95) (.call 18 [(.t 86), (.t 91), (.t 93), (.t 94)]),
  .op (some 85) (.mv (.t 95)),
  .op (some 96) (.ext (.t 85) 0),
  .op (some 97) (.ext (.t 85) 1),
  .op (some 14) (.mv (.t 96)),
  .op (some 15) (.mv (.t 97))]
noncomputable def r9_17 : List TO := [.op (some 99) (.mv (.t 0)),
  .op (some 100) (.mv (.t 9)),
  .op (some 101) (.mv (.t 11)),
  .op (some 102) (.ixs 4 (.t 100) (.t 101)),
  .op (some 103) (.fa 0 (.t 102)),
  .op (some 104) (.ld (some 3) (.t 103)),
  .op (some 105) (.fa 0 (.t 13)),
  .op (some 106) (.ld none (.t 105)),
  .op (some 107) (.mv (.t 3)),
  .op (some 108) (.call 18 [(.t 99), (.t 104), (.t 106), (.t 107)]),
  .op (some 98) (.mv (.t 108)),
  .op (some 109) (.ext (.t 98) 0),
  .op (some 110) (.ext (.t 98) 1),
  .op (some 16) (.mv (.t 109)),
  .op (some 17) (.mv (.t 110))]
noncomputable def r9_18 : List TO := [.op (some 111) (.mv (.t 15)),
  .op (some 112) (.mv (.t 17)),
  .op (some 113) (.binB .eql (.t 111) (.t 112)),
  .op (some 114) (.mv (.t 113)),
  .sc 118 114 true [.op (some 115) (.mv (.t 14)), .op (some 116) (.mv (.t 16)), .op (some 117) (.bin .eql (.t 115) (.t 116))] 117 false]
noncomputable def r9_19 : List TO := [.op (some 8) (.mv (.c (.bool false)))]
noncomputable def r9_20 : List TO := [.op (some 119) (.mv (.t 9)),
  .op (some 120) (.mv (.t 11)),
  .op (some 121) (.ixs 4 (.t 119) (.t 120)),
  .op (some 122) (.fa 0 (.t 121)),
  .op (some 123) (.ld (some 3) (.t 122)),
  .op (some 124) (.fa 0 (.t 5)),
  .op (some 125) (.ld (some 3) (.t 124)),
  .op (some 126) (.eqs false [(.i .i64), (.i .i64), (.i .i64)] (.t 123) (.t 125)),
  .op (some 127) (.mv (.t 126)),
  .sc 139 127 true [.op (some 128) (.fa 3 (.t 5)), .op (some 129) (.ld none (.t 128)), .op (some 130) (.fa 0 (.t 13)), .op (some 131) (.ld none (.t 130)), .op (some 132) (.mx (.t 129) [(.t 131)]), .op (some 133) (.fa 4 (.t 5)), .op (some 134) (.ld none (.t 133)), .op (some 135) (.fa 1 (.t 13)), .op (some 136) (.ld none (.t 135)), .op (some 137) (.mn (.t 134) [(.t 136)]), .op (some 138) (.bin .lss (.t 132) (.t 137))] 138 false]
noncomputable def r9_21 : List TO := [.op (some 10) (.mv (.c (.bool true)))]
noncomputable def r9_12 : List TO := [.op (some 41) (.mv (.t 12)),
  .op (some 42) (.bin .add (.t 41) (.c (.int .i64 1))),
  .op (some 12) (.mv (.t 42))]
noncomputable def l9_0 : TF := (.seq (.seq (.reg 11 r9_11 none [] [0, 2, 3, 5, 9, 10, 11, 12, 40]) (.cond (.t 40) .skip (.exit 2))) (.seq (.block 3 (.seq (.reg 13 r9_13 none [] [0, 2, 3, 5, 9, 10, 11, 12, 13]) (.seq (.seq (.reg 14 r9_14 (some [0, 1, 0, 1, 0, 0, 0, 1, 0, 0, 0, 0, 1, 0, 0, 0, 0, 0, 0, 0, 0, 1, 0, 1, 0, 0, 1, 0, 1, 0, 1, 0, 0, 0]) [] [0, 2, 3, 5, 9, 10, 11, 12, 13, 84]) (.cond (.t 84) (.seq (.reg 15 r9_15 none [] [8]) .ret) .skip)) (.seq (.reg 16 r9_16 (some [0, 0, 0, 1, 0, 1, 0, 1, 0, 1, 0, 0, 0, 0, 0]) [] [0, 2, 3, 5, 9, 10, 11, 12, 13, 14, 15]) (.seq (.reg 17 r9_17 (some [0, 0, 0, 1, 0, 1, 0, 1, 0, 1, 0, 0, 0, 0, 0]) [] [0, 2, 3, 5, 9, 10, 11, 12, 13, 14, 15, 16, 17]) (.seq (.seq (.reg 18 r9_18 none [] [0, 2, 3, 5, 9, 10, 11, 12, 13, 118]) (.cond (.t 118) (.seq (.reg 19 r9_19 none [] [8]) .ret) .skip)) (.seq (.reg 20 r9_20 (some [0, 0, 1, 0, 1, 0, 1, 0, 0, 0, 1, 0, 1, 1, 0, 1, 0, 1, 1, 0, 0]) [] [0, 2, 3, 5, 9, 10, 11, 12, 139]) (.cond (.t 139) (.reg 21 r9_21 none [] [0, 2, 3, 5, 9, 10, 11, 12]) .skip)))))))) (.reg 12 r9_12 none [] [0, 2, 3, 5, 9, 10, 11, 12])))
noncomputable def r9_9 : List TO := [.op (some 31) (.mv (.t 11)),
  .op (some 32) (.bin .add (.t 31) (.c (.int .i64 1))),
  .op (some 11) (.mv (.t 32))]
noncomputable def l9_1 : TF := (.seq (.seq (.reg 8 r9_8 none [] [0, 2, 3, 5, 9, 10, 11, 30]) (.cond (.t 30) .skip (.exit 0))) (.seq (.block 1 (.seq (.reg 10 r9_10 none [] [0, 2, 3, 5, 9, 10, 11, 12]) (.block 2 (.loop l9_0)))) (.reg 9 r9_9 none [] [0, 2, 3, 5, 9, 10, 11])))
noncomputable def r9_22 : List TO := [.op (some 140) (.mv (.t 0)),
  .op (some 141) (.ld (some 5) (.t 5)),
  .op (some 142) (.x (.bsl 5 [(.int .i64 0), (.int .i64 0), (.int .i64 0), (.int .i64 0), (.int .i64 0)] 1 54 [0] false) [(.t 141)]),
  .op (some 143) (.mv (.t 2)),
  .op (some 144) (.mv (.t 3)),
  .op (some 145) (.call 26 [(.t 140), (.t 142), (.t 143), (.t 144)]),
  .op (some 146) (.mv (.t 10)),
  .op (some 147) (.un .not (.t 146)),
  .op (some 148) (.binB .eql (.t 145) (.t 147)),
  .op (some 8) (.mv (.t 148))]
noncomputable def b9 : TF := (.seq (.reg 0 r9_0 none [] [0, 2, 3, 5]) (.seq (.seq (.reg 1 r9_1 none [] [0, 2, 3, 5, 19]) (.cond (.t 19) (.seq (.reg 2 r9_2 none [] [8]) .ret) .skip)) (.seq (.seq (.reg 3 r9_3 none [] [0, 2, 3, 5, 22]) (.cond (.t 22) (.seq (.reg 4 r9_4 none [] [8]) .ret) .skip)) (.seq (.reg 5 r9_5 none [] [0, 2, 3, 5, 9]) (.seq (.reg 6 r9_6 none [] [0, 2, 3, 5, 9, 10]) (.seq (.seq (.reg 7 r9_7 none [] [0, 2, 3, 5, 9, 10, 11]) (.block 0 (.loop l9_1))) (.seq (.reg 22 r9_22 none [] [8]) .ret)))))))
theorem ok9 : FnOK K 9 4 b9 [.tmp 8] :=
  FnOK.of (fn := Go.Proofs.Try.f9) (ov := fun _ => none) (lv := lvOfT annL 9) (L := [0, 1, 2, 3, 8, 5, 9, 10, 11, 12, 139, 13, 118, 14, 15, 16, 17, 84, 40, 30, 22, 19]) Go.Proofs.Try.func9 (by kernel_rfl) (by kernel_rfl) (by kernel_rfl) (by kernel_rfl) (by kernel_rfl) (by kernel_rfl)
noncomputable def r11_0 : List TO := [.op (some 0) (.mv (.c (.bool false)))]
noncomputable def r11_1 : List TO := [.op (some 16) (.call 31 [(.c (.int .i64 7)), (.c (.int .i64 2)), (.c (.int .i64 6)), (.c (.int .i64 10)), (.c (.int .i64 0))]),
  .op (some 17) (.call 31 [(.c (.int .i64 (-1))), (.c (.int .i64 3)), (.c (.int .i64 4)), (.c (.int .i64 20)), (.c (.int .i64 0))]),
  .op (some 18) (.x (.bsl 8 (List.replicate 8 (.int .i64 0)) 2 28 [0, 1] false) [(.t 16), (.t 17)]),
  .op (some 1) (.mv (.t 18))]
noncomputable def r11_2 : List TO := [.op (some 19) (.mv (.t 1)),
  .op (some 20) (.ixs 8 (.t 19) (.c (.int .i64 0))),
  .op (some 21) (.fa 0 (.t 20)),
  .op (some 22) (.ld (some 3) (.t 21)),
  .op (some 2) (.new [(.int .i64 0), (.int .i64 0), (.int .i64 0)] 24),
  .op none (.st 3 24 (.tmp 2) (.tmp 22))]
noncomputable def r11_3 : List TO := [.op (some 24) (.mv (.t 1)),
  .op (some 25) (.ld (some 3) (.t 2)),
  .op (some 26) (.call 18 [(.t 24), (.t 25), (.c (.int .i64 3)), (.c (.int .i64 15))]),
  .op (some 23) (.mv (.t 26)),
  .op (some 27) (.ext (.t 23) 0),
  .op (some 28) (.ext (.t 23) 1),
  .op (some 3) (.mv (.t 27)),
  .op (some 4) (.mv (.t 28))]
noncomputable def r11_4 : List TO := [.op (some 30) (.mv (.t 1)),
  .op (some 31) (.ld (some 3) (.t 2)),
  .op (some 32) (.call 18 [(.t 30), (.t 31), (.c (.int .i64 3)), (.c (.int .i64 20))]),
  .op (some 29) (.mv (.t 32)),
  .op (some 33) (.ext (.t 29) 0),
  .op (some 34) (.ext (.t 29) 1),
  .op (some 5) (.mv (.t 33)),
  .op (some 6) (.mv (.t 34))]
noncomputable def r11_5 : List TO := [.op (some 36) (.mv (.t 1)),
  .op (some 37) (.ld (some 3) (.t 2)),
  .op (some 38) (.call 18 [(.t 36), (.t 37), (.c (.int .i64 2)), (.c (.int .i64 20))]),
  .op (some 35) (.mv (.t 38)),
  .op (some 39) (.ext (.t 35) 0),
  .op (some 40) (.ext (.t 35) 1),
  .op (some 7) (.mv (.t 39)),
  .op (some 8) (.mv (.t 40))]
noncomputable def r11_6 : List TO := [.op (some 42) (.ld (some 3) (.t 2)),
  .op (some 43) (.call 18 [(.c (.sl 0 (some true) true [])), (.t 42), (.c (.int .i64 0)), (.c (.int .i64 0))]),
  .op (some 41) (.mv (.t 43)),
  .op (some 44) (.ext (.t 41) 0),
  .op (some 45) (.ext (.t 41) 1),
  .op (some 9) (.mv (.t 44)),
  .op (some 10) (.mv (.t 45))]
noncomputable def r11_7 : List TO := [.op (some 47) (.mv (.t 1)),
  .op (some 48) (.slc 8 (.t 47) none (some (.c (.int .i64 1))) none),
  .op (some 49) (.mv (.t 1)),
  .op (some 50) (.ixs 8 (.t 49) (.c (.int .i64 1))),
  .op (some 51) (.ld (some 8) (.t 50)),
  .op (some 52) (.call 13 [(.t 48), (.t 51)]),
  .op (some 46) (.mv (.t 52)),
  .op (some 53) (.ext (.t 46) 0),
  .op (some 54) (.ext (.t 46) 1),
  .op (some 11) (.mv (.t 53)),
  .op (some 12) (.mv (.t 54))]
noncomputable def r11_8 : List TO := [.op (some 56) (.mv (.t 1)),
  .op (some 57) (.call 31 [(.c (.int .i64 7)), (.c (.int .i64 2)), (.c (.int .i64 6)), (.c (.int .i64 20)), (.c (.int .i64 0))]),
  .op (some 58) (.call 13 [(.t 56), (.t 57)]),
  .op (some 55) (.mv (.t 58)),
  .op (some 59) (.ext (.t 55) 0),
  .op (some 60) (.ext (.t 55) 1),
  .op (some 13) (.mv (.t 59)),
  .op (some 14) (.mv (.t 60))]
noncomputable def r11_9 : List TO := [.op (some 61) (.mv (.t 1)),
  .op (some 62) (.call 24 [(.t 61), (.c (.int .i64 15)), (.c (.int .i64 20))]),
  .op (some 15) (.mv (.t 62))]
noncomputable def r11_10 : List TO := [.op (some 63) (.mv (.t 12)),
  .op (some 64) (.bin .neq (.t 63) (.c (.int .i64 0))),
  .op (some 65) (.mv (.t 64)),
  .sc 68 65 false [.op (some 66) (.mv (.t 14)), .op (some 67) (.bin .neq (.t 66) (.c (.int .i64 41)))] 67 true,
  .op (some 69) (.mv (.t 68)),
  .scg 74 69 false [.op (some 70) (.bld (List.replicate 8 (.int .i64 0)) []), .op (some 71) (.x (.bsl 8 (List.replicate 8 (.int .i64 0)) 1 28 [0] false) [(.t 70)]), .op (some 72) (.call 15 [(.t 71)]), .op (some 73) (.bin .neq (.t 72) (.c (.int .i64 40)))] 73 true,
  .op (some 75) (.mv (.t 74)),
  .sc 79 75 false [.op (some 76) (.mv (.t 1)), .op (some 77) (.call 15 [(.t 76)]), .op (some 78) (.bin .neq (.t 77) (.c (.int .i64 0)))] 78 true,
  .op (some 80) (.mv (.t 79)),
  .sc 86 80 false [.op (some 81) (.mv (.t 1)), .op (some 82) (.ld (some 3) (.t 2)), .op (some 83) (.call 21 [(.t 81), (.t 82), (.c (.int .i64 5)), (.c (.int .i64 5)), (.c (.int .i64 20))]), .op (some 84) (.lenS (.t 83)), .op (some 85) (.bin .neq (.t 84) (.c (.int .i64 0)))] 85 true]
noncomputable def r11_11 : List TO := [.op (some 0) (.mv (.c (.bool false)))]
noncomputable def r11_12 : List TO := [.op (some 87) (.mv (.t 3)),
  .op (some 88) (.bin .eql (.t 87) (.c (.int .i64 7))),
  .op (some 89) (.mv (.t 88)),
  .sc 91 89 true [.op (some 90) (.mv (.t 4))] 90 false,
  .op (some 92) (.mv (.t 91)),
  .sc 95 92 true [.op (some 93) (.mv (.t 6)), .op (some 94) (.un .not (.t 93))] 94 false,
  .op (some 96) (.mv (.t 95)),
  .sc 99 96 true [.op (some 97) (.mv (.t 7)), .op (some 98) (.bin .eql (.t 97) (.c (.int .i64 7)))] 98 false,
  .op (some 100) (.mv (.t 99)),
  .sc 102 100 true [.op (some 101) (.mv (.t 8))] 101 false,
  .op (some 103) (.mv (.t 102)),
  .sc 106 103 true [.op (some 104) (.mv (.t 10)), .op (some 105) (.un .not (.t 104))] 105 false,
  .op (some 107) (.mv (.t 106)),
  .sc 111 107 true [.op (some 108) (.mv (.t 11)), .op (some 109) (.mv (.t 1)), .op (some 110) (.call 17 [(.t 108), (.t 109)])] 110 false,
  .op (some 112) (.mv (.t 111)),
  .scg 120 112 true [.op (some 113) (.mv (.t 15)), .op (some 114) (.ld (some 3) (.t 2)), .op (some 115) (.bld [(.int .i64 0), (.int .i64 0)] [(0, 1, (.c (.int .i64 3))), (1, 1, (.c (.int .i64 4)))]), .op (some 116) (.x (.bsl 2 [(.int .i64 0), (.int .i64 0)] 1 26 [0] false) [(.t 115)]), .op (some 117) (.bld [(.int .i64 0), (.int .i64 0), (.int .i64 0), (.sl 0 (some true) true [])] [(0, 3, (.t 114)), (3, 1, (.t 116))]), .op (some 118) (.x (.bsl 4 [(.int .i64 0), (.int .i64 0), (.int .i64 0), (.sl 0 (some true) true [])] 1 57 [0] false) [(.t 117)]), .op (some 119) (.call 23 [(.t 113), (.t 118)])] 119 false,
  .op (some 121) (.mv (.t 120)),
  .sc 124 121 true [.op (some 122) (.mv (.t 1)), .op (some 123) (.call 26 [(.t 122), (.c (.sl 0 (some true) true [])), (.c (.int .i64 1)), (.c (.int .i64 2))])] 123 false,
  .op (some 125) (.mv (.t 124)),
  .scg 132 125 true [.op (some 126) (.mv (.t 1)), .op (some 127) (.ld (some 3) (.t 2)), .op (some 128) (.bld [(.int .i64 0), (.int .i64 0), (.int .i64 0), (.int .i64 0), (.int .i64 0)] [(0, 3, (.t 127)), (4, 1, (.c (.int .i64 9)))]), .op (some 129) (.x (.bsl 5 [(.int .i64 0), (.int .i64 0), (.int .i64 0), (.int .i64 0), (.int .i64 0)] 1 54 [0] false) [(.t 128)]), .op (some 130) (.call 26 [(.t 126), (.t 129), (.c (.int .i64 15)), (.c (.int .i64 20))]), .op (some 131) (.un .not (.t 130))] 131 false,
  .op (some 133) (.mv (.t 132)),
  .sc 139 133 true [.op (some 134) (.mv (.t 1)), .op (some 135) (.ld (some 3) (.t 2)), .op (some 136) (.call 21 [(.t 134), (.t 135), (.c (.int .i64 0)), (.c (.int .i64 9)), (.c (.int .i64 20))]), .op (some 137) (.lenS (.t 136)), .op (some 138) (.bin .eql (.t 137) (.c (.int .i64 3)))] 138 false,
  .op (some 140) (.mv (.t 139)),
  .sc 146 140 true [.op (some 141) (.mv (.t 1)), .op (some 142) (.call 28 [(.t 141), (.c (.int .i64 19))]), .op (some 143) (.mv (.t 1)), .op (some 144) (.slc 8 (.t 143) none (some (.c (.int .i64 1))) none), .op (some 145) (.call 17 [(.t 142), (.t 144)])] 145 false,
  .op (some 0) (.mv (.t 146))]
noncomputable def b11 : TF := (.seq (.reg 0 r11_0 none [] []) (.seq (.reg 1 r11_1 none [] [1]) (.seq (.reg 2 r11_2 none [] [1, 2]) (.seq (.reg 3 r11_3 none [] [1, 2, 3, 4]) (.seq (.reg 4 r11_4 none [] [1, 2, 3, 4, 6]) (.seq (.reg 5 r11_5 none [] [1, 2, 3, 4, 6, 7, 8]) (.seq (.reg 6 r11_6 none [] [1, 2, 3, 4, 6, 7, 8, 10]) (.seq (.reg 7 r11_7 (some [0, 1, 0, 1, 1, 1, 0, 0, 0, 0, 0]) [] [1, 2, 3, 4, 6, 7, 8, 10, 11, 12]) (.seq (.reg 8 r11_8 none [] [1, 2, 3, 4, 6, 7, 8, 10, 11, 12, 14]) (.seq (.reg 9 r11_9 none [] [1, 2, 3, 4, 6, 7, 8, 10, 11, 12, 14, 15]) (.seq (.seq (.reg 10 r11_10 none [] [1, 2, 3, 4, 6, 7, 8, 10, 11, 15, 86]) (.cond (.t 86) (.seq (.reg 11 r11_11 none [] [0]) .ret) .skip)) (.seq (.reg 12 r11_12 (some [0, 0, 0, 0, 0, 0, 0, 0, 0, 0, 0, 0, 0, 0, 0, 0, 0, 0, 0, 0, 0, 0, 0, 1, 0, 0, 0, 1, 0, 1, 0, 1, 1, 0, 0, 0, 1, 0, 0, 0, 1, 0, 1, 1, 0, 0, 0, 0, 1, 1, 1, 0, 0, 0, 0, 1, 0, 1, 1, 0, 0]) [] [0]) .ret))))))))))))
theorem ok11 : FnOK K 11 0 b11 [.tmp 0] :=
  FnOK.of (fn := Go.Proofs.Try.f11) (ov := fun _ => none) (lv := lvOfT annL 11) (L := [0, 1, 2, 3, 4, 6, 7, 8, 10, 11, 15, 86, 12, 14]) Go.Proofs.Try.func11 (by kernel_rfl) (by kernel_rfl) (by kernel_rfl) (by kernel_rfl) (by kernel_rfl) (by kernel_rfl)
end Go.LH.s04

set_option maxRecDepth 100000
set_option linter.unusedSimpArgs false
set_option linter.unusedVariables false
namespace Go.LH.s04
open Go Go.LH
attribute [local irreducible] W GivesA ND.all
def l0 : List Fact := [gradeF 7 2 6 10 0, gradeF (-1) 3 4 20 0]
def k0 : Key := ⟨3, 4, 9⟩
theorem z_at1 : atF l0 k0 3 15 = (7, true) := by kernel_rfl
theorem z_at2 : (atF l0 k0 3 20).2 = false := by kernel_rfl
theorem z_at3 : atF l0 k0 2 20 = (7, true) := by kernel_rfl
theorem z_add1 : addF [gradeF 7 2 6 10 0] (gradeF (-1) 3 4 20 0) = (l0, 0) := by kernel_rfl
theorem z_add2 : (addF l0 (gradeF 7 2 6 20 0)).2 = 41 := by kernel_rfl
theorem z_ck0 : checkF [⟨⟨0, 0, 0⟩, 0, 0, 0, 0, 0⟩] = 40 := by kernel_rfl
theorem z_ck2 : checkF l0 = 0 := by kernel_rfl
theorem z_chg : chgL l0 15 20 [k0] = [(k0, [(3, 4)])] := by kernel_rfl
theorem z_pt1 : ptsF l0 k0 5 5 20 = [] := by kernel_rfl
theorem z_pt2 : (ptsF l0 k0 0 9 20).length = 3 := by kernel_rfl
theorem z_al2 : alikeF l0 [⟨k0, 0, 9⟩] 15 20 = false := by kernel_rfl
theorem z_up : uptoF l0 19 = [gradeF 7 2 6 10 0] := by kernel_rfl
theorem z_keys : keysF l0 = [k0] := by kernel_rfl
def isT (x : ND (LV × Heap)) (v : Bool) : Bool := match x with
  | .ok (.tup [.int .i64 a, .bool b], _) => a == 0 && b == v
  | _ => false
def isB (x : ND (LV × Heap)) (v : Bool) : Bool := match x with
  | .ok (.bool b, _) => b == v
  | _ => false
theorem z_nil1 : isT (callN K 60 (.fn (.func 18) [] []) [.sl 0 (some true) true [], .agg (cKey k0), I 0, I 0] []) false = true := by kernel_rfl
theorem z_nil2 : isB (callN K 60 (.fn (.func 26) [] []) [sF (some false) true l0, .sl 0 (some true) true [], I 1, I 2] []) true = true := by kernel_rfl
theorem nil1_i (n : Nat) (h : Heap) : callIso "" (callN K (n + 60)) (.fn (.func 18) [] []) [.sl 0 (some true) true [], .agg (cKey k0), I 0, I 0] h = .ok (.tup [I 0, .bool false]) := by
  refine iso_gives ⟨open_sl _ _ _ _, open_agg rfl, open_int _ _, open_int _ _, trivial⟩ (gives_mono (n := 60) ?_ (by omega))
  have := z_nil1
  unfold isT at this
  split at this
  · rename_i a b h e
    simp only [Bool.and_eq_true, beq_iff_eq] at this
    obtain ⟨rfl, rfl⟩ := this
    exact ⟨_, _, e, rfl⟩
  · cases this
theorem nil2_i (n : Nat) (h : Heap) : callIso "" (callN K (n + 60)) (.fn (.func 26) [] []) [sF (some false) true l0, .sl 0 (some true) true [], I 1, I 2] h = .ok (.bool true) := by
  refine iso_gives ⟨open_sl _ _ _ _, open_sl _ _ _ _, open_int _ _, open_int _ _, trivial⟩ (gives_mono (n := 60) ?_ (by omega))
  have := z_nil2
  unfold isB at this
  split at this
  · rename_i b h e
    simp only [beq_iff_eq] at this
    subst this
    exact ⟨_, _, e, rfl⟩
  · cases this
theorem l0_len : l0.length = 2 := rfl
theorem sa1 (n : Nat) (h : Heap) : callIso "" (callN K (n + 3000)) (.fn (.func 18) [] []) [sF (some false) true l0, .agg (cKey k0), I 3, I 15] h = .ok (.tup [I 7, .bool true]) := by
  have := at_i (n + 2980) (some false) true l0 k0 3 15 (by rw [l0_len]; omega) (by rw [l0_len]; omega) h
  rw [z_at1] at this; exact this
theorem sa2 (n : Nat) : ∃ v, ∀ h, callIso "" (callN K (n + 3000)) (.fn (.func 18) [] []) [sF (some false) true l0, .agg (cKey k0), I 3, I 20] h = .ok (.tup [I v, .bool false]) := by
  have := fun h => at_i (n + 2980) (some false) true l0 k0 3 20 (by rw [l0_len]; omega) (by rw [l0_len]; omega) h
  rw [z_at2] at this; exact ⟨_, this⟩
theorem sa3 (n : Nat) (h : Heap) : callIso "" (callN K (n + 3000)) (.fn (.func 18) [] []) [sF (some false) true l0, .agg (cKey k0), I 2, I 20] h = .ok (.tup [I 7, .bool true]) := by
  have := at_i (n + 2980) (some false) true l0 k0 2 20 (by rw [l0_len]; omega) (by rw [l0_len]; omega) h
  rw [z_at3] at this; exact this
theorem sb1 (n : Nat) (h : Heap) : callIso "" (callN K (n + 3000)) (.fn (.func 13) [] []) [sF none false [gradeF 7 2 6 10 0], .agg (cFact (gradeF (-1) 3 4 20 0))] h = .ok (.tup [.sl 8 none false (l0.map cFact), I 0]) := by
  have := add_i (n + 2970) none false [gradeF 7 2 6 10 0] (gradeF (-1) 3 4 20 0) (by show 1 < _; omega) (by show 1 < _; omega) h
  rw [z_add1] at this; exact this
theorem sb2 (n : Nat) : ∃ w, ∀ h, callIso "" (callN K (n + 3000)) (.fn (.func 13) [] []) [sF (some false) true l0, .agg (cFact (gradeF 7 2 6 20 0))] h = .ok (.tup [w, I 41]) := by
  have := fun h => add_i (n + 2970) (some false) true l0 (gradeF 7 2 6 20 0) (by rw [l0_len]; omega) (by rw [l0_len]; omega) h
  rw [z_add2] at this; exact ⟨_, this⟩
theorem sc1 (n : Nat) (h : Heap) : (callIso "" (callN K (n + 3000)) (.fn (.func 24) [] []) [sF (some false) true l0, I 15, I 20] h).all (· = .sl 4 none false ([(k0, [(3, 4)])].map cDif)) := by
  have := changed_t (n + 2969) 20 (some false) true l0 15 20 [k0] (by rw [l0_len]; omega) (by rw [l0_len]; omega) (by omega) (by omega) (fun es he => by rw [z_keys, List.perm_singleton] at he; rw [he]; exact sortsTo1 k0) (by rw [l0_len]; decide)
  rw [z_chg] at this
  exact iso_givesA (vs := [sF (some false) true l0, I 15, I 20]) ⟨open_sl _ _ _ _, open_int _ _, open_int _ _, trivial⟩ this
theorem sc0 (n : Nat) (h : Heap) : callIso "" (callN K (n + 3000)) (.fn (.func 15) [] []) [sF (some false) true [⟨⟨0, 0, 0⟩, 0, 0, 0, 0, 0⟩]] h = .ok (I 40) := by
  have := check_i (n + 2980) (some false) true [⟨⟨0, 0, 0⟩, 0, 0, 0, 0, 0⟩] (by show 1 < _; omega) (by show 1 < _; omega) h
  rw [z_ck0] at this; exact this
theorem sc2 (n : Nat) (h : Heap) : callIso "" (callN K (n + 3000)) (.fn (.func 15) [] []) [sF (some false) true l0] h = .ok (I 0) := by
  have := check_i (n + 2980) (some false) true l0 (by rw [l0_len]; omega) (by rw [l0_len]; omega) h
  rw [z_ck2] at this; exact this
theorem sp1 (n : Nat) (h : Heap) : callIso "" (callN K (n + 3000)) (.fn (.func 21) [] []) [sF (some false) true l0, .agg (cKey k0), I 5, I 5, I 20] h = .ok (.sl 2 none false []) := by
  have := points_i (n + 2970) (some false) true l0 k0 5 5 20 (by rw [l0_len]; omega) (by rw [l0_len]; omega) (by omega) h
  rw [z_pt1] at this; exact this
theorem sp2 (n : Nat) : ∃ P : List (List LV), P.length = 3 ∧ ∀ h, callIso "" (callN K (n + 3000)) (.fn (.func 21) [] []) [sF (some false) true l0, .agg (cKey k0), I 0, I 9, I 20] h = .ok (.sl 2 none false P) := by
  have := fun h => points_i (n + 2970) (some false) true l0 k0 0 9 20 (by rw [l0_len]; omega) (by rw [l0_len]; omega) (by omega) h
  exact ⟨_, by rw [List.length_map]; exact z_pt2, this⟩
theorem sal2 (n : Nat) (h : Heap) : callIso "" (callN K (n + 3000)) (.fn (.func 26) [] []) [sF (some false) true l0, sR (some false) true [⟨k0, 0, 9⟩], I 15, I 20] h = .ok (.bool false) := by
  have := alike_i (n + 2950) (some false) (some false) true true l0 [⟨k0, 0, 9⟩] 15 20 (by rw [l0_len]; omega) (by rw [l0_len]; omega) (by omega) (by show 1 < _; omega) h
  rw [z_al2] at this; exact this
theorem su1 (n : Nat) (h : Heap) : callIso "" (callN K (n + 3000)) (.fn (.func 28) [] []) [sF (some false) true l0, I 19] h = .ok (sF none false [gradeF 7 2 6 10 0]) := by
  have := upto_i (n + 2980) false true l0 19 (by simp) (by rw [l0_len]; omega) (by rw [l0_len]; omega) h
  rw [z_up] at this; exact this
theorem ss1 (n : Nat) (h : Heap) : callIso "" (callN K (n + 3000)) (.fn (.func 17) [] []) [sF none false l0, sF (some false) true l0] h = .ok (.bool true) := by
  have := iso_gives (s := "") (h := h) (vs := [sF none false l0, sF (some false) true l0]) ⟨open_sl _ _ _ _, open_sl _ _ _ _, trivial⟩ (same_t (n + 2990) none (some false) false true l0 l0 (by rw [l0_len]; omega) (by rw [l0_len]; omega))
  rw [decide_eq_true rfl] at this; exact this
theorem ss2 (n : Nat) (h : Heap) : callIso "" (callN K (n + 3000)) (.fn (.func 17) [] []) [sF none false [gradeF 7 2 6 10 0], sF none false [gradeF 7 2 6 10 0]] h = .ok (.bool true) := by
  have := iso_gives (s := "") (h := h) (vs := [sF none false [gradeF 7 2 6 10 0], sF none false [gradeF 7 2 6 10 0]]) ⟨open_sl _ _ _ _, open_sl _ _ _ _, trivial⟩ (same_t (n + 2990) none none false false [gradeF 7 2 6 10 0] [gradeF 7 2 6 10 0] (by show 1 < _; omega) (by show 1 < _; omega))
  rw [decide_eq_true rfl] at this; exact this
theorem sd1 (n : Nat) (h : Heap) : callIso "" (callN K (n + 3000)) (.fn (.func 23) [] []) [.sl 4 none false ([(k0, [(3, 4)])].map cDif), .sl 4 (some false) true ([(k0, [(3, 4)])].map (cDg (some false) true))] h = .ok (.bool true) := by
  have := sameD_i (n + 2990) none (some false) none (some false) false true false true [(k0, [(3, 4)])] [(k0, [(3, 4)])] (by show 1 < _; omega) (by show 1 < _; omega) (fun p hp => by simp at hp; subst hp; exact ⟨by show 1 < _; omega, by show 1 < _; omega⟩) h
  rw [decide_eq_true rfl] at this; exact this
@[reducible] def c0F : Fact := ⟨⟨0, 0, 0⟩, 0, 0, 0, 0, 0⟩
theorem sane_r10 {cf : CallF} {N : Nat} {S0 w11 w15 : LV} {k : Key} {Q : Ex → G → Heap → Prop}
    (c0 : ∀ h, callIso "" cf (.fn (.func 15) [] []) [sF (some false) true [c0F]] h = .ok (I 40)) (c2 : ∀ h, callIso "" cf (.fn (.func 15) [] []) [S0] h = .ok (I 0))
    (p1 : ∀ h, callIso "" cf (.fn (.func 21) [] []) [S0, .agg (cKey k), I 5, I 5, I 20] h = .ok (.sl 2 none false []))
    (hQ : Q .normal [(1, S0), (2, .ptr 0 0), (3, I 7), (4, .bool true), (6, .bool false), (7, I 7), (8, .bool true), (10, .bool false), (11, w11), (15, w15), (86, .bool false)] [some (.cells (cKey k) 24)]) :
    WP false (execT K N cf (.reg 10 r11_10 none [] [1, 2, 3, 4, 6, 7, 8, 10, 11, 15, 86]) [(1, S0), (2, .ptr 0 0), (3, I 7), (4, .bool true), (6, .bool false), (7, I 7), (8, .bool true), (10, .bool false), (11, w11), (12, I 0), (14, I 41), (15, w15)] [some (.cells (cKey k) 24)]) Q := by
  have c0' : ∀ h, callIso "" cf (.fn (.func 15) [] []) [.sl 8 (some false) true [[I 0, I 0, I 0, I 0, I 0, I 0, I 0, I 0]]] h = .ok (I 40) := c0
  have e0 : ((0 : Int) != 0) = false := rfl
  have e00 : (((0 : Nat) : Int) != 0) = false := rfl
  have e41 : ((41 : Int) != 41) = false := rfl
  have e40 : ((40 : Int) != 40) = false := rfl
  simp only [r11_10, e0, e41, e00, e40, c0', c2, p1, fillF, Option.bind_some, Bool.or_false, restr, List.map_cons, List.map_nil, WW, callF, calF, stepF, boxF, fillF.o1c, LV.cells, rv, argsG, ND.bind, fieldAt, getAt, eqsV, kindsOk, ekOf, eqC, scEq, Nat.blt, Nat.ble, putP, allK, Nat.reduceAdd, Nat.reduceBEq, List.getD_cons_zero, List.getD_cons_succ, List.getElem?_cons_zero, List.getElem?_cons_succ, List.length_nil, List.length_cons, List.nil_append, List.cons_append, Option.map_some, cond_true, cond_false, beq_self_eq_true, nd_map_ok, List.set_cons_zero, List.set_cons_succ, List.filter_nil, List.isEmpty_nil, List.zip_cons_cons, List.zip_nil_left, List.zip_nil_right, List.all_cons, List.all_nil, Option.isSome_some, List.replicate_succ, List.replicate_zero]
  exact hQ
theorem sane_r12 {cf : CallF} {N : Nat} {S0 w11 w15 w17 u1 : LV} {P : List (List LV)} {k : Key} {Q : Ex → G → Heap → Prop}
    (s1 : ∀ h, callIso "" cf (.fn (.func 17) [] []) [w11, S0] h = .ok (.bool true))
    (d1 : ∀ h, callIso "" cf (.fn (.func 23) [] []) [w15, .sl 4 (some false) true [[I k.a, I k.b, I k.c, .sl 2 (some false) true [[I 3, I 4]]]]] h = .ok (.bool true))
    (al1 : ∀ h, callIso "" cf (.fn (.func 26) [] []) [S0, .sl 0 (some true) true [], I 1, I 2] h = .ok (.bool true))
    (al2 : ∀ h, callIso "" cf (.fn (.func 26) [] []) [S0, .sl 5 (some false) true [[I k.a, I k.b, I k.c, I 0, I 9]], I 15, I 20] h = .ok (.bool false))
    (p2 : ∀ h, callIso "" cf (.fn (.func 21) [] []) [S0, .agg (cKey k), I 0, I 9, I 20] h = .ok (.sl 2 none false P)) (hP : P.length = 3)
    (up : ∀ h, callIso "" cf (.fn (.func 28) [] []) [S0, I 19] h = .ok u1) (hsl1 : ∀ h, slcV 8 h S0 none (some (.int .i64 1)) none = some w17)
    (s2 : ∀ h, callIso "" cf (.fn (.func 17) [] []) [u1, w17] h = .ok (.bool true))
    (hQ : Q .ret [(0, .bool true)] [some (.cells (cKey k) 24)]) :
    WP false (execT K N cf (.seq (.reg 12 r11_12 (some [0, 0, 0, 0, 0, 0, 0, 0, 0, 0, 0, 0, 0, 0, 0, 0, 0, 0, 0, 0, 0, 0, 0, 1, 0, 0, 0, 1, 0, 1, 0, 1, 1, 0, 0, 0, 1, 0, 0, 0, 1, 0, 1, 1, 0, 0, 0, 0, 1, 1, 1, 0, 0, 0, 0, 1, 0, 1, 1, 0, 0]) [] [0]) .ret) [(1, S0), (2, .ptr 0 0), (3, I 7), (4, .bool true), (6, .bool false), (7, I 7), (8, .bool true), (10, .bool false), (11, w11), (15, w15), (86, .bool false)] [some (.cells (cKey k) 24)]) Q := by
  have e7 : ((7 : Int) == 7) = true := rfl
  have e3 : (((3 : Nat) : Int) == 3) = true := rfl
  simp only [r11_12, e7, e3, s1, d1, al1, al2, p2, hP, up, hsl1, s2, fillF, Option.bind_some, List.map_cons, List.map_nil, WW, callF, calF, stepF, boxF, fillF.o1c, LV.cells, rv, argsG, ND.bind, fieldAt, getAt, eqsV, kindsOk, ekOf, eqC, scEq, Nat.blt, Nat.ble, putP, allK, Nat.reduceAdd, Nat.reduceBEq, List.getD_cons_zero, List.getD_cons_succ, List.getElem?_cons_zero, List.getElem?_cons_succ, List.length_nil, List.length_cons, List.nil_append, List.cons_append, Option.map_some, cond_true, cond_false, beq_self_eq_true, nd_map_ok, List.set_cons_zero, List.set_cons_succ, List.filter_nil, List.isEmpty_nil, List.zip_cons_cons, List.zip_nil_left, List.zip_nil_right, List.all_cons, List.all_nil, Option.isSome_some, List.replicate_succ, List.replicate_zero]
  exact hQ
theorem sane_r3 {cf : CallF} {N : Nat} {S0 S1 w11 w2 : LV} {v2 v4 : Int} {k : Key} {f1 f2 : Fact} {Q : Ex → G → Heap → Prop}
    (a1 : ∀ h, callIso "" cf (.fn (.func 18) [] []) [S0, .agg (cKey k), I 3, I 15] h = .ok (.tup [I 7, .bool true]))
    (a2 : ∀ h, callIso "" cf (.fn (.func 18) [] []) [S0, .agg (cKey k), I 3, I 20] h = .ok (.tup [I v2, .bool false]))
    (a3 : ∀ h, callIso "" cf (.fn (.func 18) [] []) [S0, .agg (cKey k), I 2, I 20] h = .ok (.tup [I 7, .bool true]))
    (a4 : ∀ h, callIso "" cf (.fn (.func 18) [] []) [.sl 0 (some true) true [], .agg (cKey k), I 0, I 0] h = .ok (.tup [I v4, .bool false]))
    (hix1 : ∀ h, ixV 8 h S0 (.int .i64 1) = some (.eptr (cFact f1) 0)) (hsl1 : ∀ h, slcV 8 h S0 none (some (.int .i64 1)) none = some S1)
    (b1 : ∀ h, callIso "" cf (.fn (.func 13) [] []) [S1, .agg (cFact f1)] h = .ok (.tup [w11, I 0]))
    (hgr : ∀ h, callIso "" cf (.fn (.func 31) [] []) [I 7, I 2, I 6, I 20, I 0] h = .ok (.agg (cFact f2)))
    (b2 : ∀ h, callIso "" cf (.fn (.func 13) [] []) [S0, .agg (cFact f2)] h = .ok (.tup [w2, I 41])) {X : TF}
    (hQ : WP false (execT K N cf X [(1, S0), (2, .ptr 0 0), (3, I 7), (4, .bool true), (6, .bool false), (7, I 7), (8, .bool true), (10, .bool false), (11, w11), (12, I 0), (14, I 41)] [some (.cells (cKey k) 24)]) Q) :
    WP false (execT K N cf (.seq (.reg 3 r11_3 none [] [1, 2, 3, 4]) (.seq (.reg 4 r11_4 none [] [1, 2, 3, 4, 6]) (.seq (.reg 5 r11_5 none [] [1, 2, 3, 4, 6, 7, 8]) (.seq (.reg 6 r11_6 none [] [1, 2, 3, 4, 6, 7, 8, 10]) (.seq (.reg 7 r11_7 (some [0, 1, 0, 1, 1, 1, 0, 0, 0, 0, 0]) [] [1, 2, 3, 4, 6, 7, 8, 10, 11, 12]) (.seq (.reg 8 r11_8 none [] [1, 2, 3, 4, 6, 7, 8, 10, 11, 12, 14]) X)))))) [(1, S0), (2, .ptr 0 0)] [some (.cells (cKey k) 24)]) Q := by
  simp only [r11_3, r11_4, r11_5, r11_6, r11_7, r11_8, a1, a2, a3, a4, hgr, hix1, hsl1, b1, b2, WW, callF, calF, stepF, boxF, fillF.o1c, LV.cells, rv, argsG, ND.bind, fieldAt, getAt, eqsV, kindsOk, ekOf, eqC, scEq, Nat.blt, Nat.ble, putP, allK, Nat.reduceAdd, Nat.reduceBEq, List.getD_cons_zero, List.getD_cons_succ, List.getElem?_cons_zero, List.getElem?_cons_succ, List.length_nil, List.length_cons, List.nil_append, List.cons_append, Option.map_some, cond_true, cond_false, beq_self_eq_true, nd_map_ok, List.set_cons_zero, List.set_cons_succ, List.filter_nil, List.isEmpty_nil, List.zip_cons_cons, List.zip_nil_left, List.zip_nil_right, List.all_cons, List.all_nil, Option.isSome_some, List.replicate_succ, List.replicate_zero]
  exact hQ
theorem sane_t (n : Nat) : GivesA K (n + 3001) 11 [] (.bool true) := by
  refine givesA_wp ok11 (by rfl) ?_
  have hg := fun a b c d e h => grade_i (n + 2999) a b c d e h
  obtain ⟨v2, a2⟩ := sa2 n
  obtain ⟨w2, b2⟩ := sb2 n
  obtain ⟨P, hP, p2⟩ := sp2 n
  have a4 : ∀ h, callIso "" (callN K (n + 3000)) (.fn (.func 18) [] []) [.sl 0 (some true) true [], .agg (cKey k0), I 0, I 0] h = .ok (.tup [I 0, .bool false]) := fun h => nil1_i (n + 2940) h
  have al1 : ∀ h, callIso "" (callN K (n + 3000)) (.fn (.func 26) [] []) [sF (some false) true l0, .sl 0 (some true) true [], I 1, I 2] h = .ok (.bool true) := fun h => nil2_i (n + 2940) h
  have hgr : ∀ h, callIso "" (callN K (n + 3000)) (.fn (.func 31) [] []) [I 7, I 2, I 6, I 20, I 0] h = .ok (.agg (cFact (gradeF 7 2 6 20 0))) := fun h => hg 7 2 6 20 0 h
  have hg1 : ∀ h, callIso "" (callN K (n + 3000)) (.fn (.func 31) [] []) [I 7, I 2, I 6, I 10, I 0] h = .ok (.agg (cFact (gradeF 7 2 6 10 0))) := fun h => hg 7 2 6 10 0 h
  have hg2 : ∀ h, callIso "" (callN K (n + 3000)) (.fn (.func 31) [] []) [I (-1), I 3, I 4, I 20, I 0] h = .ok (.agg (cFact (gradeF (-1) 3 4 20 0))) := fun h => hg (-1) 3 4 20 0 h
  have hix0 : ∀ h, ixV 8 h (sF (some false) true l0) (.int .i64 0) = some (.eptr (cFact (gradeF 7 2 6 10 0)) 0) := fun h => rfl
  have hfst : ∀ h, ldV (some 3) h (.eptr (cFact (gradeF 7 2 6 10 0)) 0) = some (.agg (cKey k0)) := fun h => rfl
  have hS : LV.sl 8 (some false) true [cFact (gradeF 7 2 6 10 0), cFact (gradeF (-1) 3 4 20 0)] = sF (some false) true l0 := rfl
  have a1 := sa1 n
  have a3 := sa3 n
  have b1 := sb1 n
  have hcA := sc1 n
  have c0 := sc0 n
  have c2 := sc2 n
  have p1 := sp1 n
  have al2 := sal2 n
  have u1 := su1 n
  have s1 := ss1 n
  have s2 := ss2 n
  have d1 := sd1 n
  have hix1 : ∀ h, ixV 8 h (sF (some false) true l0) (.int .i64 1) = some (.eptr (cFact (gradeF (-1) 3 4 20 0)) 0) := fun h => rfl
  have hsl1 : ∀ h, slcV 8 h (sF (some false) true l0) none (some (.int .i64 1)) none = some (sF none false [gradeF 7 2 6 10 0]) := fun h => rfl
  generalize n + 3000 = N at *
  generalize callN K N = cf at *
  rw [b11, x_seq, wp_sq]
  have q0 : WP false (execT K N cf (.reg 0 r11_0 none [] []) (argsG 0 []) []) fun e g h => e = .normal ∧ g = [] ∧ h = [] := by
    simp only [r11_0, WW, callF, calF, stepF, boxF, fillF.o1c, LV.cells, rv, argsG, ND.bind, fieldAt, getAt, eqsV, kindsOk, ekOf, eqC, scEq, Nat.blt, Nat.ble, putP, allK, Nat.reduceAdd, Nat.reduceBEq, List.getD_cons_zero, List.getD_cons_succ, List.getElem?_cons_zero, List.getElem?_cons_succ, List.length_nil, List.length_cons, List.nil_append, List.cons_append, Option.map_some, cond_true, cond_false, beq_self_eq_true, nd_map_ok, List.set_cons_zero, List.set_cons_succ, List.filter_nil, List.isEmpty_nil, List.zip_cons_cons, List.zip_nil_left, List.zip_nil_right, List.all_cons, List.all_nil, Option.isSome_some, List.replicate_succ, List.replicate_zero]
    exact ⟨trivial, trivial, trivial⟩
  refine q0.mono fun e g h hh => ?_
  obtain ⟨rfl, rfl, rfl⟩ := hh
  rw [sqQ_n, x_seq, wp_sq]
  have q1 : WP false (execT K N cf (.reg 1 r11_1 none [] [1]) [] []) fun e g h => e = .normal ∧ g = [(1, sF (some false) true l0)] ∧ h = [] := by
    simp only [r11_1, hg1, hg2, hS, WW, callF, calF, stepF, boxF, fillF.o1c, LV.cells, rv, argsG, ND.bind, fieldAt, getAt, eqsV, kindsOk, ekOf, eqC, scEq, Nat.blt, Nat.ble, putP, allK, Nat.reduceAdd, Nat.reduceBEq, List.getD_cons_zero, List.getD_cons_succ, List.getElem?_cons_zero, List.getElem?_cons_succ, List.length_nil, List.length_cons, List.nil_append, List.cons_append, Option.map_some, cond_true, cond_false, beq_self_eq_true, nd_map_ok, List.set_cons_zero, List.set_cons_succ, List.filter_nil, List.isEmpty_nil, List.zip_cons_cons, List.zip_nil_left, List.zip_nil_right, List.all_cons, List.all_nil, Option.isSome_some, List.replicate_succ, List.replicate_zero]
    exact ⟨trivial, trivial, trivial⟩
  refine q1.mono fun e g h hh => ?_
  obtain ⟨rfl, rfl, rfl⟩ := hh
  rw [sqQ_n, x_seq, wp_sq]
  have q2 : WP false (execT K N cf (.reg 2 r11_2 none [] [1, 2]) [(1, sF (some false) true l0)] []) fun e g h => e = .normal ∧ g = [(1, sF (some false) true l0), (2, .ptr 0 0)] ∧ h = [some (.cells (cKey k0) 24)] := by
    simp only [r11_2, hix0, hfst, WW, callF, calF, stepF, boxF, fillF.o1c, LV.cells, rv, argsG, ND.bind, fieldAt, getAt, eqsV, kindsOk, ekOf, eqC, scEq, Nat.blt, Nat.ble, putP, allK, Nat.reduceAdd, Nat.reduceBEq, List.getD_cons_zero, List.getD_cons_succ, List.getElem?_cons_zero, List.getElem?_cons_succ, List.length_nil, List.length_cons, List.nil_append, List.cons_append, Option.map_some, cond_true, cond_false, beq_self_eq_true, nd_map_ok, List.set_cons_zero, List.set_cons_succ, List.filter_nil, List.isEmpty_nil, List.zip_cons_cons, List.zip_nil_left, List.zip_nil_right, List.all_cons, List.all_nil, Option.isSome_some, List.replicate_succ, List.replicate_zero]
    exact ⟨trivial, trivial, trivial⟩
  refine q2.mono fun e g h hh => ?_
  obtain ⟨rfl, rfl, rfl⟩ := hh
  rw [sqQ_n]
  refine sane_r3 a1 a2 a3 a4 hix1 hsl1 b1 hgr b2 ?_
  rw [x_seq, wp_sq]
  have q9 : ∀ (w11 : LV), WP false (execT K N cf (.reg 9 r11_9 none [] [1, 2, 3, 4, 6, 7, 8, 10, 11, 12, 14, 15]) [(1, sF (some false) true l0), (2, .ptr 0 0), (3, I 7), (4, .bool true), (6, .bool false), (7, I 7), (8, .bool true), (10, .bool false), (11, w11), (12, I 0), (14, I 41)] [some (.cells (cKey k0) 24)]) fun e g h => e = .normal ∧ g = [(1, sF (some false) true l0), (2, .ptr 0 0), (3, I 7), (4, .bool true), (6, .bool false), (7, I 7), (8, .bool true), (10, .bool false), (11, w11), (12, I 0), (14, I 41), (15, .sl 4 none false ([(k0, [(3, 4)])].map cDif))] ∧ h = [some (.cells (cKey k0) 24)] := fun w11 => by
    generalize [(k0, [((3 : Int), (4 : Int))])].map cDif = D at *
    generalize sF (some false) true l0 = S0 at *
    generalize k0 = k at *
    simp only [r11_9, WW, callF, calF, stepF, boxF, fillF.o1c, LV.cells, rv, argsG, ND.bind, fieldAt, getAt, eqsV, kindsOk, ekOf, eqC, scEq, Nat.blt, Nat.ble, putP, allK, Nat.reduceAdd, Nat.reduceBEq, List.getD_cons_zero, List.getD_cons_succ, List.getElem?_cons_zero, List.getElem?_cons_succ, List.length_nil, List.length_cons, List.nil_append, List.cons_append, Option.map_some, cond_true, cond_false, beq_self_eq_true, nd_map_ok, List.set_cons_zero, List.set_cons_succ, List.filter_nil, List.isEmpty_nil, List.zip_cons_cons, List.zip_nil_left, List.zip_nil_right, List.all_cons, List.all_nil, Option.isSome_some, List.replicate_succ, List.replicate_zero]
    refine wp_calM (hcA _) ?_
    simp only [WW, callF, calF, stepF, boxF, fillF.o1c, LV.cells, rv, argsG, ND.bind, fieldAt, getAt, eqsV, kindsOk, ekOf, eqC, scEq, Nat.blt, Nat.ble, putP, allK, Nat.reduceAdd, Nat.reduceBEq, List.getD_cons_zero, List.getD_cons_succ, List.getElem?_cons_zero, List.getElem?_cons_succ, List.length_nil, List.length_cons, List.nil_append, List.cons_append, Option.map_some, cond_true, cond_false, beq_self_eq_true, nd_map_ok, List.set_cons_zero, List.set_cons_succ, List.filter_nil, List.isEmpty_nil, List.zip_cons_cons, List.zip_nil_left, List.zip_nil_right, List.all_cons, List.all_nil, Option.isSome_some, List.replicate_succ, List.replicate_zero]
    exact ⟨trivial, trivial, trivial⟩
  refine (q9 _).mono fun e g h hh => ?_
  obtain ⟨rfl, rfl, rfl⟩ := hh
  rw [sqQ_n, x_seq, wp_sq, x_seq, wp_sq]
  refine sane_r10 c0 c2 p1 ?_
  rw [sqQ_n, x_cond, show RV.evF _ (.t 86) = some (.bool false) from rfl, cnd_f, x_skip, wp_ok, sqQ_n]
  refine sane_r12 s1 d1 al1 al2 p2 hP u1 hsl1 s2 ?_
  exact ⟨_, rfl, rfl⟩
end Go.LH.s04

set_option maxRecDepth 100000
set_option linter.unusedSimpArgs false
set_option linter.unusedVariables false
namespace Go.LH.s04
open Go Go.LH
attribute [local irreducible] W GivesA ND.all
theorem sane_i (n : Nat) (h : Heap) : (callIso "" (callN K (n + 3001)) (.fn (.func 11) [] []) [] h).all (· = .bool true) := iso_givesA (vs := []) trivial (sane_t n)
end Go.LH.s04

set_option maxRecDepth 100000
set_option linter.unusedSimpArgs false
set_option linter.unusedVariables false
namespace Go.LH.s04
open Go Go.LH
theorem k3 : (K.ti 3).k = .prim ∧ (K.ti 3).ik = some .i64 := ⟨rfl, rfl⟩
theorem k24 : (K.ti 24).k = .struct [(0, 3), (1, 3), (2, 3)] := by kernel_rfl
theorem k26 : (K.ti 26).k = .struct [(0, 3), (1, 3)] := by kernel_rfl
theorem k28 : (K.ti 28).k = .struct [(0, 24), (3, 3), (4, 26), (6, 3), (7, 3)] := by kernel_rfl
theorem k22 : (K.ti 22).k = .slice 28 ∧ (K.ti 28).sz = 8 := ⟨by kernel_rfl, by kernel_rfl⟩
theorem ty3 {n : Nat} {ls : List LV} (h : TyL K (n + 1) 3 ls) : ∃ i : Int, ls = [I i] := by
  rw [TyL] at h
  simp only [k3.1, k3.2] at h
  obtain ⟨i, rfl, _⟩ := h
  exact ⟨i, rfl⟩
theorem ty24 {n : Nat} {ls : List LV} (h : TyL K (n + 2) 24 ls) : ∃ k : Key, ls = cKey k := by
  rw [TyL] at h
  simp only [k24, List.map_cons, List.map_nil, TyF] at h
  obtain ⟨a, r, rfl, h1, b, r2, rfl, h2, c, r3, rfl, h3, rfl⟩ := h
  obtain ⟨a, rfl⟩ := ty3 h1
  obtain ⟨b, rfl⟩ := ty3 h2
  obtain ⟨c, rfl⟩ := ty3 h3
  exact ⟨⟨a, b, c⟩, rfl⟩
theorem ty26 {n : Nat} {ls : List LV} (h : TyL K (n + 2) 26 ls) : ∃ a b : Int, ls = [I a, I b] := by
  rw [TyL] at h
  simp only [k26, List.map_cons, List.map_nil, TyF] at h
  obtain ⟨a, r, rfl, h1, b, r2, rfl, h2, rfl⟩ := h
  obtain ⟨a, rfl⟩ := ty3 h1
  obtain ⟨b, rfl⟩ := ty3 h2
  exact ⟨a, b, rfl⟩
theorem ty28 {n : Nat} {ls : List LV} (h : TyL K (n + 3) 28 ls) : ∃ f : Fact, ls = cFact f := by
  rw [TyL] at h
  simp only [k28, List.map_cons, List.map_nil, TyF] at h
  obtain ⟨a, r, rfl, h1, b, r2, rfl, h2, c, r3, rfl, h3, d, r4, rfl, h4, e, r5, rfl, h5, rfl⟩ := h
  obtain ⟨k, rfl⟩ := ty24 h1
  obtain ⟨v, rfl⟩ := ty3 h2
  obtain ⟨x, y, rfl⟩ := ty26 h3
  obtain ⟨p, rfl⟩ := ty3 h4
  obtain ⟨q, rfl⟩ := ty3 h5
  exact ⟨⟨k, v, x, y, p, q⟩, rfl⟩
theorem tyA28 {n : Nat} : ∀ {es : List (List LV)}, TyA K (n + 3) 28 es → ∃ l : List Fact, es = l.map cFact
  | [], _ => ⟨[], rfl⟩
  | x :: r, h => by
    simp only [TyA] at h
    obtain ⟨f, rfl⟩ := ty28 h.1
    obtain ⟨l, rfl⟩ := tyA28 h.2
    exact ⟨f :: l, rfl⟩
theorem ty22 {n : Nat} {ls : List LV} (h : TyL K (n + 4) 22 ls) : ∃ (b : Bool) (l : List Fact), ls = [sF (some b) false l] ∧ (b = true → l = []) := by
  rw [TyL] at h
  simp only [k22.1, k22.2] at h
  obtain ⟨b, es, rfl, h1, _, h2⟩ := h
  obtain ⟨l, rfl⟩ := tyA28 h2
  exact ⟨b, l, rfl, fun hb => by simpa using h1 hb⟩
theorem tv3 {n : Nat} {v : LV} (h : TyV K (n + 1) 3 v) : ∃ i : Int, v = I i := by
  obtain ⟨i, hi⟩ := ty3 (show TyL K (n + 1) 3 [v] from h)
  exact ⟨i, by simpa using hi⟩
theorem tv22 {n : Nat} {v : LV} (h : TyV K (n + 4) 22 v) : ∃ (b : Bool) (l : List Fact), v = sF (some b) false l ∧ (b = true → l = []) := by
  have e : isAggTy (K.ti 22).k = false := by rw [k22.1]; rfl
  unfold TyV at h
  rw [e] at h
  obtain ⟨b, l, h1, h2⟩ := ty22 h
  exact ⟨b, l, by simpa using h1, h2⟩
theorem k54 : (K.ti 54).k = .struct [(0, 24), (3, 3), (4, 3)] := by kernel_rfl
theorem ty54 {n : Nat} {ls : List LV} (h : TyL K (n + 3) 54 ls) : ∃ r : Read, ls = cRead r := by
  rw [TyL] at h
  simp only [k54, List.map_cons, List.map_nil, TyF] at h
  obtain ⟨a, r, rfl, h1, b, r2, rfl, h2, c, r3, rfl, h3, rfl⟩ := h
  obtain ⟨k, rfl⟩ := ty24 h1
  obtain ⟨x, rfl⟩ := ty3 h2
  obtain ⟨y, rfl⟩ := ty3 h3
  exact ⟨⟨k, x, y⟩, rfl⟩
theorem tv54 {n : Nat} {v : LV} (h : TyV K (n + 3) 54 v) : ∃ r : Read, v = .agg (cRead r) := by
  have e : isAggTy (K.ti 54).k = true := by rw [k54]; rfl
  unfold TyV at h
  rw [e] at h
  obtain ⟨ls, rfl, h1⟩ := h
  obtain ⟨k, rfl⟩ := ty54 h1
  exact ⟨k, rfl⟩
end Go.LH.s04

set_option maxRecDepth 100000
set_option linter.unusedSimpArgs false
set_option linter.unusedVariables false
namespace Go.LH.s04
open Go Go.LH
attribute [local irreducible] W GivesA ND.all
theorem rat_at (l : List Fact) (k : Key) (day known : Int) : ∀ i, i ≤ l.length →
    (rat l k day known i < 0 ∧ (((l.take i).filter (ofF k known)).foldl (atS day) (default, false)).2 = false) ∨
    (0 ≤ rat l k day known i ∧ ((l.take i).filter (ofF k known)).foldl (atS day) (default, false) = (l.getD (rat l k day known i).toNat default, true))
  | 0, _ => .inl ⟨by simp [rat], rfl⟩
  | i + 1, hi => by
    have ih := rat_at l k day known i (by omega)
    have hlt : i < l.length := by omega
    have e : ((l.take (i + 1)).filter (ofF k known)).foldl (atS day) (default, false) = if ofF k known (l.getD i default) then atS day (((l.take i).filter (ofF k known)).foldl (atS day) (default, false)) (l.getD i default) else ((l.take i).filter (ofF k known)).foldl (atS day) (default, false) := by
      rw [List.take_add_one, List.getElem?_eq_getElem hlt, getD_at hlt, List.filter_append, List.foldl_append]
      generalize l.getD i default = f
      cases h : ofF k known f <;> simp only [Option.toList_some, List.filter_cons, List.filter_nil, h, if_true, if_false, Bool.false_eq_true, List.foldl_cons, List.foldl_nil]
    rw [e]
    simp only [rat]
    generalize ((l.take i).filter (ofF k known)).foldl (atS day) (default, false) = A at *
    generalize rat l k day known i = b at *
    generalize hf : l.getD i default = f at *
    obtain ⟨A1, A2⟩ := A
    simp only [ofF, atS, before_cmp]
    have hin : ((i : Int)).toNat = i := by simp
    have hf' : l[i]?.getD default = f := by rw [← List.getD_eq_getElem?_getD]; exact hf
    rcases ih with ⟨h1, h2⟩ | ⟨h1, h2⟩
    · simp only at h2
      subst h2
      by_cases c : decide (f.k = k) && decide (f.fr ≤ day) && decide (day < f.to) && decide (f.kn ≤ known)
      · simp only [Bool.and_eq_true, decide_eq_true_eq] at c
        obtain ⟨⟨⟨c1, c2⟩, c3⟩, c4⟩ := c
        right
        simp [c1, c2, c3, c4, h1, hf']
      · left
        have c' : ¬ (((f.k = k ∧ f.fr ≤ day) ∧ day < f.to) ∧ f.kn ≤ known) := by simpa using c
        by_cases d1 : f.k = k <;> by_cases d2 : f.fr ≤ day <;> by_cases d3 : day < f.to <;> by_cases d4 : f.kn ≤ known <;> simp [d1, d2, d3, d4, h1] <;> simp_all
    · simp only [Prod.mk.injEq] at h2
      obtain ⟨h2, rfl⟩ := h2
      right
      have hb : ¬ b < 0 := by omega
      have h2' : l[b.toNat]?.getD default = A1 := by rw [← List.getD_eq_getElem?_getD]; exact h2.symm
      rw [← h2]
      rcases Int.lt_or_le (cmpF f A1) 0 with d5 | d5
      · have d6 : ¬ 0 ≤ cmpF f A1 := by omega
        by_cases d1 : f.k = k <;> by_cases d2 : f.fr ≤ day <;> by_cases d3 : day < f.to <;> by_cases d4 : f.kn ≤ known <;> simp [d1, d2, d3, d4, d5, d6, hb, h1, h2', hf']
      · have d6 : ¬ cmpF f A1 < 0 := by omega
        by_cases d1 : f.k = k <;> by_cases d2 : f.fr ≤ day <;> by_cases d3 : day < f.to <;> by_cases d4 : f.kn ≤ known <;> simp [d1, d2, d3, d4, d5, d6, hb, h1, h2', hf']
theorem rat_eq (l : List Fact) (k : Key) (day known : Int) : ratF l k day known = atF l k day known := by
  have h := rat_at l k day known l.length (Nat.le_refl _)
  rw [List.take_length] at h
  unfold ratF atF atV atB
  generalize (l.filter (ofF k known)).foldl (atS day) (default, false) = A at *
  generalize rat l k day known l.length = b at *
  simp only
  rcases h with ⟨h1, h2⟩ | ⟨h1, rfl⟩
  · simp [h1, h2]
  · have hb : ¬ b < 0 := by omega
    simp only [hb, decide_false, Bool.false_or, Bool.true_and, decide_eq_true_eq]
    by_cases h3 : (l.getD b.toNat default).v < 0
    · have h4 : ¬ 0 ≤ (l.getD b.toNat default).v := by omega
      rw [if_pos h3, if_neg h4]
    · have h4 : 0 ≤ (l.getD b.toNat default).v := by omega
      rw [if_neg h3, if_pos h4]
theorem rval_eq (l : List Fact) (k : Key) (known : Int) : rval l k known = valF l k known := by
  funext d
  unfold rval valF
  rw [rat_eq]
  unfold atF atV
  generalize atB l k d known = A
  obtain ⟨f, s⟩ := A
  cases s with
  | false => simp
  | true =>
    simp only [Bool.true_and, decide_eq_true_eq, if_true]
    by_cases h : 0 ≤ f.v
    · rw [if_pos h]; simp; omega
    · rw [if_neg h]; simp; omega
end Go.LH.s04

set_option maxRecDepth 100000
set_option linter.unusedSimpArgs false
set_option linter.unusedVariables false
namespace Go.LH.s04
open Go Go.LH
attribute [local irreducible] W GivesA ND.all
theorem val_at (l : List Fact) (k : Key) (known : Int) (d : Nat) : valF l k known d = if (atF l k d known).2 then (atF l k d known).1 else -1 := by
  rw [← rval_eq]
  unfold rval
  rw [rat_eq]
end Go.LH.s04

set_option maxRecDepth 100000
set_option linter.unusedSimpArgs false
set_option linter.unusedVariables false
namespace Go.LH.s04
open Go Go.LH
attribute [local irreducible] W GivesA
instance : Inhabited Key := ⟨⟨0, 0, 0⟩⟩
def cmpK (a b : Key) : Int := orI [cmpI a.a b.a, cmpI a.b b.b, cmpI a.c b.c]
theorem cmpK_t (n : Nat) (a b : Key) : Gives K (n + 10) 42 [.agg (cKey a), .agg (cKey b)] (I (cmpK a b)) := by
  refine gives_wp ok42 (by rfl) ?_
  simp only [b42, r42_0, r42_1, cmpI_i, or3_i, cmpK, isV_int, WW, callF, calF, stepF, boxF, fillF.o1c, LV.cells, rv, argsG, ND.bind, fieldAt, getAt, eqsV, kindsOk, ekOf, eqC, scEq, Nat.blt, Nat.ble, putP, allK, Nat.reduceAdd, Nat.reduceBEq, List.getD_cons_zero, List.getD_cons_succ, List.getElem?_cons_zero, List.getElem?_cons_succ, List.length_nil, List.length_cons, List.nil_append, List.cons_append, Option.map_some, cond_true, cond_false, beq_self_eq_true, nd_map_ok, List.set_cons_zero, List.set_cons_succ, List.filter_nil, List.isEmpty_nil, List.zip_cons_cons, List.zip_nil_left, List.zip_nil_right, List.all_cons, List.all_nil, Option.isSome_some, List.replicate_succ, List.replicate_zero]
theorem cmpK_i (n : Nat) (a b : Key) (h : Heap) : callIso "" (callN K (n + 10)) (.fn (.func 42) [] []) [.agg (cKey a), .agg (cKey b)] h = .ok (I (cmpK a b)) :=
  iso_gives ⟨open_agg rfl, open_agg rfl, trivial⟩ (cmpK_t n a b)
theorem cmpK_x (n : Nat) (a b : Key) (h : Heap) : calX K (callN K (n + 10)) fnC [.agg (cKey a), .agg (cKey b)] h = .ok (1, I (cmpK a b), none, h) := calX_iso rfl (cmpK_i n a b h)
def ltK (a b : Key) : Bool := decide (cmpK a b < 0)
theorem cmpK_lt (a b : Key) : cmpK a b < 0 ↔ a.a < b.a ∨ a.a = b.a ∧ (a.b < b.b ∨ a.b = b.b ∧ a.c < b.c) := by
  unfold cmpK
  simp only [orI, cmpI]
  rcases Int.lt_trichotomy a.a b.a with h | h | h
  · simp [h]
  · rcases Int.lt_trichotomy a.b b.b with h2 | h2 | h2
    · simp [h, h2]
    · rcases Int.lt_trichotomy a.c b.c with h3 | h3 | h3
      · simp [h, h2, h3]
      · simp [h, h2, h3]
      · have : ¬ a.c < b.c := by omega
        simp [h, h2, h3, this]
    · have h3 : ¬ a.b < b.b := by omega
      have h4 : ¬ a.b = b.b := by omega
      simp [h, h2, h3, h4]
  · have h3 : ¬ a.a < b.a := by omega
    have h4 : ¬ a.a = b.a := by omega
    simp [h, h3, h4]
theorem ltK_t (a b : Key) : ltK a b = true ↔ a.a < b.a ∨ a.a = b.a ∧ (a.b < b.b ∨ a.b = b.b ∧ a.c < b.c) := by unfold ltK; rw [decide_eq_true_eq, cmpK_lt]
theorem ltK_f (a b : Key) : ltK a b = false ↔ ¬ (a.a < b.a ∨ a.a = b.a ∧ (a.b < b.b ∨ a.b = b.b ∧ a.c < b.c)) := by rw [← ltK_t]; simp
theorem swoK : Go.Sort.SWO ltK where
  irrefl := fun x => by rw [ltK_f]; omega
  trans := fun x y z h1 h2 => by rw [ltK_t] at *; omega
  ntrans := fun x y z h1 h2 => by rw [ltK_f] at *; omega
theorem ltK_eq (x y : Key) (h1 : ltK x y = false) (h2 : ltK y x = false) : x = y := by
  rw [ltK_f] at *
  obtain ⟨x1, x2, x3⟩ := x
  obtain ⟨y1, y2, y3⟩ := y
  simp only at h1 h2
  have e1 : x1 = y1 := by omega
  have e2 : x2 = y2 := by omega
  have e3 : x3 = y3 := by omega
  subst e1 e2 e3; rfl
theorem arrK_get {d : Array Key} {i : Nat} (h : i < d.size) : (d.toList.map cKey)[i]? = some (cKey d[i]!) := by
  rw [List.getElem?_map, Array.getElem?_toList, Array.getElem?_eq_getElem h, getElem!_pos d i h]; rfl
theorem swp_size (d : Array Key) (i j : Nat) : (Go.Sort.swp d i j).size = d.size := by simp [Go.Sort.swp]
theorem swp_row {d : Array Key} {i j : Nat} : ((d.toList.map cKey).set i (cKey d[j]!)).set j (cKey d[i]!) = (Go.Sort.swp d i j).toList.map cKey := by
  unfold Go.Sort.swp
  rw [Array.toList_setIfInBounds, Array.toList_setIfInBounds, List.map_set, List.map_set]
theorem arrK_len (d : Array Key) : (d.toList.map cKey).length = d.size := by simp
noncomputable def hk (h : Heap) (b : Nat) (mv : Bool) (d : Array Key) : Heap := hp h b 3 24 mv (d.toList.map cKey)
section
variable {h : Heap} {b : Nat} {mv : Bool} {d : Array Key}
theorem hk_len : (hk h b mv d).length = h.length := hp_len
theorem hk_ix (i : Nat) (hb : b < h.length) (hi : i < d.size) : ixV 3 (hk h b mv d) (.row b 3 none) (.int .i64 (i : Int)) = some (.rptr b i 3 0) := ixs_hp _ _ hb (by rw [arrK_len]; exact hi)
theorem hk_ld (i : Nat) (hb : b < h.length) (hi : i < d.size) : ldV (some 3) (hk h b mv d) (.rptr b i 3 0) = some (.agg (cKey d[i]!)) := by
  unfold hk; rw [ld_hp _ _ hb (arrK_get hi)]; rfl
theorem hk_lenS (hb : b < h.length) : lenSV (hk h b mv d) (.row b 3 none) = some (.int .i64 (d.size : Int)) := by
  unfold hk; rw [len_hp hb, arrK_len]
theorem hk_swap (i j : Nat) (hb : b < h.length) (hi : i < d.size) (hj : j < d.size) :
    ∃ h1, stV 3 (hk h b mv d) (.rptr b i 3 0) (.agg (cKey d[j]!)) = some h1 ∧ ixV 3 h1 (.row b 3 none) (.int .i64 (j : Int)) = some (.rptr b j 3 0) ∧ stV 3 h1 (.rptr b j 3 0) (.agg (cKey d[i]!)) = some (hk h b mv (Go.Sort.swp d i j)) := by
  refine ⟨hp h b 3 24 mv ((d.toList.map cKey).set i (cKey d[j]!)), ?_, ?_, ?_⟩
  · exact stV_hp 3 i hb (ns := cKey d[j]!) (el := cKey d[i]!) rfl rfl rfl rfl (arrK_get hi)
  · exact ixs_hp _ _ hb (by rw [List.length_set, arrK_len]; exact hj)
  · have hg : ((d.toList.map cKey).set i (cKey d[j]!))[j]? = some (cKey d[j]!) := by
      rw [List.getElem?_set]
      split
      · rename_i e; subst e
        rw [if_pos (by rw [arrK_len]; exact hi)]
      · exact arrK_get hj
    rw [stV_hp 3 j hb (ns := cKey d[i]!) (el := cKey d[j]!) rfl rfl rfl rfl hg, swp_row]; rfl
end
theorem clip_row {n b s : Nat} {v : Option (Nat × Nat)} (h : b < n) : (LV.row b s v).clip n = .row b s v := by simp [LV.clip, LV.lim, LV.refs, h]
theorem insInner_size (a : Nat) : ∀ (j : Nat) (d : Array Key), (Go.Sort.insInner ltK a j d).size = d.size
  | 0, d => rfl
  | j + 1, d => by
    rw [Go.Sort.insInner]
    split
    · rw [insInner_size a j, swp_size]
    · rfl
theorem insL (n N : Nat) (h : Heap) (b : Nat) (mv : Bool) (a e i j0 : Nat) (d0 : Array Key) (Q : Ex → G → Heap → Prop) (hb : b < h.length) (hj : j0 < d0.size) (hs : d0.size < 100000) (hn : j0 < N) (hN : N = n + 10)
    (hQ : ∀ j, Q (.exit 2) [(0, .row b 3 none), (1, I a), (2, I e), (3, fnC), (8, I i), (9, I j), (34, .bool false)] (hk h b mv (Go.Sort.insInner ltK a j0 d0))) :
    WP true (iterF h.length N (execT K N (callN K N) l62_0) [(0, .row b 3 none), (1, I a), (2, I e), (3, fnC), (8, I i), (9, I j0)] (hk h b mv d0)) Q := by
  refine wp_loop (fun m g h' => ∃ (j : Nat) (d : Array Key), m = j ∧ j < d.size ∧ d.size = d0.size ∧ Go.Sort.insInner ltK a j d = Go.Sort.insInner ltK a j0 d0 ∧ g = [(0, .row b 3 none), (1, I a), (2, I e), (3, fnC), (8, I i), (9, I j)] ∧ h' = hk h b mv d) ?_ N j0 _ _ ⟨j0, d0, rfl, hj, rfl, rfl, rfl, rfl⟩ hn
  rintro m g h' ⟨j, d, rfl, hjd, hsz, hin, rfl, rfl⟩
  subst hN
  by_cases hja : a < m
  · obtain ⟨j, rfl⟩ : ∃ j, m = j + 1 := ⟨m - 1, by omega⟩
    have hd : decide ((a : Int) < ((j + 1 : Nat) : Int)) = true := decide_eq_true (by omega)
    have e1 : IntKind.i64.wrap (((j + 1 : Nat) : Int) - 1) = (j : Int) := by rw [wrap_id (by omega) (by omega)]; omega
    have ix1 := hk_ix (mv := mv) (d := d) (j + 1) hb hjd
    have ix0 := hk_ix (mv := mv) (d := d) j hb (by omega)
    have ld1 := hk_ld (mv := mv) (d := d) (j + 1) hb hjd
    have ld0 := hk_ld (mv := mv) (d := d) j hb (by omega)
    have hcm := fun h => cmpK_x n d[j + 1]! d[j]! h
    obtain ⟨h1, s1, s2, s3⟩ := hk_swap (mv := mv) (d := d) (j + 1) j hb hjd (by omega)
    have hrec : Go.Sort.insInner ltK a (j + 1) d = if ltK d[j + 1]! d[j]! = true then Go.Sort.insInner ltK a j (Go.Sort.swp d (j + 1) j) else d := by
      rw [Go.Sort.insInner]
      have : decide (j + 1 > a) = true := decide_eq_true hja
      simp only [this, Bool.true_and]
    have hlt : ltK d[j + 1]! d[j]! = decide (cmpK d[j + 1]! d[j]! < 0) := rfl
    have sf1 := fun dd g h => stF_rptr dd 3 g b (j + 1) 3 0 (h := h) (.agg (cKey d[j]!)) rfl
    have sf2 := fun dd g h => stF_rptr dd 3 g b j 3 0 (h := h) (.agg (cKey d[j + 1]!)) rfl
    have hlen : (hk h b mv (Go.Sort.swp d (j + 1) j)).length = h.length := hk_len
    have hszs := swp_size d (j + 1) j
    generalize Go.Sort.swp d (j + 1) j = d' at *
    generalize d[j + 1]! = x1 at *
    generalize d[j]! = x0 at *
    generalize hhe : hk h b mv d = hh at *
    simp only [l62_0, r62_4, hd, e1, ix1, ix0, ld1, ld0, hcm, List.map_cons, List.map_nil, WW, callF, calF, stepF, boxF, fillF.o1c, LV.cells, rv, argsG, ND.bind, fieldAt, getAt, eqsV, kindsOk, ekOf, eqC, scEq, Nat.blt, Nat.ble, putP, allK, Nat.reduceAdd, Nat.reduceBEq, List.getD_cons_zero, List.getD_cons_succ, List.getElem?_cons_zero, List.getElem?_cons_succ, List.length_nil, List.length_cons, List.nil_append, List.cons_append, Option.map_some, cond_true, cond_false, beq_self_eq_true, nd_map_ok, List.set_cons_zero, List.set_cons_succ, List.filter_nil, List.isEmpty_nil, List.zip_cons_cons, List.zip_nil_left, List.zip_nil_right, List.all_cons, List.all_nil, Option.isSome_some, List.replicate_succ, List.replicate_zero]
    refine ⟨fun hc => ?_, fun hc => ?_⟩
    · rw [hlt, hc, if_pos rfl] at hrec
      simp only [r62_5, r62_6, e1, ix1, ix0, ld1, ld0, s1, s2, s3, sf1, sf2, WW, callF, calF, stepF, boxF, fillF.o1c, LV.cells, rv, argsG, ND.bind, fieldAt, getAt, eqsV, kindsOk, ekOf, eqC, scEq, Nat.blt, Nat.ble, putP, allK, Nat.reduceAdd, Nat.reduceBEq, List.getD_cons_zero, List.getD_cons_succ, List.getElem?_cons_zero, List.getElem?_cons_succ, List.length_nil, List.length_cons, List.nil_append, List.cons_append, Option.map_some, cond_true, cond_false, beq_self_eq_true, nd_map_ok, List.set_cons_zero, List.set_cons_succ, List.filter_nil, List.isEmpty_nil, List.zip_cons_cons, List.zip_nil_left, List.zip_nil_right, List.all_cons, List.all_nil, Option.isSome_some, List.replicate_succ, List.replicate_zero]
      rw [trunc_same (by rw [hlen]; exact Nat.le_refl _) (by simp only [mapc_cons, mapc_nil, clip_row hb, clip_int]; rfl)]
      exact ⟨j, by omega, j, d', rfl, by omega, by omega, by rw [← hrec]; exact hin, rfl, rfl⟩
    · rw [hlt, hc] at hrec
      simp only [Bool.false_eq_true, if_false] at hrec
      rw [hc, ← hhe]
      rw [← hin, hrec] at hQ
      exact hQ _
  · have hd : decide ((a : Int) < (m : Int)) = false := decide_eq_false (by omega)
    have hrec : Go.Sort.insInner ltK a m d = d := by
      cases m with
      | zero => rfl
      | succ m =>
        rw [Go.Sort.insInner]
        have : decide (m + 1 > a) = false := decide_eq_false hja
        simp only [this, Bool.false_and, Bool.false_eq_true, if_false]
    simp only [l62_0, r62_4, hd, WW, callF, calF, stepF, boxF, fillF.o1c, LV.cells, rv, argsG, ND.bind, fieldAt, getAt, eqsV, kindsOk, ekOf, eqC, scEq, Nat.blt, Nat.ble, putP, allK, Nat.reduceAdd, Nat.reduceBEq, List.getD_cons_zero, List.getD_cons_succ, List.getElem?_cons_zero, List.getElem?_cons_succ, List.length_nil, List.length_cons, List.nil_append, List.cons_append, Option.map_some, cond_true, cond_false, beq_self_eq_true, nd_map_ok, List.set_cons_zero, List.set_cons_succ, List.filter_nil, List.isEmpty_nil, List.zip_cons_cons, List.zip_nil_left, List.zip_nil_right, List.all_cons, List.all_nil, Option.isSome_some, List.replicate_succ, List.replicate_zero]
    rw [← hin, hrec] at hQ
    exact hQ m
theorem insO (n N : Nat) (h : Heap) (b : Nat) (mv : Bool) (a e : Nat) (d0 : Array Key) (Q : Ex → G → Heap → Prop) (hb : b < h.length) (he : e ≤ d0.size) (hs : d0.size < 100000) (hn : d0.size < N) (hN : N = n + 10)
    (hQ : ∀ i, Q (.exit 0) [(0, .row b 3 none), (1, I a), (2, I e), (3, fnC), (8, I i), (14, .bool false)] (hk h b mv (Go.Sort.insertionSort ltK d0 a e))) :
    WP true (iterF h.length N (execT K N (callN K N) l62_1) [(0, .row b 3 none), (1, I a), (2, I e), (3, fnC), (8, I ((a + 1 : Nat) : Int))] (hk h b mv d0)) Q := by
  refine wp_loop (fun m g h' => ∃ (i : Nat) (d : Array Key) (t : G), m = e - i ∧ d.size = d0.size ∧ Go.Sort.insOuter ltK a e i d = Go.Sort.insertionSort ltK d0 a e ∧ g = (0, .row b 3 none) :: (1, I a) :: (2, I e) :: (3, fnC) :: (8, I i) :: t ∧ h' = hk h b mv d) ?_ N (e - (a + 1)) _ _ ⟨a + 1, d0, [], rfl, rfl, rfl, rfl, rfl⟩ (by omega)
  rintro m g h' ⟨i, d, t, rfl, hsz, hin, rfl, rfl⟩
  simp only [l62_1, r62_1, WW, callF, calF, stepF, boxF, fillF.o1c, LV.cells, rv, argsG, ND.bind, fieldAt, getAt, eqsV, kindsOk, ekOf, eqC, scEq, Nat.blt, Nat.ble, putP, allK, Nat.reduceAdd, Nat.reduceBEq, List.getD_cons_zero, List.getD_cons_succ, List.getElem?_cons_zero, List.getElem?_cons_succ, List.length_nil, List.length_cons, List.nil_append, List.cons_append, Option.map_some, cond_true, cond_false, beq_self_eq_true, nd_map_ok, List.set_cons_zero, List.set_cons_succ, List.filter_nil, List.isEmpty_nil, List.zip_cons_cons, List.zip_nil_left, List.zip_nil_right, List.all_cons, List.all_nil, Option.isSome_some, List.replicate_succ, List.replicate_zero]
  refine ⟨fun hlt => ?_, fun hge => ?_⟩
  · have hlt : i < e := by simpa using hlt
    have e1 : IntKind.i64.wrap ((i : Int) + 1) = ((i + 1 : Nat) : Int) := by rw [wrap_id (by omega) (by omega)]; rfl
    have hrec : Go.Sort.insOuter ltK a e i d = Go.Sort.insOuter ltK a e (i + 1) (Go.Sort.insInner ltK a i d) := by
      conv => lhs; rw [Go.Sort.insOuter, if_pos hlt]
    have hsi := insInner_size a i d
    simp only [r62_3, x_loop, hk_len, WW, callF, calF, stepF, boxF, fillF.o1c, LV.cells, rv, argsG, ND.bind, fieldAt, getAt, eqsV, kindsOk, ekOf, eqC, scEq, Nat.blt, Nat.ble, putP, allK, Nat.reduceAdd, Nat.reduceBEq, List.getD_cons_zero, List.getD_cons_succ, List.getElem?_cons_zero, List.getElem?_cons_succ, List.length_nil, List.length_cons, List.nil_append, List.cons_append, Option.map_some, cond_true, cond_false, beq_self_eq_true, nd_map_ok, List.set_cons_zero, List.set_cons_succ, List.filter_nil, List.isEmpty_nil, List.zip_cons_cons, List.zip_nil_left, List.zip_nil_right, List.all_cons, List.all_nil, Option.isSome_some, List.replicate_succ, List.replicate_zero]
    refine insL n N h b mv a e i i d _ hb (by omega) (by omega) (by omega) hN fun j => ?_
    simp only [r62_2, e1, WW, callF, calF, stepF, boxF, fillF.o1c, LV.cells, rv, argsG, ND.bind, fieldAt, getAt, eqsV, kindsOk, ekOf, eqC, scEq, Nat.blt, Nat.ble, putP, allK, Nat.reduceAdd, Nat.reduceBEq, List.getD_cons_zero, List.getD_cons_succ, List.getElem?_cons_zero, List.getElem?_cons_succ, List.length_nil, List.length_cons, List.nil_append, List.cons_append, Option.map_some, cond_true, cond_false, beq_self_eq_true, nd_map_ok, List.set_cons_zero, List.set_cons_succ, List.filter_nil, List.isEmpty_nil, List.zip_cons_cons, List.zip_nil_left, List.zip_nil_right, List.all_cons, List.all_nil, Option.isSome_some, List.replicate_succ, List.replicate_zero]
    rw [trunc_same (by rw [hk_len]; exact Nat.le_refl _) (by simp only [mapc_cons, mapc_nil, clip_row hb, clip_int]; rfl)]
    exact ⟨e - (i + 1), by omega, i + 1, _, [], rfl, by omega, by rw [← hrec]; exact hin, rfl, rfl⟩
  · have hge' : ¬ i < e := by simp at hge; omega
    have hrec : Go.Sort.insOuter ltK a e i d = d := by rw [Go.Sort.insOuter, if_neg hge']
    rw [← hin, hrec] at hQ
    have : decide ((i : Int) < (e : Int)) = false := hge
    rw [this]
    exact hQ i
theorem ins_t (n : Nat) (h : Heap) (b : Nat) (mv : Bool) (a e : Nat) (d : Array Key) (hb : b < h.length) (ha : a < 100000) (he : e ≤ d.size) (hs : d.size < 100000) (hn : d.size < n) :
    callN K (n + 11) (.fn (.func 62) [] []) [.row b 3 none, I a, I e, fnC] (hk h b mv d) = .ok (.tup [], hk h b mv (Go.Sort.insertionSort ltK d a e)) := by
  have hw : W true (callN K (n + 11) (.fn (.func 62) [] []) [.row b 3 none, I a, I e, fnC] (hk h b mv d)) fun r => r.1 = .tup [] ∧ r.2 = hk h b mv (Go.Sort.insertionSort ltK d a e) := by
    refine w_call (args := [.row b 3 none, I a, I e, fnC]) (h := hk h b mv d) (R := fun v h' => v = .tup [] ∧ h' = hk h b mv (Go.Sort.insertionSort ltK d a e)) ok62 rfl ?_
    have e1 : IntKind.i64.wrap ((a : Int) + 1) = ((a + 1 : Nat) : Int) := by rw [wrap_id (by omega) (by omega)]; rfl
    simp only [b62, r62_0, x_loop, e1, hk_len, WW, callF, calF, stepF, boxF, fillF.o1c, LV.cells, rv, argsG, ND.bind, fieldAt, getAt, eqsV, kindsOk, ekOf, eqC, scEq, Nat.blt, Nat.ble, putP, allK, Nat.reduceAdd, Nat.reduceBEq, List.getD_cons_zero, List.getD_cons_succ, List.getElem?_cons_zero, List.getElem?_cons_succ, List.length_nil, List.length_cons, List.nil_append, List.cons_append, Option.map_some, cond_true, cond_false, beq_self_eq_true, nd_map_ok, List.set_cons_zero, List.set_cons_succ, List.filter_nil, List.isEmpty_nil, List.zip_cons_cons, List.zip_nil_left, List.zip_nil_right, List.all_cons, List.all_nil, Option.isSome_some, List.replicate_succ, List.replicate_zero]
    refine insO n (n + 10) h b mv a e d _ hb he hs (by omega) rfl fun i => ?_
    simp only [WW, callF, calF, stepF, boxF, fillF.o1c, LV.cells, rv, argsG, ND.bind, fieldAt, getAt, eqsV, kindsOk, ekOf, eqC, scEq, Nat.blt, Nat.ble, putP, allK, Nat.reduceAdd, Nat.reduceBEq, List.getD_cons_zero, List.getD_cons_succ, List.getElem?_cons_zero, List.getElem?_cons_succ, List.length_nil, List.length_cons, List.nil_append, List.cons_append, Option.map_some, cond_true, cond_false, beq_self_eq_true, nd_map_ok, List.set_cons_zero, List.set_cons_succ, List.filter_nil, List.isEmpty_nil, List.zip_cons_cons, List.zip_nil_left, List.zip_nil_right, List.all_cons, List.all_nil, Option.isSome_some, List.replicate_succ, List.replicate_zero]
    exact ⟨trivial, trivial⟩
  unfold W at hw
  obtain ⟨⟨v, h'⟩, h1, rfl, rfl⟩ := hw
  exact h1
theorem xcal_hk {cf : CallF} {f : LV} {args : List LV} {h : Heap} {b : Nat} {mv : Bool} {d d' : Array Key} {v : LV} {dd : Option Nat} {g : G} (hi : isoOf K f = 0)
    (hc : cf f args (hk (calm h) b false d) = .ok (v, hk (calm h) b false d')) : xF dd g (calX K cf f args (hk h b mv d)) = .ok (3, putG g dd v, hk h b mv d') := xcal_hp hi hc
theorem pdq12_t (n : Nat) (h : Heap) (b : Nat) (mv : Bool) (lim : Int) (d : Array Key) (hb : b < h.length) (hs : d.size ≤ 12) (hn : d.size < n) :
    callN K (n + 12) (.fn (.func 60) [] []) [.row b 3 none, I 0, I d.size, I lim, fnC] (hk h b mv d) = .ok (.tup [], hk h b mv (Go.Sort.insertionSort ltK d 0 d.size)) := by
  have hw : W true (callN K (n + 12) (.fn (.func 60) [] []) [.row b 3 none, I 0, I d.size, I lim, fnC] (hk h b mv d)) fun r => r.1 = .tup [] ∧ r.2 = hk h b mv (Go.Sort.insertionSort ltK d 0 d.size) := by
    refine w_call (args := [.row b 3 none, I 0, I d.size, I lim, fnC]) (h := hk h b mv d) (R := fun v h' => v = .tup [] ∧ h' = hk h b mv (Go.Sort.insertionSort ltK d 0 d.size)) ok60 rfl ?_
    have e1 : IntKind.i64.wrap ((d.size : Int) - 0) = (d.size : Int) := by rw [wrap_id (by omega) (by omega)]; omega
    have hle : decide ((d.size : Int) ≤ 12) = true := decide_eq_true (by omega)
    have hi : isoOf K (.fn (.func 62) [] []) = 0 := rfl
    have hx := fun dd g => xcal_hk (mv := mv) (dd := dd) (g := g) (v := .tup []) hi (ins_t n (calm h) b false 0 d.size d (by rw [calm_len]; exact hb) (by omega) (Nat.le_refl _) (by omega) hn)
    simp only [b60, r60_0, r60_1, x_loop, hk_len, WW, callF, calF, stepF, boxF, fillF.o1c, LV.cells, rv, argsG, ND.bind, fieldAt, getAt, eqsV, kindsOk, ekOf, eqC, scEq, Nat.blt, Nat.ble, putP, allK, Nat.reduceAdd, Nat.reduceBEq, List.getD_cons_zero, List.getD_cons_succ, List.getElem?_cons_zero, List.getElem?_cons_succ, List.length_nil, List.length_cons, List.nil_append, List.cons_append, Option.map_some, cond_true, cond_false, beq_self_eq_true, nd_map_ok, List.set_cons_zero, List.set_cons_succ, List.filter_nil, List.isEmpty_nil, List.zip_cons_cons, List.zip_nil_left, List.zip_nil_right, List.all_cons, List.all_nil, Option.isSome_some, List.replicate_succ, List.replicate_zero]
    refine wp_it ?_
    have hx' := fun dd g => hx dd g
    simp only [Int.natCast_zero] at hx'
    simp only [l60_0, r60_2, r60_3, r60_4, e1, hle, hx', WW, callF, calF, stepF, boxF, fillF.o1c, LV.cells, rv, argsG, ND.bind, fieldAt, getAt, eqsV, kindsOk, ekOf, eqC, scEq, Nat.blt, Nat.ble, putP, allK, Nat.reduceAdd, Nat.reduceBEq, List.getD_cons_zero, List.getD_cons_succ, List.getElem?_cons_zero, List.getElem?_cons_succ, List.length_nil, List.length_cons, List.nil_append, List.cons_append, Option.map_some, cond_true, cond_false, beq_self_eq_true, nd_map_ok, List.set_cons_zero, List.set_cons_succ, List.filter_nil, List.isEmpty_nil, List.zip_cons_cons, List.zip_nil_left, List.zip_nil_right, List.all_cons, List.all_nil, Option.isSome_some, List.replicate_succ, List.replicate_zero]
    exact ⟨[], rfl, rfl, rfl⟩
  unfold W at hw
  obtain ⟨⟨v, h'⟩, h1, rfl, rfl⟩ := hw
  exact h1
def sortK (ks : List Key) : List Key := ks.mergeSort fun x y => !ltK y x
theorem u64_all : ((List.range 64).all fun k => IntKind.u64.wrap ((k : Nat) : Int) == ((k : Nat) : Int)) = true := by kernel_rfl
theorem u64_id {k : Nat} (h : k < 64) : IntKind.u64.wrap (k : Int) = (k : Int) := by
  have := List.all_eq_true.1 u64_all k (List.mem_range.2 h)
  simpa using this
theorem sort12_t (n : Nat) (h : Heap) (b : Nat) (mv : Bool) (d : Array Key) (hb : b < h.length) (hs : d.size ≤ 12) (hn : d.size < n) :
    callN K (n + 13) (.fn (.func 55) [] []) [.row b 3 none, fnC] (hk h b mv d) = .ok (.tup [], hk h b mv (Go.Sort.insertionSort ltK d 0 d.size)) := by
  have hw : W true (callN K (n + 13) (.fn (.func 55) [] []) [.row b 3 none, fnC] (hk h b mv d)) fun r => r.1 = .tup [] ∧ r.2 = hk h b mv (Go.Sort.insertionSort ltK d 0 d.size) := by
    refine w_call (args := [.row b 3 none, fnC]) (h := hk h b mv d) (R := fun v h' => v = .tup [] ∧ h' = hk h b mv (Go.Sort.insertionSort ltK d 0 d.size)) ok55 rfl ?_
    have hi : isoOf K (.fn (.func 60) [] []) = 0 := rfl
    have hlen := hk_lenS (mv := mv) (d := d) hb
    have e1 := u64_id (k := d.size) (by omega)
    have hll := fun h => len_i (n + 2) d.size (by omega) h
    have hx := fun dd g => xcal_hk (mv := mv) (dd := dd) (g := g) (v := .tup []) hi (pdq12_t n (calm h) b false (Go.Sort.bitsLen d.size) d (by rw [calm_len]; exact hb) hs hn)
    simp only [b55, r55_0, r55_1, hlen, e1, hll, hx, WW, callF, calF, stepF, boxF, fillF.o1c, LV.cells, rv, argsG, ND.bind, fieldAt, getAt, eqsV, kindsOk, ekOf, eqC, scEq, Nat.blt, Nat.ble, putP, allK, Nat.reduceAdd, Nat.reduceBEq, List.getD_cons_zero, List.getD_cons_succ, List.getElem?_cons_zero, List.getElem?_cons_succ, List.length_nil, List.length_cons, List.nil_append, List.cons_append, Option.map_some, cond_true, cond_false, beq_self_eq_true, nd_map_ok, List.set_cons_zero, List.set_cons_succ, List.filter_nil, List.isEmpty_nil, List.zip_cons_cons, List.zip_nil_left, List.zip_nil_right, List.all_cons, List.all_nil, Option.isSome_some, List.replicate_succ, List.replicate_zero]
    exact ⟨trivial, trivial⟩
  unfold W at hw
  obtain ⟨⟨v, h'⟩, h1, rfl, rfl⟩ := hw
  exact h1
theorem ins_sorts (es : List Key) : (Go.Sort.insertionSort ltK es.toArray 0 es.toArray.size).toList = sortK es := by
  obtain ⟨h1, h2⟩ := Go.Sort.insertionSort_holds swoK es.toArray 0 es.toArray.size (Nat.zero_le _) (Nat.le_refl _)
  have := Go.Sort.sorted_unique_holds swoK ltK_eq es.toArray _ h1 h2
  simpa [sortK] using this
theorem sortK_pw (a : List Key) : (sortK a).Pairwise fun x y => (!ltK y x) = true := by
  refine List.pairwise_mergeSort (fun x y z h1 h2 => ?_) (fun x y => ?_) a
  · simp only [Bool.not_eq_true'] at *
    exact swoK.ntrans _ _ _ h2 h1
  · cases h1 : ltK y x with
    | false => rfl
    | true =>
      cases h2 : ltK x y with
      | false => rfl
      | true =>
        have := swoK.trans _ _ _ h1 h2
        rw [swoK.irrefl] at this; cases this
theorem sortK_p (a : List Key) : (sortK a).Perm a := List.mergeSort_perm a _
theorem sortK_perm {a b : List Key} (h : a.Perm b) : sortK a = sortK b := by
  have hp : (sortK a).Perm b := (sortK_p a).trans h
  have hl : (sortK a).toArray.size = b.toArray.size := by simpa using hp.length_eq
  have := Go.Sort.sorted_unique_holds swoK ltK_eq b.toArray (sortK a).toArray ⟨hl, fun i hi => ?_, ?_⟩ ?_
  · simpa [sortK] using this
  · rcases hi with hi | hi
    · omega
    · rw [getElem!_neg _ _ (by omega), getElem!_neg _ _ (by omega)]
  · have e1 : ((sortK a).toArray.extract 0 b.toArray.size) = (sortK a).toArray := by rw [← hl]; exact Array.extract_size ..
    have e2 : (b.toArray.extract 0 b.toArray.size) = b.toArray := Array.extract_size ..
    rw [e1, e2]
    exact hp
  · intro i j _ hij hj
    have hj' : j < (sortK a).length := by have := hl; simp at this hj ⊢; omega
    have hpw := List.pairwise_iff_getElem.1 (sortK_pw a) i j (by omega) hj' hij
    rw [getElem!_pos _ _ (by simpa using hj'), getElem!_pos _ _ (by simp; omega)]
    simpa using hpw
theorem sorts12 (ks es : List Key) (hp : es.Perm ks) (hl : ks.length ≤ 12) : SortsTo 40 es (sortK ks) := by
  intro n hn h b mv hb
  obtain ⟨n, rfl⟩ : ∃ j, n = j + 13 := ⟨n - 13, by omega⟩
  have hsz : es.toArray.size ≤ 12 := by have := hp.length_eq; simp; omega
  have := sort12_t n h b mv es.toArray hb hsz (by omega)
  unfold hk at this
  rw [ins_sorts, sortK_perm hp] at this
  exact this
end Go.LH.s04

set_option maxRecDepth 100000
set_option linter.unusedSimpArgs false
set_option linter.unusedVariables false
namespace Go.LH.s04
open Go Go.LH
attribute [local irreducible] W GivesA ND.all
structure DaysOK (a b : Nat → Int) (n : Nat) (ds : List (Int × Int)) : Prop where
  apart : ds.Pairwise fun p q => p.2 < q.1
  diff : ∀ p ∈ ds, ∀ d : Nat, p.1 ≤ d → (d : Int) < p.2 → a d ≠ b d
  all : ∀ d, d < n → a d ≠ b d → ∃ p ∈ ds, p.1 ≤ (d : Int) ∧ (d : Int) < p.2
theorem daysN_ok (a b : Nat → Int) : ∀ n, DaysOK a b n (daysN a b n)
  | 0 => ⟨List.Pairwise.nil, (fun p hp => by cases hp), (fun d hd => by omega)⟩
  | n + 1 => by
    have ih := daysN_ok a b n
    have hto := daysN_to a b n
    simp only [daysN, stepD]
    generalize daysN a b n = ds at *
    by_cases hc : a n = b n
    · rw [if_pos hc]
      refine ⟨ih.apart, ih.diff, fun d hd hne => ?_⟩
      rcases Nat.lt_or_ge d n with h | h
      · exact ih.all d h hne
      · have : d = n := by omega
        subst this; exact absurd hc hne
    · rw [if_neg hc]
      rcases List.eq_nil_or_concat ds with he | ⟨ds', p, he⟩
      · subst he
        simp only [List.getLast?_nil]
        refine ⟨by simp, fun p hp d h1 h2 => ?_, fun d hd hne => ?_⟩
        · have : p = ((n : Int), (n : Int) + 1) := by simpa using hp
          subst this
          simp only at h1 h2
          have : d = n := by omega
          subst this; exact hc
        · rcases Nat.lt_or_ge d n with h | h
          · obtain ⟨p, hp, _⟩ := ih.all d h hne
            cases hp
          · exact ⟨((n : Int), (n : Int) + 1), by simp, by simp only; omega, by simp only; omega⟩
      · rw [List.concat_eq_append] at he
        subst he
        have hp := hto p (by simp)
        simp only [List.getLast?_append, List.getLast?_singleton, Option.some_or, List.dropLast_concat]
        have hap := List.pairwise_append.1 ih.apart
        by_cases hpn : p.2 = (n : Int)
        · rw [if_pos hpn]
          refine ⟨?_, fun q hq d h1 h2 => ?_, fun d hd hne => ?_⟩
          · rw [List.pairwise_append]
            refine ⟨hap.1, by simp, fun x hx y hy => ?_⟩
            have : y = (p.1, p.2 + 1) := by simpa using hy
            subst this
            exact hap.2.2 x hx p (by simp)
          · rw [List.mem_append] at hq
            rcases hq with hq | hq
            · exact ih.diff q (by simp [hq]) d h1 h2
            · have : q = (p.1, p.2 + 1) := by simpa using hq
              subst this
              simp only at h1 h2
              by_cases hdn : (d : Int) < p.2
              · exact ih.diff p (by simp) d h1 hdn
              · have : d = n := by omega
                subst this; exact hc
          · rcases Nat.lt_or_ge d n with h | h
            · obtain ⟨q, hq, h1, h2⟩ := ih.all d h hne
              rw [List.mem_append] at hq
              rcases hq with hq | hq
              · exact ⟨q, by simp [hq], h1, h2⟩
              · have : q = p := by simpa using hq
                subst this
                exact ⟨(q.1, q.2 + 1), by simp, h1, by simp only; omega⟩
            · exact ⟨(p.1, p.2 + 1), by simp, by simp only; omega, by simp only; omega⟩
        · rw [if_neg hpn]
          refine ⟨?_, fun q hq d h1 h2 => ?_, fun d hd hne => ?_⟩
          · rw [List.pairwise_append]
            refine ⟨ih.apart, by simp, fun x hx y hy => ?_⟩
            have : y = ((n : Int), (n : Int) + 1) := by simpa using hy
            subst this
            rw [List.mem_append] at hx
            rcases hx with hx | hx
            · have h1 := hap.2.2 x hx p (by simp)
              simp only; omega
            · have : x = p := by simpa using hx
              subst this
              simp only; omega
          · rw [List.mem_append] at hq
            rcases hq with hq | hq
            · exact ih.diff q hq d h1 h2
            · have : q = ((n : Int), (n : Int) + 1) := by simpa using hq
              subst this
              simp only at h1 h2
              have : d = n := by omega
              subst this; exact hc
          · rcases Nat.lt_or_ge d n with h | h
            · obtain ⟨q, hq, h1, h2⟩ := ih.all d h hne
              exact ⟨q, List.mem_append_left _ hq, h1, h2⟩
            · exact ⟨((n : Int), (n : Int) + 1), by simp, by simp only; omega, by simp only; omega⟩
theorem ptsN_mem (v : Nat → Int) (a : Nat) : ∀ (c : Nat) (p : Int × Int), p ∈ ptsN v a c ↔ ∃ i, i < c ∧ p = (((a + i : Nat) : Int), v (a + i)) ∧ 0 ≤ v (a + i)
  | 0, p => by simp [ptsN]
  | c + 1, p => by
    rw [ptsN, List.mem_append, ptsN_mem v a c]
    constructor
    · rintro (⟨i, h1, h2⟩ | h)
      · exact ⟨i, by omega, h2⟩
      · split at h
        · rename_i hv
          exact ⟨c, by omega, by simpa using h, hv⟩
        · cases h
    · rintro ⟨i, h1, h2, h3⟩
      rcases Nat.lt_or_ge i c with h | h
      · exact .inl ⟨i, h, h2, h3⟩
      · have : i = c := by omega
        subst this
        right; rw [if_pos h3, h2]; simp
theorem ptsN_congr {v w : Nat → Int} {a : Nat} : ∀ {c : Nat}, (∀ i, i < c → v (a + i) = w (a + i)) → ptsN v a c = ptsN w a c
  | 0, _ => rfl
  | c + 1, h => by rw [ptsN, ptsN, ptsN_congr (fun i hi => h i (by omega)), h c (by omega)]
theorem ptsN_eq {v w : Nat → Int} {a c : Nat} (hv : ∀ d, -1 ≤ v d) (hw : ∀ d, -1 ≤ w d) : ptsN v a c = ptsN w a c ↔ ∀ i, i < c → v (a + i) = w (a + i) := by
  refine ⟨fun h i hi => ?_, ptsN_congr⟩
  have h1 := hv (a + i)
  have h2 := hw (a + i)
  by_cases h3 : 0 ≤ v (a + i)
  · have : (((a + i : Nat) : Int), v (a + i)) ∈ ptsN w a c := by rw [← h]; exact (ptsN_mem ..).2 ⟨i, hi, rfl, h3⟩
    obtain ⟨j, _, h5, _⟩ := (ptsN_mem ..).1 this
    simp only [Prod.mk.injEq] at h5
    have : j = i := by omega
    subst this; exact h5.2
  · by_cases h4 : 0 ≤ w (a + i)
    · have : (((a + i : Nat) : Int), w (a + i)) ∈ ptsN v a c := by rw [h]; exact (ptsN_mem ..).2 ⟨i, hi, rfl, h4⟩
      obtain ⟨j, _, h5, _⟩ := (ptsN_mem ..).1 this
      simp only [Prod.mk.injEq] at h5
      have : j = i := by omega
      subst this; exact h5.2.symm
    · omega
theorem valF_ge (l : List Fact) (k : Key) (known : Int) (d : Nat) : -1 ≤ valF l k known d := by
  unfold valF
  simp only
  split <;> omega
theorem valF_none {l : List Fact} {k : Key} (h : k ∉ keysF l) (known : Int) (d : Nat) : valF l k known d = -1 := by
  have : l.filter (ofF k known) = [] := by
    rw [List.filter_eq_nil_iff]
    intro f hf
    have : f.k ≠ k := fun e => h ((keysF_mem l k).2 ⟨f, hf, e⟩)
    simp [ofF, this]
  simp [valF, atB, this]
def spH (r : Read) (k : Key) (p : Int × Int) : Bool := decide (k = r.k) && decide (max r.fr p.1 < min r.to p.2)
def hitIn (r : Read) (k : Key) (ds : List (Int × Int)) : Bool := ds.any (spH r k)
def hitAll (r : Read) (cs : List Dif) : Bool := cs.any fun c => hitIn r c.1 c.2
theorem chg_mem {l : List Fact} {bf af : Int} {out : List Key} {c : Dif} : c ∈ chgL l bf af out ↔ c.1 ∈ out ∧ c.2 = dayF l bf af c.1 ∧ (dayF l bf af c.1).length ≠ 0 := by
  unfold chgL
  rw [List.mem_filterMap]
  constructor
  · rintro ⟨k, h1, h2⟩
    split at h2
    · cases h2
    · rename_i h3
      cases h2
      exact ⟨h1, rfl, h3⟩
  · rintro ⟨h1, h2, h3⟩
    exact ⟨c.1, h1, by rw [if_neg h3, ← h2]⟩
theorem read_alike (l : List Fact) (r : Read) (bf af : Int) (out : List Key) (ho : ∀ k, k ∈ out ↔ k ∈ keysF l) : alikeF l [r] bf af = !hitAll r (chgL l bf af out) := by
  have e1 : alikeF l [r] bf af = decide (ptsF l r.k r.fr r.to bf = ptsF l r.k r.fr r.to af) := by simp [alikeF, alike1]
  rw [e1]
  have hd := daysN_ok (valF l r.k bf) (valF l r.k af) 1024
  have hto := daysN_to (valF l r.k bf) (valF l r.k af) 1024
  cases hh : hitAll r (chgL l bf af out) with
  | true =>
    simp only [hitAll, hitIn, List.any_eq_true, spH, Bool.and_eq_true, decide_eq_true_eq] at hh
    obtain ⟨c, hc, p, hp, hk, hlt⟩ := hh
    obtain ⟨c1, c2, c3⟩ := chg_mem.1 hc
    rw [c2, hk] at hp
    have h1 := hto p hp
    rw [Bool.not_true, decide_eq_false_iff_not]
    intro he
    unfold ptsF at he
    rw [ptsN_eq (valF_ge l r.k bf) (valF_ge l r.k af)] at he
    have h2 := hd.diff p hp (max r.fr p.1).toNat (by omega) (by omega)
    apply h2
    have h3 := he ((max r.fr p.1).toNat - (max 0 r.fr).toNat) (by omega)
    rw [show (max 0 r.fr).toNat + ((max r.fr p.1).toNat - (max 0 r.fr).toNat) = (max r.fr p.1).toNat by omega] at h3
    exact h3
  | false =>
    rw [Bool.not_false, decide_eq_true_eq]
    unfold ptsF
    rw [ptsN_eq (valF_ge l r.k bf) (valF_ge l r.k af)]
    intro i hi
    refine Classical.byContradiction fun hne => ?_
    have hkin : r.k ∈ keysF l := Classical.byContradiction fun hk => hne (by rw [valF_none hk, valF_none hk])
    obtain ⟨p, hp, h1, h2⟩ := hd.all ((max 0 r.fr).toNat + i) (by omega) hne
    have hlen : (dayF l bf af r.k).length ≠ 0 := fun h => by
      rw [List.length_eq_zero_iff] at h
      rw [show daysN (valF l r.k bf) (valF l r.k af) 1024 = dayF l bf af r.k from rfl, h] at hp
      cases hp
    have : hitAll r (chgL l bf af out) = true := by
      simp only [hitAll, hitIn, List.any_eq_true, spH, Bool.and_eq_true, decide_eq_true_eq]
      exact ⟨(r.k, dayF l bf af r.k), chg_mem.2 ⟨(ho _).2 hkin, rfl, hlen⟩, p, hp, rfl, by omega⟩
    rw [hh] at this; cases this
instance : Inhabited (Int × Int) := ⟨(0, 0)⟩
theorem dif_at (l : List Fact) (k : Key) (bf af : Int) (d : Nat) (h : valF l k bf d ≠ valF l k af d) : (((atF l k d bf).2 == (atF l k d af).2) && ((atF l k d bf).1 == (atF l k d af).1)) = false := by
  rw [val_at, val_at] at h
  generalize atF l k d bf = A at *
  generalize atF l k d af = B at *
  obtain ⟨a1, a2⟩ := A
  obtain ⟨b1, b2⟩ := B
  simp only at h ⊢
  rw [Bool.and_eq_false_iff]
  by_cases h2 : a2 = b2
  · subst h2
    right
    simp only [beq_eq_false_iff_ne]
    intro e; subst e; exact h rfl
  · left; simpa using h2
@[reducible] def heapR (r : Read) : Heap := [some (.cells (cRead r) 54)]
theorem law9_in (N : Nat) (cf : CallF) (b : Bool) (l : List Fact) (r : Read) (bf af : Int) (cs : List Dif) (i : Nat) (h0 : Bool) (hN : 3000 < N) (hi : i < cs.length) (hil : i < 100) (Q : Ex → G → Heap → Prop)
    (hds : (cs.getD i default).2 = dayF l bf af (cs.getD i default).1)
    (a1 : ∀ k (d : Nat) h, callIso "" cf (.fn (.func 18) [] []) [sF (some b) false l, .agg (cKey k), I d, I bf] h = .ok (.tup [I (atF l k d bf).1, .bool (atF l k d bf).2]))
    (a2 : ∀ k (d : Nat) h, callIso "" cf (.fn (.func 18) [] []) [sF (some b) false l, .agg (cKey k), I d, I af] h = .ok (.tup [I (atF l k d af).1, .bool (atF l k d af).2]))
    (hQ : ∀ t, Q (.exit 2) ((0, sF (some b) false l) :: (2, I bf) :: (3, I af) :: (5, .ptr 0 0) :: (9, .sl 4 none false (cs.map cDif)) :: (10, .bool (h0 || hitIn r (cs.getD i default).1 (cs.getD i default).2)) :: (11, I i) :: t) (heapR r)) :
    WP false (iterF 1 N (execT K N cf l9_0) [(0, sF (some b) false l), (2, I bf), (3, I af), (5, .ptr 0 0), (9, .sl 4 none false (cs.map cDif)), (10, .bool h0), (11, I i), (12, I 0)] (heapR r)) Q := by
  have hgc : (cs.map cDif)[i]? = some (cDif (cs.getD i default)) := by simp [List.getD_eq_getElem?_getD, hi]
  have hok := daysN_ok (valF l (cs.getD i default).1 bf) (valF l (cs.getD i default).1 af) 1024
  have hto := daysN_to (valF l (cs.getD i default).1 bf) (valF l (cs.getD i default).1 af) 1024
  have hlen := daysN_len (valF l (cs.getD i default).1 bf) (valF l (cs.getD i default).1 af) 1024
  rw [show daysN (valF l (cs.getD i default).1 bf) (valF l (cs.getD i default).1 af) 1024 = dayF l bf af (cs.getD i default).1 from rfl, ← hds] at hok hto hlen
  clear hds
  generalize cs.getD i default = c at *
  obtain ⟨k, ds⟩ := c
  simp only at hok hto hlen hQ
  refine wp_loop (fun m g h => ∃ (j : Nat) (t : G), j ≤ ds.length ∧ m = ds.length - j ∧ g = (0, sF (some b) false l) :: (2, I bf) :: (3, I af) :: (5, .ptr 0 0) :: (9, .sl 4 none false (cs.map cDif)) :: (10, .bool (h0 || hitIn r k (ds.take j))) :: (11, I i) :: (12, I j) :: t ∧ h = heapR r) ?_ N ds.length _ _ ⟨0, [], by omega, by omega, by simp [hitIn], rfl⟩ (by omega)
  rintro m g h ⟨j, t, hj, rfl, rfl, rfl⟩
  simp only [l9_0, r9_11, hgc, List.length_map, WW, callF, calF, stepF, boxF, fillF.o1c, LV.cells, rv, argsG, ND.bind, fieldAt, getAt, eqsV, kindsOk, ekOf, eqC, scEq, Nat.blt, Nat.ble, putP, allK, Nat.reduceAdd, Nat.reduceBEq, List.getD_cons_zero, List.getD_cons_succ, List.getElem?_cons_zero, List.getElem?_cons_succ, List.length_nil, List.length_cons, List.nil_append, List.cons_append, Option.map_some, cond_true, cond_false, beq_self_eq_true, nd_map_ok, List.set_cons_zero, List.set_cons_succ, List.filter_nil, List.isEmpty_nil, List.zip_cons_cons, List.zip_nil_left, List.zip_nil_right, List.all_cons, List.all_nil, Option.isSome_some, List.replicate_succ, List.replicate_zero]
  refine ⟨fun hlt => ?_, fun hge => ?_⟩
  · have hlt : j < ds.length := by simpa using hlt
    have e1 : IntKind.i64.wrap ((j : Int) + 1) = ((j + 1 : Nat) : Int) := by rw [wrap_id (by omega) (by omega)]; rfl
    have hgs : (ds.map cSp)[j]? = some (cSp ds[j]) := by simp [hlt]
    have hmem : ds[j] ∈ ds := List.getElem_mem hlt
    have hp := hto _ hmem
    have hnext : (h0 || hitIn r k (ds.take (j + 1))) = ((h0 || hitIn r k (ds.take j)) || spH r k ds[j]) := by
      rw [List.take_add_one, List.getElem?_eq_getElem hlt]
      unfold hitIn
      rw [List.any_append]
      simp only [Option.toList_some, List.any_cons, List.any_nil, Bool.or_false, Bool.or_assoc]
    have hprev : ∀ j', j = j' + 1 → ∀ (hj' : j' < ds.length), (ds[j']).2 < (ds[j]).1 := fun j' e hj' => by
      subst e
      exact List.pairwise_iff_getElem.1 hok.apart j' (j' + 1) hj' hlt (by omega)
    obtain ⟨d, hd⟩ : ∃ d : Nat, (ds[j]).1 = d := ⟨(ds[j]).1.toNat, by omega⟩
    have hdif := dif_at l k bf af d (hok.diff _ hmem d (by omega) (by omega))
    have a1 := a1 k d
    have a2 := a2 k d
    have hspe : spH r k ds[j] = (decide (k = r.k) && decide (max r.fr (d : Int) < min r.to (ds[j]).2)) := by rw [spH, hd]
    generalize hP : ds[j] = p at *
    obtain ⟨p1, p2⟩ := p
    simp only at hd hp hspe
    subst hd
    generalize hhn : hitIn r k (ds.take (j + 1)) = hn at *
    generalize hitIn r k (ds.take j) = hc at *
    generalize spH r k ((d : Int), p2) = sp at *
    generalize atF l k d bf = A at *
    generalize atF l k d af = B at *
    have c1 : decide (p2 ≤ (d : Int)) = false := decide_eq_false (by omega)
    have c2 : decide ((d : Int) < 0) = false := decide_eq_false (by omega)
    have c3 : decide (1024 < p2) = false := decide_eq_false (by omega)
    have fin : ∀ (h1 : Bool) (X : Heap), (h0 || hn) = h1 →
        lpQ 1 (ds.length - j) (fun m g h => ∃ (j : Nat) (t : G), j ≤ ds.length ∧ m = ds.length - j ∧ g = (0, sF (some b) false l) :: (2, I bf) :: (3, I af) :: (5, .ptr 0 0) :: (9, .sl 4 none false (cs.map cDif)) :: (10, .bool (h0 || hitIn r k (ds.take j))) :: (11, I i) :: (12, I j) :: t ∧ h = heapR r) Q .normal
          [(0, sF (some b) false l), (2, I bf), (3, I af), (5, .ptr 0 0), (9, .sl 4 none false (cs.map cDif)), (10, .bool h1), (11, I i), (12, I ((j + 1 : Nat) : Int))] (heapR r ++ X) := fun h1 X e => by
      have ht : (heapR r ++ X).take 1 = heapR r := rfl
      rw [lpQ_n, trunc_of _ ht rfl]
      exact ⟨ds.length - (j + 1), by omega, j + 1, [], by omega, rfl, by rw [hhn, e]; rfl, rfl⟩
    have e14 : WP false (rgD [] [0, 2, 3, 5, 9, 10, 11, 12, 13, 84] (runT K cf r9_14 [(0, sF (some b) false l), (2, I bf), (3, I af), (5, .ptr 0 0), (9, .sl 4 none false (cs.map cDif)), (10, .bool (h0 || hc)), (11, I i), (12, I j), (13, .ptr 1 0)] [some (.cells (cRead r) 54), some (.cells [I d, I p2] 26)])) fun e g h => e = .normal ∧ g = [(0, sF (some b) false l), (2, I bf), (3, I af), (5, .ptr 0 0), (9, .sl 4 none false (cs.map cDif)), (10, .bool (h0 || hc)), (11, I i), (12, I j), (13, .ptr 1 0), (84, .bool false)] ∧ h = [some (.cells (cRead r) 54), some (.cells [I d, I p2] 26)] := by
      cases j with
      | zero =>
        have hz : decide ((0 : Int) < ((0 : Nat) : Int)) = false := rfl
        simp only [r9_14, hgc, c1, c2, c3, hz, List.map_cons, List.map_nil, WW, callF, calF, stepF, boxF, fillF.o1c, LV.cells, rv, argsG, ND.bind, fieldAt, getAt, eqsV, kindsOk, ekOf, eqC, scEq, Nat.blt, Nat.ble, putP, allK, Nat.reduceAdd, Nat.reduceBEq, List.getD_cons_zero, List.getD_cons_succ, List.getElem?_cons_zero, List.getElem?_cons_succ, List.length_nil, List.length_cons, List.nil_append, List.cons_append, Option.map_some, cond_true, cond_false, beq_self_eq_true, nd_map_ok, List.set_cons_zero, List.set_cons_succ, List.filter_nil, List.isEmpty_nil, List.zip_cons_cons, List.zip_nil_left, List.zip_nil_right, List.all_cons, List.all_nil, Option.isSome_some, List.replicate_succ, List.replicate_zero]
        exact ⟨trivial, trivial, trivial⟩
      | succ j' =>
        have hz : decide ((0 : Int) < ((j' + 1 : Nat) : Int)) = true := decide_eq_true (by omega)
        have hw : IntKind.i64.wrap (((j' + 1 : Nat) : Int) - 1) = (j' : Int) := by rw [wrap_id (by omega) (by omega)]; omega
        have hlt' : j' < ds.length := by omega
        have hgp : (ds.map cSp)[j']? = some (cSp ds[j']) := by simp [hlt']
        have c4 : decide ((d : Int) ≤ (ds[j']).2) = false := decide_eq_false (by have := hprev j' rfl hlt'; omega)
        generalize ds[j'] = q at *
        simp only [r9_14, hgc, hgp, c1, c2, c3, c4, hz, hw, List.map_cons, List.map_nil, WW, callF, calF, stepF, boxF, fillF.o1c, LV.cells, rv, argsG, ND.bind, fieldAt, getAt, eqsV, kindsOk, ekOf, eqC, scEq, Nat.blt, Nat.ble, putP, allK, Nat.reduceAdd, Nat.reduceBEq, List.getD_cons_zero, List.getD_cons_succ, List.getElem?_cons_zero, List.getElem?_cons_succ, List.length_nil, List.length_cons, List.nil_append, List.cons_append, Option.map_some, cond_true, cond_false, beq_self_eq_true, nd_map_ok, List.set_cons_zero, List.set_cons_succ, List.filter_nil, List.isEmpty_nil, List.zip_cons_cons, List.zip_nil_left, List.zip_nil_right, List.all_cons, List.all_nil, Option.isSome_some, List.replicate_succ, List.replicate_zero]
        exact ⟨trivial, trivial, trivial⟩
    simp only [r9_13, hgc, hgs, WW, callF, calF, stepF, boxF, fillF.o1c, LV.cells, rv, argsG, ND.bind, fieldAt, getAt, eqsV, kindsOk, ekOf, eqC, scEq, Nat.blt, Nat.ble, putP, allK, Nat.reduceAdd, Nat.reduceBEq, List.getD_cons_zero, List.getD_cons_succ, List.getElem?_cons_zero, List.getElem?_cons_succ, List.length_nil, List.length_cons, List.nil_append, List.cons_append, Option.map_some, cond_true, cond_false, beq_self_eq_true, nd_map_ok, List.set_cons_zero, List.set_cons_succ, List.filter_nil, List.isEmpty_nil, List.zip_cons_cons, List.zip_nil_left, List.zip_nil_right, List.all_cons, List.all_nil, Option.isSome_some, List.replicate_succ, List.replicate_zero]
    refine e14.mono fun e g h hh => ?_
    obtain ⟨rfl, rfl, rfl⟩ := hh
    simp only [r9_15, r9_16, r9_17, r9_18, r9_19, hgc, a1, a2, hdif, bmax, bmin, keyEq3, WW, callF, calF, stepF, boxF, fillF.o1c, LV.cells, rv, argsG, ND.bind, fieldAt, getAt, eqsV, kindsOk, ekOf, eqC, scEq, Nat.blt, Nat.ble, putP, allK, Nat.reduceAdd, Nat.reduceBEq, List.getD_cons_zero, List.getD_cons_succ, List.getElem?_cons_zero, List.getElem?_cons_succ, List.length_nil, List.length_cons, List.nil_append, List.cons_append, Option.map_some, cond_true, cond_false, beq_self_eq_true, nd_map_ok, List.set_cons_zero, List.set_cons_succ, List.filter_nil, List.isEmpty_nil, List.zip_cons_cons, List.zip_nil_left, List.zip_nil_right, List.all_cons, List.all_nil, Option.isSome_some, List.replicate_succ, List.replicate_zero]
    simp only [r9_20, hgc, bmax, bmin, keyEq3, WW, callF, calF, stepF, boxF, fillF.o1c, LV.cells, rv, argsG, ND.bind, fieldAt, getAt, eqsV, kindsOk, ekOf, eqC, scEq, Nat.blt, Nat.ble, putP, allK, Nat.reduceAdd, Nat.reduceBEq, List.getD_cons_zero, List.getD_cons_succ, List.getElem?_cons_zero, List.getElem?_cons_succ, List.length_nil, List.length_cons, List.nil_append, List.cons_append, Option.map_some, cond_true, cond_false, beq_self_eq_true, nd_map_ok, List.set_cons_zero, List.set_cons_succ, List.filter_nil, List.isEmpty_nil, List.zip_cons_cons, List.zip_nil_left, List.zip_nil_right, List.all_cons, List.all_nil, Option.isSome_some, List.replicate_succ, List.replicate_zero]
    rw [← hspe]
    refine ⟨fun hc1 => ?_, fun hc1 => ?_⟩
    · simp only [r9_21, r9_12, e1, WW, callF, calF, stepF, boxF, fillF.o1c, LV.cells, rv, argsG, ND.bind, fieldAt, getAt, eqsV, kindsOk, ekOf, eqC, scEq, Nat.blt, Nat.ble, putP, allK, Nat.reduceAdd, Nat.reduceBEq, List.getD_cons_zero, List.getD_cons_succ, List.getElem?_cons_zero, List.getElem?_cons_succ, List.length_nil, List.length_cons, List.nil_append, List.cons_append, Option.map_some, cond_true, cond_false, beq_self_eq_true, nd_map_ok, List.set_cons_zero, List.set_cons_succ, List.filter_nil, List.isEmpty_nil, List.zip_cons_cons, List.zip_nil_left, List.zip_nil_right, List.all_cons, List.all_nil, Option.isSome_some, List.replicate_succ, List.replicate_zero]
      exact lpQ_n.1 (fin true [some (.cells [I d, I p2] 26)] (by rw [hnext, hc1]; simp))
    · simp only [r9_12, e1, WW, callF, calF, stepF, boxF, fillF.o1c, LV.cells, rv, argsG, ND.bind, fieldAt, getAt, eqsV, kindsOk, ekOf, eqC, scEq, Nat.blt, Nat.ble, putP, allK, Nat.reduceAdd, Nat.reduceBEq, List.getD_cons_zero, List.getD_cons_succ, List.getElem?_cons_zero, List.getElem?_cons_succ, List.length_nil, List.length_cons, List.nil_append, List.cons_append, Option.map_some, cond_true, cond_false, beq_self_eq_true, nd_map_ok, List.set_cons_zero, List.set_cons_succ, List.filter_nil, List.isEmpty_nil, List.zip_cons_cons, List.zip_nil_left, List.zip_nil_right, List.all_cons, List.all_nil, Option.isSome_some, List.replicate_succ, List.replicate_zero]
      exact lpQ_n.1 (fin (h0 || hc) [some (.cells [I d, I p2] 26)] (by rw [hnext, hc1]; simp))
  · have : j = ds.length := by simp at hge; omega
    subst this
    rw [List.take_length]
    exact hQ _
theorem law9_out (N : Nat) (cf : CallF) (b : Bool) (l : List Fact) (r : Read) (bf af : Int) (cs : List Dif) (hN : 3000 < N) (hcl : cs.length < 100) (Q : Ex → G → Heap → Prop)
    (hds : ∀ c ∈ cs, c.2 = dayF l bf af c.1)
    (a1 : ∀ k (d : Nat) h, callIso "" cf (.fn (.func 18) [] []) [sF (some b) false l, .agg (cKey k), I d, I bf] h = .ok (.tup [I (atF l k d bf).1, .bool (atF l k d bf).2]))
    (a2 : ∀ k (d : Nat) h, callIso "" cf (.fn (.func 18) [] []) [sF (some b) false l, .agg (cKey k), I d, I af] h = .ok (.tup [I (atF l k d af).1, .bool (atF l k d af).2]))
    (hQ : ∀ t, Q (.exit 0) ((0, sF (some b) false l) :: (2, I bf) :: (3, I af) :: (5, .ptr 0 0) :: (9, .sl 4 none false (cs.map cDif)) :: (10, .bool (hitAll r cs)) :: t) (heapR r)) :
    WP false (iterF 1 N (execT K N cf l9_1) [(0, sF (some b) false l), (2, I bf), (3, I af), (5, .ptr 0 0), (9, .sl 4 none false (cs.map cDif)), (10, .bool false), (11, I 0)] (heapR r)) Q := by
  refine wp_loop (fun m g h => ∃ (i : Nat) (t : G), i ≤ cs.length ∧ m = cs.length - i ∧ g = (0, sF (some b) false l) :: (2, I bf) :: (3, I af) :: (5, .ptr 0 0) :: (9, .sl 4 none false (cs.map cDif)) :: (10, .bool (hitAll r (cs.take i))) :: (11, I i) :: t ∧ h = heapR r) ?_ N cs.length _ _ ⟨0, [], by omega, by omega, rfl, rfl⟩ (by omega)
  rintro m g h ⟨i, t, hi, rfl, rfl, rfl⟩
  simp only [l9_1, r9_8, List.length_map, WW, callF, calF, stepF, boxF, fillF.o1c, LV.cells, rv, argsG, ND.bind, fieldAt, getAt, eqsV, kindsOk, ekOf, eqC, scEq, Nat.blt, Nat.ble, putP, allK, Nat.reduceAdd, Nat.reduceBEq, List.getD_cons_zero, List.getD_cons_succ, List.getElem?_cons_zero, List.getElem?_cons_succ, List.length_nil, List.length_cons, List.nil_append, List.cons_append, Option.map_some, cond_true, cond_false, beq_self_eq_true, nd_map_ok, List.set_cons_zero, List.set_cons_succ, List.filter_nil, List.isEmpty_nil, List.zip_cons_cons, List.zip_nil_left, List.zip_nil_right, List.all_cons, List.all_nil, Option.isSome_some, List.replicate_succ, List.replicate_zero]
  refine ⟨fun hlt => ?_, fun hge => ?_⟩
  · have hlt : i < cs.length := by simpa using hlt
    have e1 : IntKind.i64.wrap ((i : Int) + 1) = ((i + 1 : Nat) : Int) := by rw [wrap_id (by omega) (by omega)]; rfl
    have hg : cs[i] = cs.getD i default := getDD hlt
    have hnext : hitAll r (cs.take (i + 1)) = (hitAll r (cs.take i) || hitIn r (cs.getD i default).1 (cs.getD i default).2) := by
      rw [List.take_add_one, List.getElem?_eq_getElem hlt, hg]
      unfold hitAll
      rw [List.any_append]
      simp only [Option.toList_some, List.any_cons, List.any_nil, Bool.or_false]
    have hd := hds (cs.getD i default) (by rw [← hg]; exact List.getElem_mem hlt)
    simp only [r9_10, x_loop, WW, callF, calF, stepF, boxF, fillF.o1c, LV.cells, rv, argsG, ND.bind, fieldAt, getAt, eqsV, kindsOk, ekOf, eqC, scEq, Nat.blt, Nat.ble, putP, allK, Nat.reduceAdd, Nat.reduceBEq, List.getD_cons_zero, List.getD_cons_succ, List.getElem?_cons_zero, List.getElem?_cons_succ, List.length_nil, List.length_cons, List.nil_append, List.cons_append, Option.map_some, cond_true, cond_false, beq_self_eq_true, nd_map_ok, List.set_cons_zero, List.set_cons_succ, List.filter_nil, List.isEmpty_nil, List.zip_cons_cons, List.zip_nil_left, List.zip_nil_right, List.all_cons, List.all_nil, Option.isSome_some, List.replicate_succ, List.replicate_zero]
    refine law9_in N cf b l r bf af cs i (hitAll r (cs.take i)) hN hlt (by omega) _ hd a1 a2 fun t => ?_
    rw [← hnext]
    simp only [r9_9, e1, WW, callF, calF, stepF, boxF, fillF.o1c, LV.cells, rv, argsG, ND.bind, fieldAt, getAt, eqsV, kindsOk, ekOf, eqC, scEq, Nat.blt, Nat.ble, putP, allK, Nat.reduceAdd, Nat.reduceBEq, List.getD_cons_zero, List.getD_cons_succ, List.getElem?_cons_zero, List.getElem?_cons_succ, List.length_nil, List.length_cons, List.nil_append, List.cons_append, Option.map_some, cond_true, cond_false, beq_self_eq_true, nd_map_ok, List.set_cons_zero, List.set_cons_succ, List.filter_nil, List.isEmpty_nil, List.zip_cons_cons, List.zip_nil_left, List.zip_nil_right, List.all_cons, List.all_nil, Option.isSome_some, List.replicate_succ, List.replicate_zero]
    rw [trunc_same (by simp) rfl]
    exact ⟨cs.length - (i + 1), by omega, i + 1, [], by omega, rfl, rfl, rfl⟩
  · have : i = cs.length := by simp at hge; omega
    subst this
    rw [List.take_length]
    exact hQ _
theorem law9 (n : Nat) (b : Bool) (l : List Fact) (r : Read) (bf af : Int) (hb : b = true → l = []) : W false (callN K (n + 3002) (.fn (.func 9) [] []) [sF (some b) false l, .agg (cRead r), I bf, I af] []) fun r => r.1 = .bool true := by
  refine w_call (args := [sF (some b) false l, .agg (cRead r), I bf, I af]) (h := []) (R := fun v h => v = .bool true) ok9 rfl ?_
  have hs := sane_i n
  have hm : 3000 < n + 3001 := by omega
  have a1 := fun (hl : l.length < 100) k (d : Nat) h => at_i (n + 2981) (some b) false l k d bf (by omega) (by omega) h
  have a2 := fun (hl : l.length < 100) k (d : Nat) h => at_i (n + 2981) (some b) false l k d af (by omega) (by omega) h
  have al := fun (hl : l.length < 100) h => alike_i (n + 2951) (some b) (some false) false true l [r] bf af (by omega) (by omega) (by omega) (by show 1 < _; omega) h
  have hch := fun (hl : l.length ≤ 10) h => iso_givesA (s := "") (h := h) (vs := [sF (some b) false l, I bf, I af]) ⟨open_sl _ _ _ _, open_int _ _, open_int _ _, trivial⟩
    (changed_t (n + 2970) 40 (some b) false l bf af (sortK (keysF l)) (by omega) (by omega) (by omega) (by omega) (fun es hp => sorts12 (keysF l) es hp (Nat.le_trans (keysF_len l) (by omega))) (by rw [(sortK_p (keysF l)).length_eq]; exact keysF_len l))
  have hlen := chgL_len l bf af (sortK (keysF l))
  rw [(sortK_p (keysF l)).length_eq] at hlen
  have hkl := keysF_len l
  have hra := read_alike l r bf af (sortK (keysF l)) (fun k => (sortK_p (keysF l)).mem_iff)
  have hcd : ∀ c ∈ chgL l bf af (sortK (keysF l)), c.2 = dayF l bf af c.1 := fun c hc => (chg_mem.1 hc).2.1
  generalize chgL l bf af (sortK (keysF l)) = cs at *
  generalize n + 3001 = N at *
  generalize callN K N = cf at *
  simp only [b9, r9_0, r9_1, r9_2, r9_3, List.length_map, WW, callF, calF, stepF, boxF, fillF.o1c, LV.cells, rv, argsG, ND.bind, fieldAt, getAt, eqsV, kindsOk, ekOf, eqC, scEq, Nat.blt, Nat.ble, putP, allK, Nat.reduceAdd, Nat.reduceBEq, List.getD_cons_zero, List.getD_cons_succ, List.getElem?_cons_zero, List.getElem?_cons_succ, List.length_nil, List.length_cons, List.nil_append, List.cons_append, Option.map_some, cond_true, cond_false, beq_self_eq_true, nd_map_ok, List.set_cons_zero, List.set_cons_succ, List.filter_nil, List.isEmpty_nil, List.zip_cons_cons, List.zip_nil_left, List.zip_nil_right, List.all_cons, List.all_nil, Option.isSome_some, List.replicate_succ, List.replicate_zero]
  refine wp_calM (hs _) ?_
  simp only [r9_4, List.length_map, WW, callF, calF, stepF, boxF, fillF.o1c, LV.cells, rv, argsG, ND.bind, fieldAt, getAt, eqsV, kindsOk, ekOf, eqC, scEq, Nat.blt, Nat.ble, putP, allK, Nat.reduceAdd, Nat.reduceBEq, List.getD_cons_zero, List.getD_cons_succ, List.getElem?_cons_zero, List.getElem?_cons_succ, List.length_nil, List.length_cons, List.nil_append, List.cons_append, Option.map_some, cond_true, cond_false, beq_self_eq_true, nd_map_ok, List.set_cons_zero, List.set_cons_succ, List.filter_nil, List.isEmpty_nil, List.zip_cons_cons, List.zip_nil_left, List.zip_nil_right, List.all_cons, List.all_nil, Option.isSome_some, List.replicate_succ, List.replicate_zero]
  refine ⟨fun h => trivial, fun h => ?_⟩
  have h : l.length ≤ 10 := by simp at h; omega
  simp only [r9_5, WW, callF, calF, stepF, boxF, fillF.o1c, LV.cells, rv, argsG, ND.bind, fieldAt, getAt, eqsV, kindsOk, ekOf, eqC, scEq, Nat.blt, Nat.ble, putP, allK, Nat.reduceAdd, Nat.reduceBEq, List.getD_cons_zero, List.getD_cons_succ, List.getElem?_cons_zero, List.getElem?_cons_succ, List.length_nil, List.length_cons, List.nil_append, List.cons_append, Option.map_some, cond_true, cond_false, beq_self_eq_true, nd_map_ok, List.set_cons_zero, List.set_cons_succ, List.filter_nil, List.isEmpty_nil, List.zip_cons_cons, List.zip_nil_left, List.zip_nil_right, List.all_cons, List.all_nil, Option.isSome_some, List.replicate_succ, List.replicate_zero]
  refine wp_calM (hch h _) ?_
  simp only [r9_6, r9_7, x_loop, WW, callF, calF, stepF, boxF, fillF.o1c, LV.cells, rv, argsG, ND.bind, fieldAt, getAt, eqsV, kindsOk, ekOf, eqC, scEq, Nat.blt, Nat.ble, putP, allK, Nat.reduceAdd, Nat.reduceBEq, List.getD_cons_zero, List.getD_cons_succ, List.getElem?_cons_zero, List.getElem?_cons_succ, List.length_nil, List.length_cons, List.nil_append, List.cons_append, Option.map_some, cond_true, cond_false, beq_self_eq_true, nd_map_ok, List.set_cons_zero, List.set_cons_succ, List.filter_nil, List.isEmpty_nil, List.zip_cons_cons, List.zip_nil_left, List.zip_nil_right, List.all_cons, List.all_nil, Option.isSome_some, List.replicate_succ, List.replicate_zero]
  refine law9_out N cf b l r bf af cs hm (by omega) _ hcd (a1 (by omega)) (a2 (by omega)) fun t => ?_
  have al := al (by omega)
  rw [hra] at al
  have al' : ∀ h, callIso "" cf (.fn (.func 26) [] []) [sF (some b) false l, .sl 5 (some false) true [cRead r], I bf, I af] h = .ok (.bool (!hitAll r cs)) := al
  simp only [r9_22, al', WW, callF, calF, stepF, boxF, fillF.o1c, LV.cells, rv, argsG, ND.bind, fieldAt, getAt, eqsV, kindsOk, ekOf, eqC, scEq, Nat.blt, Nat.ble, putP, allK, Nat.reduceAdd, Nat.reduceBEq, List.getD_cons_zero, List.getD_cons_succ, List.getElem?_cons_zero, List.getElem?_cons_succ, List.length_nil, List.length_cons, List.nil_append, List.cons_append, Option.map_some, cond_true, cond_false, beq_self_eq_true, nd_map_ok, List.set_cons_zero, List.set_cons_succ, List.filter_nil, List.isEmpty_nil, List.zip_cons_cons, List.zip_nil_left, List.zip_nil_right, List.all_cons, List.all_nil, Option.isSome_some, List.replicate_succ, List.replicate_zero]
end Go.LH.s04

