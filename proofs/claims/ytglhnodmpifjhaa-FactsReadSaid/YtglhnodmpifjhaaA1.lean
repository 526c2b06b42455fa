/- Part of the proof: an interpreter of the program, and that the machine meets it. -/
import Derived.TacticsIn
import Derived.LoopNIn
import Derived.RangeFuncIn
import Derived.RangeFuncRecord
import Derived.RangeFuncLeaves
import Derived.OrdersIn
import Derived.Test.YtglhnodmpifjhaaA0
set_option linter.all false

set_option linter.unusedVariables false
set_option linter.unusedSimpArgs false
namespace Go.LH
section
variable {K : Ctx} {P : Program} {Z : Nat → Prop} {I I' : CellP} {J J' : Nat → Prop} {w w' : World} {ρ ρ' : Env} {h h' : Heap}
theorem elems_first {sz n R o : Nat} {es : List (List LV)} {f : Nat → Value} {cap : Nat} (hn : n = es.length) (hw : ∀ (i : Nat) (el : List LV), es[i]? = some el → el.length = sz)
    (hc : ∀ j, j < n * sz → w.cell? ⟨R, o + j, none⟩ = some (f j) ∧ (f j).oneCell' = true)
    (hr : ∀ (i k : Nat) (el : List LV) (c : LV), es[i]? = some el → el[k]? = some c → VR K I J w ρ c (f (i * sz + k))) :
    ∃ C, (∀ w1 : World, w1.heap = w.heap → (Builtin.firstCells sz n (.slice (some ⟨R, o, none⟩) n cap)).run P w1 = .ok C w1) ∧ ElemsR K I J w ρ sz es C := by
  refine ⟨((List.range (n * sz)).map f).toArray, fun w1 hw1 => ?_, by simp [hn], hw, fun i V hV => ?_, fun i k el c V hel hck hV => ?_⟩
  · simp only [Builtin.firstCells]
    exact run_loadCells w1 ⟨R, o, none⟩ (n * sz) f (fun j hj => by rw [add_none]; exact (cell_eq (by rw [hw1])).trans (hc j hj).1)
  · simp only [List.getElem?_toArray, List.getElem?_map, Option.map_eq_some_iff] at hV
    obtain ⟨j, hj, rfl⟩ := hV
    obtain ⟨hj1, rfl⟩ := List.getElem?_eq_some_iff.1 hj
    simp only [List.length_range] at hj1
    simp only [List.getElem_range]
    exact (hc i hj1).2
  · simp only [List.getElem?_toArray, List.getElem?_map, Option.map_eq_some_iff] at hV
    obtain ⟨j, hj, rfl⟩ := hV
    obtain ⟨hj1, rfl⟩ := List.getElem?_eq_some_iff.1 hj
    simp only [List.getElem_range]
    exact hr i k el c hel hck
theorem elems_none {sz cap : Nat} {A : Option Addr} : ∃ C, (∀ w1 : World, w1.heap = w.heap → (Builtin.firstCells sz 0 (.slice A 0 cap)).run P w1 = .ok C w1) ∧ ElemsR K I J w ρ sz [] C := by
  refine ⟨#[], fun w1 _ => ?_, by simp, fun i el h => by simp at h, fun i V h => by simp at h, fun i k el c V h => by simp at h⟩
  cases A with
  | none => simp [Builtin.firstCells]
  | some a => simp [Builtin.firstCells, loadCells, loadCellsFrom]
theorem elems_row {sz R base len off n cap : Nat} {pu mv : Bool} {es : List (List LV)} {e : Nat} (hr : BlkRel K I J w ρ R base len (.row pu mv es sz e)) (hl : off + n ≤ es.length) :
    ∃ C, (∀ w1 : World, w1.heap = w.heap → (Builtin.firstCells sz n (.slice (some ⟨R, base + off * sz, none⟩) n cap)).run P w1 = .ok C w1) ∧ ElemsR K I J w (mapEnv pu ρ) sz ((es.drop off).take n) C := by
  obtain ⟨h0, h1, h2, C, h3, h4, h5, h6⟩ := hr
  have hlen : ((es.drop off).take n).length = n := by simp; omega
  have get : ∀ (i : Nat) (el : List LV), ((es.drop off).take n)[i]? = some el → es[off + i]? = some el := by
    intro i el hi
    rw [List.getElem?_take] at hi
    split at hi
    · rwa [List.getElem?_drop] at hi
    · cases hi
  have hmul : (off + n) * sz ≤ es.length * sz := Nat.mul_le_mul_right sz hl
  rw [Nat.add_mul] at hmul
  have hin : ∀ j, j < n * sz → base + off * sz + j < C.size := fun j hj => by omega
  refine elems_first (f := fun j => C[base + off * sz + j]?.getD default) hlen.symm (fun i el hi => h2 _ el (get i el hi)) (fun j hj => ?_) (fun i k el c hel hck => ?_)
  · have := hin j hj
    refine ⟨(cell_of h3).trans (by simp [this]), ?_⟩
    have h7 := h5 (base + off * sz + j) C[base + off * sz + j] (by simp [this])
    simpa [this] using h7
  · have hil : i < n := by have := (List.getElem?_eq_some_iff.1 hel).1; omega
    have hkl := (List.getElem?_eq_some_iff.1 hck).1
    rw [h2 _ el (get i el hel)] at hkl
    have hj := mul_lt_of hil hkl
    have hlt := hin _ hj
    have h7 := h6 (off + i) k el c C[base + off * sz + (i * sz + k)] (get i el hel) hck (by rw [show base + (off + i) * sz + k = base + off * sz + (i * sz + k) by rw [Nat.add_mul]; omega]; simp [hlt])
    simpa [hlt] using h7
theorem viewOf_spec {es xs : List (List LV)} {v : Option (Nat × Nat)} (h : viewOf es v = some xs) : ∃ off n, off + n ≤ es.length ∧ xs = (es.drop off).take n ∧ (v = none → off = 0 ∧ n = es.length) ∧ ∀ a b, v = some (a, b) → off = a ∧ n = b := by
  unfold viewOf at h
  split at h
  · cases h
    exact ⟨0, es.length, by omega, by simp, fun _ => ⟨rfl, rfl⟩, fun a b h => (by cases h)⟩
  · rename_i off n
    cases hd : decide (off + n ≤ es.length) with
    | false => rw [hd] at h; cases h
    | true =>
      rw [hd] at h
      cases h
      exact ⟨off, n, by simpa using hd, rfl, fun h => (by cases h), fun a b h => (by cases h; exact ⟨rfl, rfl⟩)⟩
theorem elems_rel (H : Inv K Z I J ρ h w) {sz : Nat} {x : LV} {X : Value} {new : List (List LV)} {pn : Bool} (hs0 : 0 < sz) (he : elemsOf h sz x = some (new, pn)) (hX : VR K I J w ρ x X) :
    ∃ A n cap C, X = .slice A n cap ∧ n = new.length ∧ (∀ w1 : World, w1.heap = w.heap → (Builtin.firstCells sz n X).run P w1 = .ok C w1) ∧ ElemsR K I J w (mapEnv pn ρ) sz new C := by
  unfold elemsOf at he
  split at he
  · rename_i s nl ex es
    cases hc : (s == sz || es.isEmpty) with
    | false => rw [hc] at he; cases he
    | true =>
      rw [hc] at he
      cases he
      cases hX with
      | slnil _ _ _ _ _ => obtain ⟨C, h1, h2⟩ := elems_none (K := K) (P := P) (I := I) (J := J) (w := w) (ρ := mapEnv true ρ) (sz := sz) (cap := 0) (A := none); exact ⟨none, 0, 0, C, rfl, rfl, h1, h2⟩
      | slemp _ _ _ _ a cap _ _ => obtain ⟨C, h1, h2⟩ := elems_none (K := K) (P := P) (I := I) (J := J) (w := w) (ρ := mapEnv true ρ) (sz := sz) (cap := cap) (A := some a); exact ⟨some a, 0, cap, C, rfl, rfl, h1, h2⟩
      | sl _ _ _ _ _ R o cap Vs h1 h2 h3 h4 h5 h6 h7 =>
        simp only [Bool.or_eq_true, beq_iff_eq, List.isEmpty_iff] at hc
        rcases hc with rfl | rfl
        · have hdm : ∀ i k, k < s → (i * s + k) / s = i ∧ (i * s + k) % s = k := fun i k hk => by
            rw [Nat.mul_comm]
            exact ⟨by rw [Nat.mul_add_div h4, Nat.div_eq_of_lt hk, Nat.add_zero], by rw [Nat.mul_add_mod, Nat.mod_eq_of_lt hk]⟩
          obtain ⟨C, h8, h9⟩ := elems_first (K := K) (P := P) (I := I) (J := J) (w := w) (ρ := mapEnv true ρ) (sz := s) (R := R) (o := o) (cap := cap) (es := new) (f := fun j => Vs (j / s) (j % s)) rfl h5 (fun j hj => by
            have hk : j % s < s := Nat.mod_lt _ h4
            have hi : j / s < new.length := Nat.div_lt_of_lt_mul (by rw [Nat.mul_comm]; exact hj)
            have := h6 (j / s) (j % s) hi hk
            rw [show o + j / s * s + j % s = o + j by rw [Nat.add_assoc, Nat.mul_comm, Nat.div_add_mod]] at this
            exact ⟨this.1, this.2.2⟩) (fun i k el c hel hck => by
            have hk := (List.getElem?_eq_some_iff.1 hck).1
            rw [h5 i el hel] at hk
            obtain ⟨a, b⟩ := hdm i k hk
            simp only [a, b]
            exact h7 i k el c hel hck)
          exact ⟨_, _, cap, C, rfl, rfl, h8, h9⟩
        · obtain ⟨C, h1, h2⟩ := elems_none (K := K) (P := P) (I := I) (J := J) (w := w) (ρ := mapEnv true ρ) (sz := sz) (cap := cap) (A := some ⟨R, o, none⟩)
          exact ⟨_, 0, cap, C, rfl, rfl, h1, h2⟩
  · rename_i b s v
    split at he
    · rename_i pu mv es s' e hg
      cases hc : (s == s' && s == sz) with
      | false => rw [hc] at he; cases he
      | true =>
        rw [hc, cond_true] at he
        simp only [Bool.and_eq_true, beq_iff_eq] at hc
        obtain ⟨rfl, rfl⟩ := hc
        obtain ⟨xs, hxs, he⟩ := Option.map_eq_some_iff.1 he
        cases he
        obtain ⟨off, n, h1, rfl, h2, h3⟩ := viewOf_spec hxs
        have hnl : ((es.drop off).take n).length = n := by simp; omega
        cases hX with
        | row _ _ _ R base len cap Kc ty hb h4 h5 h6 =>
          obtain ⟨rfl, rfl⟩ := h2 rfl
          have hr := H.rel b R base len _ hb (live_getD hg)
          have hl : len = es.length := hr.1
          obtain ⟨C, h7, h8⟩ := elems_row (P := P) (cap := cap) hr h1
          refine ⟨_, _, cap, C, rfl, by rw [hnl, hl], ?_, h8⟩
          rw [hl]
          simpa using h7
        | rowv _ _ _ A hb =>
          obtain ⟨pu', mv', s'', e'', hx, _⟩ := H.virt b _ hb (live_getD hg)
          cases hx
          have : n = 0 := by simp at h1; omega
          subst this
          obtain ⟨C, h7, h8⟩ := elems_none (K := K) (P := P) (I := I) (J := J) (w := w) (ρ := mapEnv pn ρ) (sz := s) (cap := 0) (A := A)
          exact ⟨A, 0, 0, C, rfl, by simp, h7, by simpa using h8⟩
        | part _ _ _ off' n' R base len cap Kc ty hb h4 h5 h6 h7 =>
          obtain ⟨rfl, rfl⟩ := h3 _ _ rfl
          have hr := H.rel b R base len _ hb (live_getD hg)
          obtain ⟨C, h8, h9⟩ := elems_row (P := P) (cap := cap) hr h1
          exact ⟨_, _, cap, C, rfl, hnl.symm, h8, h9⟩
        | part0 _ _ _ off' A l hb =>
          obtain ⟨rfl, rfl⟩ := h3 _ _ rfl
          obtain ⟨C, h7, h8⟩ := elems_none (K := K) (P := P) (I := I) (J := J) (w := w) (ρ := mapEnv pn ρ) (sz := s) (cap := 0) (A := A)
          exact ⟨A, 0, 0, C, rfl, by simp, h7, by simpa using h8⟩
    · cases he
  · rename_i b off s n
    split at he
    · rename_i cs e hg
      cases hc : (s == sz) with
      | false => rw [hc] at he; cases he
      | true =>
        rw [hc, cond_true] at he
        simp only [beq_iff_eq] at hc
        subst hc
        obtain ⟨xs, hxs, he⟩ := Option.map_eq_some_iff.1 he
        cases he
        obtain ⟨h3, h4⟩ := chunk_spec hxs
        cases hX with
        | bsl _ _ _ _ _ R base len cap hb _ =>
          obtain ⟨h0, C, h5, h6, h7, h8⟩ := H.rel b R base len _ hb (live_getD hg)
          subst h0
          have hin : ∀ i k, i < n → k < s → off + i * s + k < cs.length := by
            intro i k hi hk
            have hi' : i < new.length := by omega
            obtain ⟨h9, h10⟩ := h4 i new[i] (by simp [hi'])
            have h11 := h10 k hk
            rw [List.getElem?_eq_getElem (by omega)] at h11
            exact (List.getElem?_eq_some_iff.1 h11.symm).1
          have hin' : ∀ j, j < n * s → off + j < cs.length := by
            intro j hj
            have hk : j % s < s := Nat.mod_lt _ hs0
            have hi : j / s < n := Nat.div_lt_of_lt_mul (by rw [Nat.mul_comm]; exact hj)
            have := hin (j / s) (j % s) hi hk
            rwa [show off + j / s * s + j % s = off + j by rw [Nat.add_assoc, Nat.mul_comm, Nat.div_add_mod]] at this
          obtain ⟨D, h9, h10⟩ := elems_first (K := K) (P := P) (I := I) (J := J) (w := w) (ρ := mapEnv (noRefs new) ρ) (sz := s) (R := R) (o := 0 + off) (n := n) (cap := cap) (es := new) (f := fun j => C[off + j]?.getD default) h3.symm (fun i el hel => (h4 i el hel).1) (fun j hj => by
              have hlt : off + j < C.size := by have := hin' j hj; omega
              rw [Nat.zero_add]
              refine ⟨(cell_of h5).trans (by simp [hlt]), ?_⟩
              have := h7 (off + j) C[off + j] (by simp [hlt])
              simpa [hlt] using this) (fun i k el c hel hck => by
              obtain ⟨h11, h12⟩ := h4 i el hel
              have hk := (List.getElem?_eq_some_iff.1 hck).1
              rw [h11] at hk
              have hi : i < n := by have := (List.getElem?_eq_some_iff.1 hel).1; omega
              have hlt := hin i k hi hk
              rw [h12 k hk] at hck
              have hlt' : off + (i * s + k) < C.size := by omega
              have h13 := h8 (off + i * s + k) c C[off + (i * s + k)] hck (by rw [Nat.add_assoc]; simp [hlt'])
              have h14 : VR K I J w (mapEnv (noRefs new) ρ) c C[off + (i * s + k)] := by
                cases hnr : noRefs new with
                | false => exact h13
                | true =>
                  refine h13.noRefs ?_
                  simp only [noRefs, List.all_eq_true, List.isEmpty_iff] at hnr
                  exact refsL_nil (hnr el (List.mem_of_getElem? hel)) (by rw [h12 k hk]; exact hck)
              simpa [hlt'] using h14)
          refine ⟨_, _, cap, D, rfl, h3.symm, ?_, h10⟩
          simpa using h9
    · cases he
  · cases he
theorem grow_le : ∀ (r n c : Nat), n ≤ 16777216 → Builtin.growBy n r c ≤ max c 33554432
  | 0, n, c, hn => by simp [Builtin.growBy]; omega
  | r + 1, n, c, hn => by
    simp only [Builtin.growBy]
    split
    · omega
    · have := grow_le r n (c + (c + 768) / 4) hn
      omega
theorem cap_le {n c : Nat} (hn : n ≤ 16777216) (hc : c < n) : Builtin.nextslicecap n c ≤ 33554432 := by
  unfold Builtin.nextslicecap
  split
  · omega
  · split
    · omega
    · have := grow_le 4 n c hn
      omega
theorem run_append_in (F : Fits K P) {t t' et et' ty : Nat} {ts : Array Nat} {a : Option Addr} {sLen sCap n : Nat} {X : Value} {C : Array Value} (ht : ts[0]? = some t) (ht' : ts[1]? = some t') (hk : (K.ti t).k = .slice et)
    (hk' : (K.ti t').k = .slice et') (hh : K.has et = true) (hX : ∃ A c, X = .slice A n c) (hle : sLen + n ≤ sCap) (hC : (Builtin.firstCells (K.ti et).sz n X).run P w = .ok C w) :
    (Builtin.append_ ts ty #[.slice a sLen sCap, X]).run P w =
      (match a with
       | some a => (do storeCells (a.add (sLen * (K.ti et).sz)) C.toList; pure (Value.slice (some a) (sLen + n) sCap) : Sem Value)
       | none => pure (.slice none (sLen + n) sCap)).run P w := by
  obtain ⟨A, c, rfl⟩ := hX
  unfold Builtin.append_
  simp only [ht, ht', List.getElem?_toArray, List.getElem?_cons_zero, List.getElem?_cons_succ, Sem.run_bind, run_underlying (F.slice hk), run_underlying (F.slice hk'), Result.andThen_ok, run_sizeOf F hh, Sem.run_pure, Bool.false_eq_true, if_false, Builtin.lenOf]
  rw [if_pos hle]
  simp only [Bool.not_false, if_true, Sem.run_bind, hC, Result.andThen_ok]
  cases a <;> simp
theorem run_append_grow (F : Fits K P) {t t' et et' ty : Nat} {ts : Array Nat} {a : Option Addr} {sLen sCap n : Nat} {X Zv : Value} {C D : Array Value} (ht : ts[0]? = some t) (ht' : ts[1]? = some t') (hk : (K.ti t).k = .slice et)
    (hk' : (K.ti t').k = .slice et') (hh : K.has et = true) (hX : ∃ A c, X = .slice A n c) (hgt : sCap < sLen + n) (hlim : sLen + n ≤ 16777216) (hby : (K.ti et).by_ ≤ 65536)
    (hD : ∀ w1 : World, w1.heap = w.heap → (Builtin.firstCells (K.ti et).sz sLen (.slice a sLen sCap)).run P w1 = .ok D w1)
    (hC : ∀ w1 : World, w1.heap = w.heap → (Builtin.firstCells (K.ti et).sz n X).run P w1 = .ok C w1) (hz : ∀ w1 : World, (zeroValue et).run P w1 = .ok Zv w1) :
    ∃ (cap : Nat) (w1 : World), sLen + n ≤ cap ∧ (w1.heap = w.heap ∧ Io w w1) ∧ (Builtin.append_ ts ty #[.slice a sLen sCap, X]).run P w =
      .ok (.slice (some ⟨w.heap.size, 0, none⟩) (sLen + n) cap) (w1.alloc (.cells (D ++ C ++ Builtin.zeroCells Zv.cells (cap - (sLen + n))) et (0, 0))) := by
  obtain ⟨A, c, rfl⟩ := hX
  obtain ⟨i, hi1, hi2⟩ := F.has_info hh
  have hbi : (K.ti et).by_ = i.bytes := by rw [hi2]
  have hti : ∀ w1 : World, (typeInfo et).run P w1 = .ok i w1 := fun w1 => by simp [typeInfo, hi1]
  refine ⟨sLen + n + w.tape w.drawn (.appendCap (sLen + n) sCap et) % (2 ^ 63 - (sLen + n)), { w with drawn := w.drawn + 1 }, by omega, ⟨rfl, ⟨rfl, rfl⟩⟩, ?_⟩
  have hch : (choose (.appendCap (sLen + n) sCap et)).run P w = .ok (sLen + n + w.tape w.drawn (.appendCap (sLen + n) sCap et) % (2 ^ 63 - (sLen + n))) { w with drawn := w.drawn + 1 } := by
    simp only [choose, Sem.run, Question.forced]
    rfl
  have hroom : ∀ (b : Nat) (w1 : World), (askRoom b).run P w1 = .ok () w1 := by
    intro b w1
    unfold askRoom
    split <;> rfl
  unfold Builtin.append_
  simp only [ht, ht', List.getElem?_toArray, List.getElem?_cons_zero, List.getElem?_cons_succ, Sem.run_bind, run_underlying (F.slice hk), run_underlying (F.slice hk'), Result.andThen_ok, run_sizeOf F hh, Sem.run_pure, Bool.false_eq_true, if_false, Builtin.lenOf]
  rw [if_neg (by omega)]
  have hn1 : ¬ (((sLen + n : Nat) : Int) > IntKind.i64.max ∧ (False ∨ i.bytes = 0)) := by
    rintro ⟨h1, _⟩
    have : IntKind.i64.max = 9223372036854775807 := by decide
    omega
  have hn2 : ¬ (Builtin.nextslicecap (sLen + n) sCap * i.bytes > 2 ^ 48) := by
    have h1 := cap_le hlim hgt
    have h2 : i.bytes ≤ 65536 := by omega
    have := Nat.mul_le_mul h1 h2
    omega
  simp only [hti, Result.andThen_ok, Sem.run_bind]
  rw [if_neg (by simpa using hn1)]
  simp only [Sem.run_bind, hti, Result.andThen_ok]
  rw [if_neg hn2]
  have hD1 := hD { w with drawn := w.drawn + 1 } rfl
  have hC1 := hC { w with drawn := w.drawn + 1 } rfl
  simp only [Sem.run_pure, Result.andThen_ok, hch, hroom, hD1, Bool.not_false, if_true, hC1, hz, run_newRow, Sem.run_bind, hti]
end
end Go.LH


set_option linter.unusedVariables false
set_option linter.unusedSimpArgs false
namespace Go.LH
structure Step (K : Ctx) (Z : Nat → Prop) (I : CellP) (J : Nat → Prop) (ρ : Env) (h : Heap) (w : World) (I' : CellP) (J' : Nat → Prop) (ρ' : Env) (h' : Heap) (w' : World) : Prop where
  inv : Inv K Z I' J' ρ' h' w'
  chg : Chg Z I J w w'
  i : ∀ R o, I R o → I' R o
  j : ∀ R, J R → J' R
  inew : ∀ R o, I' R o → I R o ∨ ¬ Z R
  jnew : ∀ R, J' R → J R ∨ ¬ Z R
  stab : Stab h ρ h' ρ'
  fresh : ∀ b, h'.length ≤ b → ρ' b = none
section
variable {K : Ctx} {P : Program} {Z : Nat → Prop} {I I' : CellP} {J J' : Nat → Prop} {w w' : World} {ρ ρ' : Env} {h h' : Heap}
theorem row_mapv {pu mv : Bool} {f : LV → LV} {es : List (List LV)} {s e R base len : Nat} {C' : Array Value} (hl : len = es.length) (hs0 : 0 < s) (hwid : ∀ (i : Nat) (el : List LV), es[i]? = some el → el.length = s)
    (hheap : w'.heap[R]? = some (.cells C' e (0, 0))) (hsz : base + es.length * s ≤ C'.size) (hone : ∀ (i : Nat) (V : Value), C'[i]? = some V → V.oneCell' = true)
    (hel : ∀ (i k : Nat) (el : List LV) (c : LV) (V : Value), es[i]? = some el → el[k]? = some c → C'[base + i * s + k]? = some V → VR K I J w (mapEnv pu ρ) c V)
    (hf : ∀ c V, VR K I J w ρ c V → VR K I J w' ρ' (f c) V) (hk : Keep I J w w') : BlkRel K I J w' ρ' R base len ((Blk.row pu mv es s e).mapv f) := by
  cases pu with
  | true => exact ⟨hl, hs0, hwid, C', hheap, hsz, hone, fun i k el c V a b d => VR.same (hel i k el c V a b d) hk⟩
  | false =>
    simp only [Blk.mapv, cond_false]
    refine ⟨by simpa using hl, hs0, fun i el h1 => ?_, C', hheap, by simpa using hsz, hone, fun i k el c V h1 h2 h3 => ?_⟩
    · simp only [List.getElem?_map, Option.map_eq_some_iff] at h1
      obtain ⟨u, hu, rfl⟩ := h1
      simpa using hwid i u hu
    · simp only [List.getElem?_map, Option.map_eq_some_iff] at h1
      obtain ⟨u, hu, rfl⟩ := h1
      simp only [List.getElem?_map, Option.map_eq_some_iff] at h2
      obtain ⟨c', hc', rfl⟩ := h2
      exact hf c' V (hel i k u c' V hu hc' h3)
theorem elems_app {s : Nat} {es new : List (List LV)} {D C B : Array Value} {ρ : Env} (hD : ElemsR K I J w ρ s es D) (hC : ElemsR K I J w ρ s new C) :
    (∀ (i : Nat) (el : List LV), (es ++ new)[i]? = some el → el.length = s) ∧
    ∀ (i k : Nat) (el : List LV) (c : LV) (V : Value), (es ++ new)[i]? = some el → el[k]? = some c → (D ++ C ++ B)[i * s + k]? = some V → VR K I J w ρ c V := by
  obtain ⟨d1, d2, d3, d4⟩ := hD
  obtain ⟨c1, c2, c3, c4⟩ := hC
  have hw : ∀ (i : Nat) (el : List LV), (es ++ new)[i]? = some el → el.length = s := by
    intro i el hi
    rw [List.getElem?_append] at hi
    split at hi
    · exact d2 i el hi
    · exact c2 _ el hi
  refine ⟨hw, fun i k el c V hi hk hV => ?_⟩
  have hkl := (List.getElem?_eq_some_iff.1 hk).1
  rw [hw i el hi] at hkl
  rw [List.getElem?_append] at hi
  split at hi
  · rename_i hlt
    have := mul_lt_of hlt hkl
    rw [Array.getElem?_append_left (by simp; omega), Array.getElem?_append_left (by omega)] at hV
    exact d4 i k el c V hi hk hV
  · rename_i hge
    have hil := (List.getElem?_eq_some_iff.1 hi).1
    have := mul_lt_of hil hkl
    have h1 : i * s + k = es.length * s + ((i - es.length) * s + k) := by
      have : i = es.length + (i - es.length) := by omega
      rw [← Nat.add_assoc, ← Nat.add_mul, ← this]
    rw [h1, Array.getElem?_append_left (by simp; omega), Array.getElem?_append_right (by omega), show es.length * s + ((i - es.length) * s + k) - D.size = (i - es.length) * s + k by omega] at hV
    exact c4 _ k el c V hi hk hV
theorem zero_one {Zs : Array Value} {n : Nat} (hz : ∀ (i : Nat) (V : Value), Zs[i]? = some V → V.oneCell' = true) (i : Nat) (V : Value) (hV : (Builtin.zeroCells Zs n)[i]? = some V) : V.oneCell' = true := by
  unfold Builtin.zeroCells at hV
  have hi := (Array.getElem?_eq_some_iff.1 hV).1
  simp only [Array.size_map, Array.size_range] at hi
  have hpos : 0 < Zs.size := by
    rcases Nat.eq_zero_or_pos Zs.size with h | h
    · rw [h] at hi; simp at hi
    · exact h
  have hm : i % Zs.size < Zs.size := Nat.mod_lt _ hpos
  simp only [Array.getElem?_map, Array.getElem?_range, hi, if_true, Option.map_some, Option.some.injEq] at hV
  rw [← hV]
  simp only [hm, getElem!_pos]
  exact hz _ _ (Array.getElem?_eq_getElem hm)
theorem one_app {A B : Array Value} (hA : ∀ (i : Nat) (V : Value), A[i]? = some V → V.oneCell' = true) (hB : ∀ (i : Nat) (V : Value), B[i]? = some V → V.oneCell' = true) (i : Nat) (V : Value) (hV : (A ++ B)[i]? = some V) : V.oneCell' = true := by
  rw [Array.getElem?_append] at hV
  split at hV
  · exact hA _ V hV
  · exact hB _ V hV
theorem drop_rel (b : Nat) {v : LV} {V : Value} (hv : VR K I J w ρ v V) : VR K I J w ρ (v.drop b) V := by
  unfold LV.drop
  cases v.refs.contains b with
  | true => exact .un _ _
  | false => exact hv
theorem drop_mono (b : Nat) {v : LV} {V : Value} (hv : VR K I J w ρ v V) (hk : Keep I J w w') (hρ : ∀ c, c ≠ b → (∃ l, ρ c = some l) → ρ' c = ρ c) : VR K I J w' ρ' (v.drop b) V := by
  unfold LV.drop
  cases hc : v.refs.contains b with
  | true => exact .un _ _
  | false =>
    refine hv.mono (fun _ _ h => h) (fun _ h => h) hk (fun c hcm => hρ c (fun e => ?_) (hv.dom c hcm))
    subst e
    simp only [List.contains_eq_mem, decide_eq_false_iff_not] at hc
    exact hc hcm
theorem drop_refs (b : Nat) (v : LV) : b ∉ (v.drop b).refs := by
  unfold LV.drop
  cases hc : v.refs.contains b with
  | true => simp [LV.refs]
  | false => simpa [List.contains_eq_mem] using hc
theorem dropL_refs (b : Nat) (vs : List LV) : b ∉ refsL (vs.map (LV.drop b)) := by
  intro h
  obtain ⟨v, hv, hb⟩ := mem_refsL' h
  obtain ⟨u, _, rfl⟩ := List.mem_map.1 hv
  exact drop_refs b u hb
theorem mapv_refs {b : Nat} {x : Blk} (hi : x.iterOf ≠ some b) : b ∉ (x.mapv (LV.drop b)).refs := by
  cases x with
  | cells cs e => exact dropL_refs b cs
  | row pu mv es s e =>
    cases pu with
    | true => simp [Blk.mapv, Blk.refs]
    | false =>
      simp only [Blk.mapv, Blk.refs, cond_false, List.mem_flatMap]
      rintro ⟨el, hel, hb⟩
      obtain ⟨u, _, rfl⟩ := List.mem_map.1 hel
      exact dropL_refs b u hb
  | map pu kt ks vs =>
    cases pu with
    | true => simp [Blk.mapv, Blk.refs]
    | false => exact dropL_refs b vs
  | iter mb ks vs last =>
    simp only [Blk.mapv, Blk.refs, List.mem_append, Option.mem_toList]
    rintro ((h | h) | h)
    · exact hi h
    · exact dropL_refs b vs h
    · cases last with
      | none => simp at h
      | some kv => exact drop_refs b kv.2 (by simpa using h)
  | loop fn t ps asg body st pend => exact dropL_refs b t
theorem Inv.forget (H : Inv K Z I J ρ h w) (b : Nat) (hn : ∀ b' R base len y, b' ≠ b → ρ b' = some (.at R base len) → live h b' y → b ∉ y.refs) : Inv K Z I J (fun c => if c = b then none else ρ c) h w := by
  have g : ∀ {c l}, (if c = b then none else ρ c) = some l → c ≠ b ∧ ρ c = some l := by
    intro c l hc
    by_cases e : c = b
    · rw [if_pos e] at hc; cases hc
    · rw [if_neg e] at hc; exact ⟨e, hc⟩
  refine ⟨?_, fun b' R base len x h1 h2 => H.own b' R base len x (g h1).2 h2, fun b1 b2 R a c d e x y h1 h2 h3 h4 => H.inj b1 b2 R a c d e x y (g h1).2 (g h2).2 h3 h4, fun b' x h1 h2 => H.virt b' x (g h1).2 h2, H.zlt, H.ilt, H.jlt,
    fun i Ri bi li m ks vs last R base len h1 h2 h3 => H.iters i Ri bi li m ks vs last R base len (g h1).2 h2 (g h3).2⟩
  intro b' R base len x h1 h2
  obtain ⟨hne, h1⟩ := g h1
  exact (H.rel b' R base len x h1 h2).mono (fun _ _ h => h) (fun _ h => h) (Keep.refl _ _ _) rfl (fun _ _ _ _ _ _ => rfl) (fun c hc => by
    have : c ≠ b := fun e => hn b' R base len x hne h1 h2 (e ▸ hc)
    simp [this])
theorem Inv.toVirt (H : Inv K Z I J ρ h w) {b s e : Nat} {pu mv : Bool} (hb : ∀ R base len, ρ b ≠ some (.at R base len)) (hs : 0 < s) (hlive : live h' b (.row pu mv [] s e)) (hoth : ∀ b' y, b' ≠ b → live h' b' y → live h b' y)
    (hmap : ∀ m pu kt ks vs, m ≠ b → live h m (.map pu kt ks vs) → live h' m (.map pu kt ks vs))
    (hn : ρ b = some .virt ∨ ∀ b' R base len y, b' ≠ b → ρ b' = some (.at R base len) → live h b' y → b ∉ y.refs) : Inv K Z I J (upd ρ b .virt) h' w := by
  have g : ∀ {c R base len}, upd ρ b .virt c = some (.at R base len) → c ≠ b ∧ ρ c = some (.at R base len) := by
    intro c R base len hc
    by_cases e : c = b
    · subst e; rw [upd_same] at hc; cases hc
    · rw [upd_ne e] at hc; exact ⟨e, hc⟩
  refine ⟨?_, fun b' R base len x h1 h2 => H.own b' R base len x (g h1).2 (hoth _ _ (g h1).1 h2), fun b1 b2 R a c d e x y h1 h2 h3 h4 => H.inj b1 b2 R a c d e x y (g h1).2 (g h2).2 (hoth _ _ (g h1).1 h3) (hoth _ _ (g h2).1 h4), fun b' x h1 h2 => ?_, H.zlt, H.ilt, H.jlt,
    fun i Ri bi li m ks vs last R base len h1 h2 h3 => ?_⟩
  · intro b' R base len x h1 h2
    obtain ⟨hne, h1'⟩ := g h1
    have h3 := hoth b' x hne h2
    have hr := H.rel b' R base len x h1' h3
    refine hr.mono (fun _ _ h => h) (fun _ h => h) (Keep.refl _ _ _) rfl (fun _ _ _ _ _ _ => rfl) (fun c hc => ?_)
    by_cases e : c = b
    · subst e
      rcases hn with hn | hn
      · rw [upd_same, hn]
      · exact absurd hc (hn b' R base len x hne h1' h3)
    · exact upd_ne e
  · by_cases e : b' = b
    · subst e; exact ⟨pu, mv, s, _, live_uniq h2 hlive, hs⟩
    · rw [upd_ne e] at h1; exact H.virt b' x h1 (hoth b' x e h2)
  · obtain ⟨hne, h1⟩ := g h1
    obtain ⟨hnm, h3⟩ := g h3
    rcases H.iters i Ri bi li m ks vs last R base len h1 (hoth _ _ hne h2) h3 with h4 | ⟨p, k, a, c, h4⟩
    · exact .inl h4
    · exact .inr ⟨p, k, a, c, hmap m p k a c hnm h4⟩
theorem live_append {h : Heap} {l : Heap} {b : Nat} {x : Blk} (hx : live h b x) : live (h ++ l) b x := by
  unfold live at hx ⊢
  rw [List.getElem?_append_left (List.getElem?_eq_some_iff.1 hx).1]; exact hx
theorem live_append_old {h : Heap} {y : Option Blk} {b : Nat} {x : Blk} (hx : live (h ++ [y]) b x) (hb : b ≠ h.length) : live h b x := by
  unfold live at hx ⊢
  rw [List.getElem?_append] at hx
  split at hx
  · exact hx
  · rename_i hge
    rw [List.getElem?_singleton] at hx
    split at hx
    · omega
    · cases hx
theorem live_append_new {h : Heap} {x : Blk} : live (h ++ [some x]) h.length x := by
  unfold live; simp
theorem Stab.scrub {h : Heap} {ρ : Env} (b : Nat) : Stab h ρ (scrubB b h) ρ := by
  refine Stab.same (by simp [scrubB]) (fun c hc => ?_)
  unfold scrubB
  simp only [List.getD_eq_getElem?_getD, List.getElem?_map]
  cases h[c]? with
  | none => exact shapeLe.refl _
  | some x => cases x with
    | none => exact shapeLe.refl _
    | some y => exact ⟨fun h => (by simp at h), .inr (by cases y <;> exact ⟨rfl, fun h => h⟩)⟩
theorem Inv.noIter (H : Inv K Z I J ρ h w) {b b' R base len s e : Nat} {pu mv : Bool} {es : List (List LV)} {x : Blk} (hb : live h b (.row pu mv es s e)) (h1 : ρ b' = some (.at R base len)) (h2 : live h b' x) : x.iterOf ≠ some b := by
  intro hi
  cases x with
  | iter mb ks vs last =>
    simp only [Blk.iterOf] at hi
    subst hi
    obtain ⟨_, m, since, seen, stepped, h3, h4⟩ := H.rel b' R base len _ h1 h2
    cases m with
    | none => exact absurd h4.2.2.2 (by simp)
    | some M =>
      obtain ⟨⟨base', len', h5⟩, _⟩ := h4
      rcases H.iters b' R base len b ks vs last M base' len' h1 h2 h5 with h6 | ⟨p, k, a, c, h6⟩
      · exact (H.own b M base' len' _ h5 hb).2.2.1 h6
      · have := live_uniq hb h6; cases this
  | _ => simp [Blk.iterOf] at hi
theorem base_inv (H : Inv K Z I J ρ h w) {b s s' e : Nat} {pu mv : Bool} {es old : List (List LV)} {vw : Option (Nat × Nat)} {X : Value} (hx : live h b (.row pu mv es s' e))
    (hold : (match vw with
            | none => some es
            | some (off, n) => bif off + n == es.length then some (es.drop off) else none : Option (List (List LV))) = some old) (hX : VR K I J w ρ (.row b s vw) X) :
    (∃ A, X = .slice A 0 0 ∧ old = []) ∨ ∃ R base len off cap Kc ty, X = .slice (some ⟨R, base + off * s, none⟩) old.length cap ∧ ρ b = some (.at R base len) ∧ off + old.length = es.length ∧ old = es.drop off ∧ old.length ≤ cap ∧
      w.shape? R = some (ty, Kc) ∧ base + (off + cap) * s ≤ Kc := by
  cases hX with
  | row _ _ _ R base len cap Kc ty hb h3 h4 h5 =>
    cases hold
    obtain ⟨hl, _⟩ := H.rel b R base len _ hb hx
    exact .inr ⟨R, base, len, 0, cap, Kc, ty, by simp [hl], hb, by simp, by simp, by omega, h4, by simpa using h5⟩
  | rowv _ _ _ A hb =>
    cases hold
    obtain ⟨pu', mv', s'', e'', hx', _⟩ := H.virt b _ hb hx
    cases hx'
    exact .inl ⟨A, rfl, rfl⟩
  | part _ _ _ off n R base len cap Kc ty hb h3 h4 h5 h6 =>
    simp only at hold
    cases hd : (off + n == es.length) with
    | false => rw [hd] at hold; cases hold
    | true =>
      rw [hd] at hold
      cases hold
      have hd' : off + n = es.length := by simpa using hd
      have hn : (es.drop off).length = n := by simp; omega
      exact .inr ⟨R, base, len, off, cap, Kc, ty, by rw [hn], hb, by rw [hn]; exact hd', rfl, by rw [hn]; exact h4, h5, h6⟩
  | part0 _ _ _ off A l hb =>
    simp only at hold
    cases hd : (off + 0 == es.length) with
    | false => rw [hd] at hold; cases hold
    | true =>
      rw [hd] at hold
      cases hold
      have hd' : off + 0 = es.length := by simpa using hd
      exact .inl ⟨A, rfl, List.drop_eq_nil_of_le (by omega)⟩
theorem append_rel (F : Fits K P) (H : Inv K Z I J ρ h w) (hfr : ∀ b, h.length ≤ b → ρ b = none) {t t' et' ty : Nat} {ts : Array Nat} {x y v : LV} {X Y : Value} {ob : Option Nat} (ht : ts[0]? = some t) (ht' : ts[1]? = some t')
    (hk' : (K.ti t').k = .slice et') (ha : appendV K h t x y = some (v, ob, h')) (hX : VR K I J w ρ x X) (hY : VR K I J w ρ y Y) :
    ∃ V w' ρ', (Builtin.append_ ts ty #[X, Y]).run P w = .ok V w' ∧ Step K Z I J ρ h w I J ρ' h' w' ∧ VR K I J w' ρ' v V ∧
      ∀ u U, VR K I J w ρ u U → VR K I J w' ρ' (match ob with | some b => u.drop b | none => u) U := by
  unfold appendV at ha
  split at ha
  case h_2 => cases ha
  rename_i et hk
  split at ha
  case h_2 => cases ha
  rename_i new pn hnew
  cases hc : (decide (0 < (K.ti et).sz) && decide ((K.ti et).by_ ≤ 65536) && (K.ti et).zok && K.has et) with
  | false => rw [hc] at ha; cases ha
  | true =>
  rw [hc, cond_true] at ha
  simp only [Bool.and_eq_true, decide_eq_true_eq] at hc
  obtain ⟨⟨⟨hs0, hby⟩, hz⟩, hh⟩ := hc
  obtain ⟨AY, nY, capY, C, rfl, hnY, hCr, hCe⟩ := elems_rel (P := P) H hs0 hnew hY
  obtain ⟨Zv, hz1, _, hz3, hz4, _⟩ := zero_rel (I := I) (J := J) (w := w) (ρ := ρ) F hh hz
  have hzr : ∀ w1 : World, (zeroValue et).run P w1 = .ok Zv w1 := by
    intro w1
    obtain ⟨i, hi1, hi2⟩ := F.has_info hh
    have hiz : i.zero = some Zv := by
      cases hzz : i.zero with
      | none => rw [hi2] at hz; simp [zokOf, hzz] at hz
      | some Z' =>
        simp [zeroValue, typeInfo, hi1, hzz] at hz1
        rw [hz1]
    simp [zeroValue, typeInfo, hi1, hiz]
  split at ha
  ·
    rename_i s nl es _
    cases hc : ((s == (K.ti et).sz || es.isEmpty) && K.has et && (bif es.isEmpty then true else !new.isEmpty) && decide (es.length + new.length ≤ sizeLim)) with
    | false => rw [hc] at ha; cases ha
    | true =>
    rw [hc, cond_true] at ha
    simp only [Option.some.injEq, Prod.mk.injEq] at ha
    obtain ⟨rfl, rfl, rfl⟩ := ha
    simp only [Bool.and_eq_true, decide_eq_true_eq] at hc
    obtain ⟨⟨⟨hse, _⟩, hemp⟩, hlim⟩ := hc
    obtain ⟨A, n, cap, D, rfl, hn, hDr, hDe⟩ := elems_rel (P := P) (x := .sl s nl true es) (new := es) (pn := true) H hs0 (by simp only [elemsOf, hse, cond_true]) hX
    have hcap : cap = es.length := by
      cases hX with
      | slnil _ _ _ _ _ => rfl
      | slemp _ _ _ _ a cap h1 h2 => exact h2 rfl
      | sl _ _ _ _ _ R o cap Vs h1 h2 h3 => exact h3 rfl
    subst hcap
    subst hn
    subst hnY
    have hid : ρ h.length = none := hfr _ (Nat.le_refl _)
    have hlim' : es.length + new.length ≤ 16777216 := hlim
    cases hne : new.isEmpty with
    | true =>
      rw [hne] at hemp
      have hes : es = [] := by
        cases es with
        | nil => rfl
        | cons a l => simp at hemp
      have hnn : new = [] := by simpa using hne
      subst hes
      subst hnn
      have hrun := run_append_in (ty := ty) (a := A) (sLen := 0) (sCap := 0) (n := 0) F ht ht' hk hk' hh ⟨AY, capY, rfl⟩ (by simp) (hCr w rfl)
      have hC0 : C = #[] := by have := hCe.1; simp at this; exact this
      refine ⟨.slice A 0 0, w, upd ρ h.length .virt, ?_, ⟨?_, Chg.refl _ _ _ _, fun _ _ h => h, fun _ h => h, fun _ _ h => .inl h, fun _ h => .inl h, Stab.append _ (fun b hb => upd_ne (by omega)), fun b hb => ?_⟩, .rowv _ _ _ A (upd_same _ _ _), fun u U hu => ?_⟩
      · simp only [List.length_nil]
        rw [hrun, hC0]
        cases A <;> simp [storeCells]
      · exact H.toVirt (fun R base len => by rw [hid]; simp) hs0 live_append_new (fun b' y hne hy => live_append_old hy hne) (fun m pu kt ks vs _ hm => live_append hm) (.inr (fun b' R base len y hne h1 h2 hin => by
          obtain ⟨l, hl⟩ := (H.rel b' R base len y h1 h2).dom _ hin
          rw [hid] at hl; cases hl))
      · simp at hb
        rw [upd_ne (by omega)]
        exact hfr b (by omega)
      · exact hu.mono (fun _ _ h => h) (fun _ h => h) (Keep.refl _ _ _) (fun b hb => upd_ne (fun e => by
          obtain ⟨l, hl⟩ := hu.dom b hb
          subst e; rw [hid] at hl; cases hl))
    | false =>
      have hnl : 0 < new.length := by cases new with | nil => simp at hne | cons a l => simp
      obtain ⟨cap', w1, hcap', ⟨hw1, hio⟩, hrun⟩ := run_append_grow (ty := ty) (a := A) (sLen := es.length) (sCap := es.length) (n := new.length) F ht ht' hk hk' hh ⟨AY, capY, rfl⟩ (by omega) hlim' hby hDr hCr hzr
      have hDe' : ElemsR K I J w (mapEnv pn ρ) (K.ti et).sz es D := ⟨hDe.1, hDe.2.1, hDe.2.2.1, fun i k el c V a b d => by
        have := hDe.2.2.2 i k el c V a b d
        cases pn with
        | true => exact this
        | false => exact VR.up this ρ⟩
      obtain ⟨hw, hel⟩ := elems_app (B := Builtin.zeroCells Zv.cells (cap' - (es.length + new.length))) hDe' hCe
      have hext : Ext w (w1.alloc (.cells (D ++ C ++ Builtin.zeroCells Zv.cells (cap' - (es.length + new.length))) et (0, 0))) := Ext.push (o := .cells (D ++ C ++ Builtin.zeroCells Zv.cells (cap' - (es.length + new.length))) et (0, 0)) (by rw [heap_alloc, hw1]) ⟨hio.os, hio.output⟩
      have L := Lays.of_ext I J hext
      have hhere : (w1.alloc (.cells (D ++ C ++ Builtin.zeroCells Zv.cells (cap' - (es.length + new.length))) et (0, 0))).heap[w.heap.size]? = some (.cells (D ++ C ++ Builtin.zeroCells Zv.cells (cap' - (es.length + new.length))) et (0, 0)) := by rw [heap_alloc, hw1]; simp
      have hone := one_app (one_app hDe.2.2.1 hCe.2.2.1) (zero_one (n := cap' - (es.length + new.length)) hz3.2.1)
      have hCsz : (D ++ C ++ Builtin.zeroCells Zv.cells (cap' - (es.length + new.length))).size = cap' * (K.ti et).sz := by
        simp only [Array.size_append, hDe.1, hCe.1, Builtin.zeroCells, Array.size_map, Array.size_range, hz4]
        rw [← Nat.add_mul, ← Nat.add_mul]
        congr 1; omega
      have H1 := H.lays L
      refine ⟨_, _, upd ρ h.length (.at w.heap.size 0 (es ++ new).length), hrun, ⟨?_, Chg.of_ext hext H.zlt, fun _ _ h => h, fun _ h => h, fun _ _ h => .inl h, fun _ h => .inl h, Stab.append _ (fun b hb => upd_ne (by omega)), fun b hb => ?_⟩, ?_, fun u U hu => ?_⟩
      · refine H1.new hid live_append_new (fun b' y hne hy => live_append_old hy hne) (fun b' y hy => .inl (live_append hy)) (by rw [heap_alloc, hw1]; simp) (fun hzz => absurd (H.zlt _ hzz) (by omega)) (fun o hi => absurd (H.ilt _ _ hi) (by omega)) (fun hj => absurd (H.jlt _ hj) (by omega))
          (fun b' base len y h1 h2 => absurd (H.own _ _ _ _ _ h1 h2).2.2.2 (by omega)) ?_ (fun m hm => by cases hm)
        have h9 := row_mapv (K := K) (I := I) (J := J) (w := w) (ρ := ρ) (ρ' := upd ρ h.length (.at w.heap.size 0 (es ++ new).length)) (pu := pn) (mv := true) (f := fun v => v) (len := (es ++ new).length) (base := 0) (e := et) rfl hs0 hw hhere
          (by rw [hCsz, Nat.zero_add, List.length_append]; exact Nat.mul_le_mul_right _ hcap') hone (fun i k el c V a b d => hel i k el c V a b (by simpa using d)) (fun c V hv => hv.lay L hid) (hext.keep I J)
        simpa [Blk.mapv] using h9
      · simp at hb
        rw [upd_ne (by omega)]
        exact hfr b (by omega)
      · have := VR.row (K := K) (I := I) (J := J) (w := w1.alloc (.cells (D ++ C ++ Builtin.zeroCells Zv.cells (cap' - (es.length + new.length))) et (0, 0))) (upd ρ h.length (.at w.heap.size 0 (es ++ new).length)) h.length (K.ti et).sz w.heap.size 0 (es ++ new).length cap' _ et (upd_same _ _ _) (by simpa using hcap') (shape_of hhere) (by rw [hCsz]; simp)
        simpa using this
      · exact hu.lay L hid
  ·
    rename_i b s vw _
    split at ha
    case h_2 => cases ha
    rename_i pu mv es s' e hg
    split at ha
    case h_2 => cases ha
    rename_i old hold
    cases hc : (s == s' && s == (K.ti et).sz && e == et && K.has et && decide (old.length + new.length ≤ sizeLim) && (!pu || pn)) with
    | false => rw [hc] at ha; cases ha
    | true =>
    rw [hc, cond_true] at ha
    simp only [Option.some.injEq, Prod.mk.injEq] at ha
    obtain ⟨rfl, rfl, rfl⟩ := ha
    simp only [Bool.and_eq_true, decide_eq_true_eq, beq_iff_eq, Bool.or_eq_true, Bool.not_eq_true'] at hc
    obtain ⟨⟨⟨⟨⟨rfl, rfl⟩, rfl⟩, _⟩, hlim⟩, hpp⟩ := hc
    subst hnY
    have hlim' : old.length + new.length ≤ 16777216 := hlim
    have hx := live_getD hg
    have hpe : ∀ {c V}, VR K I J w (mapEnv pn ρ) c V → VR K I J w (mapEnv pu ρ) c V := by
      intro c V hv
      cases pu with
      | true =>
        have : pn = true := by rcases hpp with h | h; exact absurd h (by simp); exact h
        subst this; exact hv
      | false => cases pn with
        | true => exact VR.up hv ρ
        | false => exact hv
    have hCe' : ElemsR K I J w (mapEnv pu ρ) (K.ti e).sz new C := ⟨hCe.1, hCe.2.1, hCe.2.2.1, fun i k el c V a b d => hpe (hCe.2.2.2 i k el c V a b d)⟩
    have H1 : Inv K Z I J ρ (scrubB b h) w := H.weak (fun v V hv => drop_rel b hv)
    have hsl : live (scrubB b h) b ((Blk.row pu mv es (K.ti e).sz e).mapv (LV.drop b)) := mapv_live hx
    have hno : ∀ b' R base len y, b' ≠ b → ρ b' = some (.at R base len) → live (scrubB b h) b' y → b ∉ y.refs := by
      intro b' R base len y hne h1 h2
      obtain ⟨y', h3, rfl⟩ := live_mapv h2
      exact mapv_refs (H.noIter hx h1 h3)
    have hset : live ((scrubB b h).set b (some ((Blk.row pu true (old ++ new) (K.ti e).sz e).mapv (LV.drop b)))) b ((Blk.row pu true (old ++ new) (K.ti e).sz e).mapv (LV.drop b)) := live_set_self _ hsl
    have hoth : ∀ b' y, b' ≠ b → live ((scrubB b h).set b (some ((Blk.row pu true (old ++ new) (K.ti e).sz e).mapv (LV.drop b)))) b' y → live (scrubB b h) b' y := fun b' y hne hy => (live_set_ne hne).1 hy
    have hmvd : moved (((scrubB b h).set b (some ((Blk.row pu true (old ++ new) (K.ti e).sz e).mapv (LV.drop b)))).getD b none) = true := by rw [getD_live hset]; rfl
    have hbl : b < h.length := live_lt hx
    have hlen : ((scrubB b h).set b (some ((Blk.row pu true (old ++ new) (K.ti e).sz e).mapv (LV.drop b)))).length = h.length := by simp [scrubB]
    have hstab : ∀ l, Stab h ρ ((scrubB b h).set b (some ((Blk.row pu true (old ++ new) (K.ti e).sz e).mapv (LV.drop b)))) (upd ρ b l) := by
      intro l
      have h1 := (Stab.scrub (ρ := ρ) (h := h) b).trans (Stab.set (ρ := ρ) (y := (Blk.row pu true (old ++ new) (K.ti e).sz e).mapv (LV.drop b)) hsl rfl (fun _ => rfl))
      refine ⟨h1.len, h1.le, fun c hc => ?_⟩
      by_cases ec : c = b
      · subst ec; exact .inr (.inl hmvd)
      · exact .inl (upd_ne ec)
    have hfresh : ∀ l c, ((scrubB b h).set b (some ((Blk.row pu true (old ++ new) (K.ti e).sz e).mapv (LV.drop b)))).length ≤ c → upd ρ b l c = none := by
      intro l c hc
      rw [hlen] at hc
      rw [upd_ne (by omega)]
      exact hfr c hc
    have hfin := base_inv H hx hold hX
    have grow : ∀ (A : Option Addr) (cap : Nat) (D : Array Value), X = .slice A old.length cap → cap < old.length + new.length → (∀ w1 : World, w1.heap = w.heap → (Builtin.firstCells (K.ti e).sz old.length (.slice A old.length cap)).run P w1 = .ok D w1) →
        ElemsR K I J w (mapEnv pu ρ) (K.ti e).sz old D → ∃ V w' ρ', (Builtin.append_ ts ty #[X, .slice AY new.length capY]).run P w = .ok V w' ∧ Step K Z I J ρ h w I J ρ' ((scrubB b h).set b (some ((Blk.row pu true (old ++ new) (K.ti e).sz e).mapv (LV.drop b)))) w' ∧ VR K I J w' ρ' (.row b (K.ti e).sz none) V ∧
          ∀ u U, VR K I J w ρ u U → VR K I J w' ρ' (u.drop b) U := by
      intro A cap D hXe hgt hDr hDe
      subst hXe
      obtain ⟨cap', w1, hcap', ⟨hw1, hio⟩, hrun⟩ := run_append_grow (ty := ty) (a := A) (sLen := old.length) (sCap := cap) (n := new.length) F ht ht' hk hk' hh ⟨AY, capY, rfl⟩ hgt hlim' hby hDr hCr hzr
      obtain ⟨hw, hel⟩ := elems_app (B := Builtin.zeroCells Zv.cells (cap' - (old.length + new.length))) hDe hCe'
      have hext : Ext w (w1.alloc (.cells (D ++ C ++ Builtin.zeroCells Zv.cells (cap' - (old.length + new.length))) e (0, 0))) := Ext.push (o := .cells (D ++ C ++ Builtin.zeroCells Zv.cells (cap' - (old.length + new.length))) e (0, 0)) (by rw [heap_alloc, hw1]) ⟨hio.os, hio.output⟩
      have L := Lays.of_ext I J hext
      have hhere : (w1.alloc (.cells (D ++ C ++ Builtin.zeroCells Zv.cells (cap' - (old.length + new.length))) e (0, 0))).heap[w.heap.size]? = some (.cells (D ++ C ++ Builtin.zeroCells Zv.cells (cap' - (old.length + new.length))) e (0, 0)) := by rw [heap_alloc, hw1]; simp
      have hone := one_app (one_app hDe.2.2.1 hCe'.2.2.1) (zero_one (n := cap' - (old.length + new.length)) hz3.2.1)
      have hCsz : (D ++ C ++ Builtin.zeroCells Zv.cells (cap' - (old.length + new.length))).size = cap' * (K.ti e).sz := by
        simp only [Array.size_append, hDe.1, hCe'.1, Builtin.zeroCells, Array.size_map, Array.size_range, hz4]
        rw [← Nat.add_mul, ← Nat.add_mul]
        congr 1; omega
      have H2 := (H1.forget b hno).lays L
      have hdrop : ∀ u U, VR K I J w ρ u U → VR K I J (w1.alloc (.cells (D ++ C ++ Builtin.zeroCells Zv.cells (cap' - (old.length + new.length))) e (0, 0))) (upd ρ b (.at w.heap.size 0 (old ++ new).length)) (u.drop b) U :=
        fun u U hu => drop_mono b hu (hext.keep I J) (fun c hc _ => upd_ne hc)
      have heq : upd (fun c => if c = b then none else ρ c) b (.at w.heap.size 0 (old ++ new).length) = upd ρ b (.at w.heap.size 0 (old ++ new).length) := by
        funext c
        by_cases ec : c = b
        · subst ec; rw [upd_same, upd_same]
        · rw [upd_ne ec, upd_ne ec, if_neg ec]
      refine ⟨_, _, upd ρ b (.at w.heap.size 0 (old ++ new).length), hrun, ⟨?_, Chg.of_ext hext H.zlt, fun _ _ h => h, fun _ h => h, fun _ _ h => .inl h, fun _ h => .inl h, hstab _, hfresh _⟩, ?_, hdrop⟩
      · rw [← heq]
        refine H2.new (b := b) (by simp) hset hoth (fun b' y hy => ?_) (by rw [heap_alloc, hw1]; simp) (fun hzz => absurd (H.zlt _ hzz) (by omega)) (fun o hi => absurd (H.ilt _ _ hi) (by omega)) (fun hj => absurd (H.jlt _ hj) (by omega))
          (fun b' base len y h1 h2 => ?_) ?_ (fun m hm => by cases hm)
        · by_cases eb : b' = b
          · subst eb; exact .inr (by simp)
          · exact .inl ((live_set_ne eb).2 hy)
        · by_cases eb : b' = b
          · simp [eb] at h1
          · rw [if_neg eb] at h1
            exact absurd (H1.own _ _ _ _ _ h1 h2).2.2.2 (by omega)
        · rw [heq]
          exact row_mapv (pu := pu) (mv := true) (len := (old ++ new).length) (base := 0) (e := e) rfl hs0 hw hhere
            (by rw [hCsz, Nat.zero_add, List.length_append]; exact Nat.mul_le_mul_right _ hcap') hone (fun i k el c V a b d => hel i k el c V a b (by simpa using d)) hdrop (hext.keep I J)
      · have := VR.row (K := K) (I := I) (J := J) (w := w1.alloc (.cells (D ++ C ++ Builtin.zeroCells Zv.cells (cap' - (old.length + new.length))) e (0, 0))) (upd ρ b (.at w.heap.size 0 (old ++ new).length)) b (K.ti e).sz w.heap.size 0 (old ++ new).length cap' _ e (upd_same _ _ _) (by simpa using hcap') (shape_of hhere) (by rw [hCsz]; simp)
        simpa using this
    rcases hfin with ⟨A, rfl, rfl⟩ | ⟨R, base, len, off, cap, Kc, tyo, rfl, hb, hoff, hold', hcap, hshape, hKc⟩
    · cases hne : new.isEmpty with
      | false =>
        have hnl : 0 < new.length := by cases new with | nil => simp at hne | cons a l => simp
        obtain ⟨D, hDr, hDe⟩ := elems_none (K := K) (P := P) (I := I) (J := J) (w := w) (ρ := mapEnv pu ρ) (sz := (K.ti e).sz) (cap := 0) (A := A)
        exact grow A 0 D rfl (by simpa using hnl) hDr hDe
      | true =>
        have hnn : new = [] := by simpa using hne
        subst hnn
        have hC0 : C = #[] := by have := hCe.1; simp at this; exact this
        have hrun := run_append_in (ty := ty) (a := A) (sLen := 0) (sCap := 0) (n := 0) F ht ht' hk hk' hh ⟨AY, capY, rfl⟩ (by simp) (hCr w rfl)
        refine ⟨.slice A 0 0, w, upd ρ b .virt, ?_, ⟨?_, Chg.refl _ _ _ _, fun _ _ h => h, fun _ h => h, fun _ _ h => .inl h, fun _ h => .inl h, hstab _, hfresh _⟩, .rowv _ _ _ A (upd_same _ _ _), fun u U hu => drop_mono b hu (Keep.refl _ _ _) (fun c hc _ => upd_ne hc)⟩
        · simp only [List.length_nil]
          rw [hrun, hC0]
          cases A <;> simp [storeCells]
        · have heq : upd (fun c => if c = b then none else ρ c) b .virt = upd ρ b .virt := by
            funext c
            by_cases ec : c = b
            · subst ec; rw [upd_same, upd_same]
            · rw [upd_ne ec, upd_ne ec, if_neg ec]
          rw [← heq]
          have hset' : live ((scrubB b h).set b (some ((Blk.row pu true ([] ++ []) (K.ti e).sz e).mapv (LV.drop b)))) b (.row pu true [] (K.ti e).sz e) := by
            have : (Blk.row pu true ([] ++ []) (K.ti e).sz e).mapv (LV.drop b) = .row pu true [] (K.ti e).sz e := by cases pu <;> rfl
            rw [this] at hset ⊢
            exact hset
          exact (H1.forget b hno).toVirt (fun R base len => by simp) hs0 hset' hoth (fun m pu kt ks vs hne hm => (live_set_ne hne).2 hm) (.inr (fun b' R base len y hne h1 h2 => hno b' R base len y hne (by simpa [hne] using h1) h2))
    · have hrel := H.rel b R base len _ hb hx
      have htk : (es.drop off).take old.length = old := by rw [hold']; exact List.take_length
      obtain ⟨D, hDr, hDe⟩ := elems_row (P := P) (cap := cap) (off := off) (n := old.length) hrel (by omega)
      rw [htk] at hDe
      by_cases hle : old.length + new.length ≤ cap
      ·
        have ho := H.own b R base len _ hb hx
        obtain ⟨_, _, hwid, Cw, h3, h4, h5, h6⟩ := hrel
        rw [shape_of h3] at hshape
        cases hshape
        have hmul1 : (off + (old.length + new.length)) * (K.ti e).sz ≤ (off + cap) * (K.ti e).sz := Nat.mul_le_mul_right _ (by omega)
        have hCs := hCe'.1
        have hadd1 : (off + (old.length + new.length)) * (K.ti e).sz = off * (K.ti e).sz + old.length * (K.ti e).sz + new.length * (K.ti e).sz := by rw [Nat.add_mul, Nat.add_mul]; omega
        obtain ⟨w', C', h7, M, h8, h9⟩ := run_storeCells (P := P) (o := base + off * (K.ti e).sz + old.length * (K.ti e).sz) C.toList w 0 Cw h3 (by simp; omega) (fun v hv => by
          obtain ⟨i, hi⟩ := Array.getElem?_of_mem (Array.mem_toList_iff.1 hv)
          exact hCe'.2.2.1 i v hi)
        have hrun := run_append_in (ty := ty) (a := some ⟨R, base + off * (K.ti e).sz, none⟩) (sLen := old.length) (sCap := cap) (n := new.length) F ht ht' hk hk' hh ⟨AY, capY, rfl⟩ hle (hCr w rfl)
        have hsh := M.shape h3 h8
        have hkp : Keep I J w w' := M.keep hsh ho.2.1 ho.2.2.1
        have hdrop : ∀ u U, VR K I J w ρ u U → VR K I J w' (upd ρ b (.at R (base + off * (K.ti e).sz) (old ++ new).length)) (u.drop b) U :=
          fun u U hu => drop_mono b hu hkp (fun c hc _ => upd_ne hc)
        refine ⟨.slice (some ⟨R, base + off * (K.ti e).sz, none⟩) (old.length + new.length) cap, w', upd ρ b (.at R (base + off * (K.ti e).sz) (old ++ new).length), ?_, ⟨?_, M.chg hsh ho.1 ho.2.1 ho.2.2.1, fun _ _ h => h, fun _ h => h, fun _ _ h => .inl h, fun _ h => .inl h, hstab _, hfresh _⟩, ?_, hdrop⟩
        · rw [hrun]
          simp only [Sem.run_bind, add_none]
          rw [show (storeCells ⟨R, base + off * (K.ti e).sz + old.length * (K.ti e).sz, none⟩ C.toList).run P w = .ok () w' from h7]
          rfl
        · refine H1.mut hb hsl M hsh (fun c hc => upd_ne hc) (upd_same _ _ _) hset hoth (.inr (fun b' R' base len y hne h1 h2 => hno b' R' base len y hne h1 (hoth b' y hne h2))) ?_ ?_ ?_ ?_
          · refine row_mapv (w := w) (ρ := ρ) (pu := pu) (mv := true) (es := old ++ new) rfl hs0 ?_ M.here (by rw [h8, List.length_append, Nat.add_mul]; omega) (fun j V hV => ?_) (fun i k el c V hel hck hV => ?_) hdrop hkp
            · intro i el hi
              rw [List.getElem?_append] at hi
              split at hi
              · rw [hold', List.getElem?_drop] at hi; exact hwid _ el hi
              · exact hCe'.2.1 _ el hi
            · rw [h9 j] at hV
              split at hV
              · exact hCe'.2.2.1 _ V (by simpa using hV)
              · exact h5 j V hV
            · have hkl := (List.getElem?_eq_some_iff.1 hck).1
              rw [List.getElem?_append] at hel
              split at hel
              · rename_i hlt
                have hel0 := hel
                rw [hold', List.getElem?_drop] at hel
                rw [hwid _ el hel] at hkl
                have := mul_lt_of hlt hkl
                rw [h9, if_neg (by omega)] at hV
                refine h6 (off + i) k el c V hel hck ?_
                rw [show base + (off + i) * (K.ti e).sz + k = base + off * (K.ti e).sz + i * (K.ti e).sz + k by rw [Nat.add_mul]; omega]
                exact hV
              · rename_i hge
                have hil := (List.getElem?_eq_some_iff.1 hel).1
                rw [hCe'.2.1 _ el hel] at hkl
                have h10 := mul_lt_of hil hkl
                have h11 : i * (K.ti e).sz = old.length * (K.ti e).sz + (i - old.length) * (K.ti e).sz := by rw [← Nat.add_mul]; congr 1; omega
                rw [h9, if_pos (by simp; omega)] at hV
                refine hCe'.2.2.2 (i - old.length) k el c V hel hck ?_
                rw [show base + off * (K.ti e).sz + i * (K.ti e).sz + k - (base + off * (K.ti e).sz + old.length * (K.ti e).sz + 0) = (i - old.length) * (K.ti e).sz + k by omega] at hV
                simpa using hV
          · intro i Ri bi li m ks vs last hne hri hi em
            subst em
            obtain ⟨y', h10, h11⟩ := live_mapv (hoth i _ hne hi)
            have := H.noIter hx hri h10
            rw [← mapv_iterOf (LV.drop m) y', ← h11] at this
            exact this rfl
          · intro m hm; cases hm
          · intro m pu' kt ks vs hne hm
            exact ⟨pu', kt, ks, vs, (live_set_ne hne).2 hm⟩
        · have := VR.row (K := K) (I := I) (J := J) (w := w') (upd ρ b (.at R (base + off * (K.ti e).sz) (old ++ new).length)) b (K.ti e).sz R (base + off * (K.ti e).sz) (old ++ new).length cap _ _ (upd_same _ _ _) (by simpa using hle) (hsh _ _ (shape_of h3)) (by rw [Nat.add_assoc, ← Nat.add_mul]; exact hKc)
          simpa using this
      · exact grow _ cap D rfl (by omega) hDr hDe
  · cases ha
end
end Go.LH


set_option linter.unusedVariables false
set_option linter.unusedSimpArgs false
namespace Go.LH
section
variable {K : Ctx} {P : Program} {Z : Nat → Prop} {I I' : CellP} {J J' : Nat → Prop} {w w' : World} {ρ ρ' : Env} {h h' : Heap}
theorem sl_of {s R base n cap : Nat} {es : List (List LV)} {C : Array Value} {e : Nat} {A : Option Addr} (hs0 : 0 < s) (hA : es = [] ∨ (A = some ⟨R, base, none⟩ ∧ n ≤ cap)) (hn : n = es.length) (hnone : A = none → cap = 0)
    (hwid : ∀ (i : Nat) (el : List LV), es[i]? = some el → el.length = s) (hheap : es ≠ [] → w.heap[R]? = some (.cells C e (0, 0)) ∧ base + es.length * s ≤ C.size ∧ (∀ o, I R o) ∧ (∀ (i : Nat) (V : Value), C[i]? = some V → V.oneCell' = true))
    (hel : ∀ (i k : Nat) (el : List LV) (c : LV) (V : Value), es[i]? = some el → el[k]? = some c → C[base + i * s + k]? = some V → VR K I J w noEnv c V) : VR K I J w ρ (.sl s none false es) (.slice A n cap) := by
  subst hn
  cases es with
  | nil =>
    cases A with
    | none => rw [hnone rfl]; exact .slnil _ _ _ _ (by simp)
    | some a => exact .slemp _ _ _ _ _ _ (by simp) (by simp)
  | cons x l =>
    rcases hA with hA | ⟨rfl, hcap⟩
    · cases hA
    obtain ⟨h1, h2, h3, h4⟩ := hheap (by simp)
    refine .sl _ _ _ _ _ R base cap (fun i k => C[base + i * s + k]?.getD default) (by simp) hcap (by simp) hs0 hwid (fun i k hi hk => ?_) (fun i k el c hie hck => ?_)
    · have := mul_lt_of hi hk
      have hlt : base + i * s + k < C.size := by omega
      refine ⟨(cell_of h1).trans (by simp [hlt]), h3 _, ?_⟩
      have := h4 (base + i * s + k) C[base + i * s + k] (by simp [hlt])
      simpa [hlt] using this
    · have hi := (List.getElem?_eq_some_iff.1 hie).1
      have hk := (List.getElem?_eq_some_iff.1 hck).1
      rw [hwid i el hie] at hk
      have := mul_lt_of hi hk
      have hlt : base + i * s + k < C.size := by omega
      have h5 := hel i k el c C[base + i * s + k] hie hck (by simp [hlt])
      simpa [hlt] using h5
theorem view_get {es xs : List (List LV)} {off n : Nat} (hl : off + n ≤ es.length) (hx : xs = (es.drop off).take n) : xs.length = n ∧ ∀ (i : Nat) (el : List LV), xs[i]? = some el → es[off + i]? = some el := by
  subst hx
  refine ⟨by simp; omega, fun i el hi => ?_⟩
  rw [List.getElem?_take] at hi
  split at hi
  · rwa [List.getElem?_drop] at hi
  · cases hi
theorem row_inv2 (H : Inv K Z I J ρ h w) {b s e : Nat} {pu mv : Bool} {es xs : List (List LV)} {vw : Option (Nat × Nat)} {X : Value} (hx : live h b (.row pu mv es s e)) (hxs : viewOf es vw = some xs) (hX : VR K I J w ρ (.row b s vw) X) :
    (∃ A, X = .slice A 0 0 ∧ xs = []) ∨ ∃ R base len off cap, X = .slice (some ⟨R, base + off * s, none⟩) xs.length cap ∧ ρ b = some (.at R base len) ∧ off + xs.length ≤ es.length ∧ xs.length ≤ cap ∧ (∀ (i : Nat) (el : List LV), xs[i]? = some el → es[off + i]? = some el) ∧ ((vw = none ∧ off = 0) ∨ ∃ n, vw = some (off, n)) := by
  obtain ⟨off, n, h1, h2, h3, h4⟩ := viewOf_spec hxs
  obtain ⟨h5, h6⟩ := view_get h1 h2
  cases hX with
  | row _ _ _ R base len cap Kc ty hb a1 a2 a3 =>
    obtain ⟨rfl, rfl⟩ := h3 rfl
    obtain ⟨hl, _⟩ := H.rel b R base len _ hb hx
    exact .inr ⟨R, base, len, 0, cap, by simp [h5, hl], hb, by omega, by omega, h6, .inl ⟨rfl, rfl⟩⟩
  | rowv _ _ _ A hb =>
    obtain ⟨pu', mv', s'', e'', hx', _⟩ := H.virt b _ hb hx
    cases hx'
    refine .inl ⟨A, rfl, ?_⟩
    exact List.eq_nil_of_length_eq_zero (by simp at h1; omega)
  | part _ _ _ off' n' R base len cap Kc ty hb a1 a2 a3 a4 =>
    obtain ⟨rfl, rfl⟩ := h4 _ _ rfl
    exact .inr ⟨R, base, len, off, cap, by rw [h5], hb, by omega, by omega, h6, .inr ⟨_, rfl⟩⟩
  | part0 _ _ _ off' A l hb =>
    obtain ⟨rfl, rfl⟩ := h4 _ _ rfl
    exact .inl ⟨A, rfl, List.eq_nil_of_length_eq_zero h5⟩
theorem row_inv (H : Inv K Z I J ρ h w) {b s e : Nat} {pu mv : Bool} {es xs : List (List LV)} {vw : Option (Nat × Nat)} {X : Value} (hx : live h b (.row pu mv es s e)) (hxs : viewOf es vw = some xs) (hX : VR K I J w ρ (.row b s vw) X) :
    (∃ A, X = .slice A 0 0 ∧ xs = []) ∨ ∃ R base len off cap, X = .slice (some ⟨R, base + off * s, none⟩) xs.length cap ∧ ρ b = some (.at R base len) ∧ off + xs.length ≤ es.length ∧ xs.length ≤ cap ∧ ∀ (i : Nat) (el : List LV), xs[i]? = some el → es[off + i]? = some el :=
  (row_inv2 H hx hxs hX).imp (fun h => h) (fun ⟨R, base, len, off, cap, a, b, c, d, e, _⟩ => ⟨R, base, len, off, cap, a, b, c, d, e⟩)
theorem mapM_some {α β : Type} {f : α → Option β} : ∀ {l : List α} {r : List β}, l.mapM f = some r → r.length = l.length ∧ ∀ (i : Nat) (y : β), r[i]? = some y → ∃ x, l[i]? = some x ∧ f x = some y
  | [], r, h => by simp at h; subst h; exact ⟨rfl, fun i y hi => by simp at hi⟩
  | x :: l, r, h => by
    rw [List.mapM_cons] at h
    cases hx : f x with
    | none => rw [hx] at h; cases h
    | some y =>
      rw [hx] at h
      cases hl : l.mapM f with
      | none => rw [hl] at h; cases h
      | some ys =>
        rw [hl] at h
        cases h
        obtain ⟨h1, h2⟩ := mapM_some hl
        refine ⟨by simp [h1], fun i z hi => ?_⟩
        cases i with
        | zero => simp at hi; subst hi; exact ⟨x, rfl, hx⟩
        | succ i => simpa using h2 i z (by simpa using hi)
theorem pure_rel (H : Inv K Z I J ρ h w) (hI : ∀ R o, I R o → I' R o) (hJ : ∀ R, J R → J' R) (hown : ∀ b R base len x, ρ b = some (.at R base len) → live h b x → (∀ o, I' R o) ∧ J' R) :
    ∀ (n : Nat) {v v' : LV} {V : Value}, pureV n h v = some v' → VR K I J w ρ v V → VR K I' J' w noEnv v' V
  | 0, v, v', V, hp, hv => by cases hp
  | n + 1, v, v', V, hp, hv => by
    have up : ∀ {c : LV} {U : Value}, VR K I J w noEnv c U → VR K I' J' w noEnv c U := fun h => h.mono hI hJ (Keep.refl _ _ _) (fun _ _ => rfl)
    have lists : ∀ {cs ds : List LV} {C : Array Value}, cs.length = C.size → (∀ (i : Nat) (v : LV) (V : Value), cs[i]? = some v → C[i]? = some V → VR K I J w ρ v V) → cs.mapM (pureV n h) = some ds →
        ds.length = C.size ∧ ∀ (i : Nat) (v : LV) (V : Value), ds[i]? = some v → C[i]? = some V → VR K I' J' w noEnv v V := by
      intro cs ds C hl hr hm
      obtain ⟨h1, h2⟩ := mapM_some hm
      refine ⟨by omega, fun i v V hv hV => ?_⟩
      obtain ⟨u, hu, hpu⟩ := h2 i v hv
      exact pure_rel H hI hJ hown n hpu (hr i u V hu hV)
    unfold pureV at hp
    split at hp
    ·
      rename_i b s vw
      split at hp
      · rename_i mv es s' e hg
        cases hc : (s == s') with
        | false => rw [hc] at hp; cases hp
        | true =>
          rw [hc, cond_true] at hp
          simp only [beq_iff_eq] at hc
          subst hc
          obtain ⟨xs, hxs, rfl⟩ := Option.map_eq_some_iff.1 hp
          have hx := live_getD hg
          rcases row_inv H hx hxs hv with ⟨A, rfl, rfl⟩ | ⟨R, base, len, off, cap, rfl, hb, h1, h2, h3⟩
          · cases A with
            | none => exact .slnil _ _ _ _ (by simp)
            | some a => exact .slemp _ _ _ _ _ _ (by simp) (by simp)
          · obtain ⟨g0, g1, g2, C, g3, g4, g5, g6⟩ := H.rel b R base len _ hb hx
            refine sl_of (C := C) (e := e) (R := R) (base := base + off * s) g1 (.inr ⟨rfl, h2⟩) rfl (by simp) (fun i el hi => g2 _ el (h3 i el hi)) (fun _ => ⟨g3, ?_, (hown b R base len _ hb hx).1, g5⟩) (fun i k el c V hi hk hV => ?_)
            · have : (off + xs.length) * s ≤ es.length * s := Nat.mul_le_mul_right _ h1
              rw [Nat.add_mul] at this
              omega
            · exact up (g6 (off + i) k el c V (h3 i el hi) hk (by rw [show base + (off + i) * s + k = base + off * s + i * s + k by rw [Nat.add_mul]; omega]; exact hV))
      · rename_i mv es s' e hg
        cases hc : (s == s') with
        | false => rw [hc] at hp; cases hp
        | true =>
          rw [hc, cond_true] at hp
          simp only [beq_iff_eq] at hc
          subst hc
          obtain ⟨xs, hxs, hp⟩ := Option.bind_eq_some_iff.1 hp
          obtain ⟨ys, hys, rfl⟩ := Option.map_eq_some_iff.1 hp
          obtain ⟨hl, hmap⟩ := mapM_some hys
          have hx := live_getD hg
          rcases row_inv H hx hxs hv with ⟨A, rfl, rfl⟩ | ⟨R, base, len, off, cap, rfl, hb, h1, h2, h3⟩
          · have : ys = [] := List.eq_nil_of_length_eq_zero (by simpa using hl)
            subst this
            cases A with
            | none => exact .slnil _ _ _ _ (by simp)
            | some a => exact .slemp _ _ _ _ _ _ (by simp) (by simp)
          · obtain ⟨g0, g1, g2, C, g3, g4, g5, g6⟩ := H.rel b R base len _ hb hx
            refine sl_of (C := C) (e := e) (R := R) (base := base + off * s) g1 (.inr ⟨rfl, h2⟩) hl.symm (by simp) (fun i el hi => ?_) (fun _ => ⟨g3, ?_, (hown b R base len _ hb hx).1, g5⟩) (fun i k el c V hi hk hV => ?_)
            · obtain ⟨u, hu, hpu⟩ := hmap i el hi
              rw [(mapM_some hpu).1]
              exact g2 _ u (h3 i u hu)
            · have : (off + xs.length) * s ≤ es.length * s := Nat.mul_le_mul_right _ h1
              rw [Nat.add_mul] at this
              rw [hl]
              omega
            · obtain ⟨u, hu, hpu⟩ := hmap i el hi
              obtain ⟨c', hc', hpc⟩ := (mapM_some hpu).2 k c hk
              exact pure_rel H hI hJ hown n hpc (g6 (off + i) k u c' V (h3 i u hu) hc' (by rw [show base + (off + i) * s + k = base + off * s + i * s + k by rw [Nat.add_mul]; omega]; exact hV))
      · cases hp
    ·
      rename_i b off s n'
      split at hp
      · rename_i cs e hg
        obtain ⟨ds, hds, hp⟩ := Option.bind_eq_some_iff.1 hp
        cases hc : (noRefs ds && decide (0 < s)) with
        | false => rw [hc] at hp; cases hp
        | true =>
          rw [hc, cond_true] at hp
          cases hp
          simp only [Bool.and_eq_true, decide_eq_true_eq] at hc
          obtain ⟨hnr, hs0⟩ := hc
          obtain ⟨h3, h4⟩ := chunk_spec hds
          have hx := live_getD hg
          cases hv with
          | bsl _ _ _ _ _ R base len cap hb hcap =>
            obtain ⟨g0, C, g1, g2, g3, g4⟩ := H.rel b R base len _ hb hx
            subst g0
            have hin : ∀ (i k : Nat) (el : List LV), ds[i]? = some el → k < s → el[k]? = cs[off + i * s + k]? ∧ off + i * s + k < C.size := by
              intro i k el hi hk
              obtain ⟨a1, a2⟩ := h4 i el hi
              have a3 := a2 k hk
              refine ⟨a3, ?_⟩
              rw [List.getElem?_eq_getElem (by omega)] at a3
              have := (List.getElem?_eq_some_iff.1 a3.symm).1
              omega
            rw [← h3]
            rcases Nat.eq_zero_or_pos ds.length with hz | hz
            · have : ds = [] := List.eq_nil_of_length_eq_zero hz
              subst this
              exact .slemp _ _ _ _ _ _ (by simp) (by simp)
            · refine .sl _ _ _ _ _ R (0 + off) cap (fun i k => C[off + i * s + k]?.getD default) (by simp) (by omega) (by simp) hs0 (fun i el hi => (h4 i el hi).1) (fun i k hi hk => ?_) (fun i k el c hi hk => ?_)
              · obtain ⟨_, hlt⟩ := hin i k ds[i] (by simp [hi]) hk
                rw [Nat.zero_add]
                refine ⟨(cell_of g1).trans (by simp [hlt]), (hown b R 0 len _ hb hx).1 _, ?_⟩
                have := g3 (off + i * s + k) C[off + i * s + k] (by simp [hlt])
                simpa [hlt] using this
              · have hk' := (List.getElem?_eq_some_iff.1 hk).1
                rw [(h4 i el hi).1] at hk'
                obtain ⟨he, hlt⟩ := hin i k el hi hk'
                have h5 := g4 (off + i * s + k) c C[off + i * s + k] (he.symm.trans hk) (by simp [hlt])
                have h6 : c.refs = [] := by
                  simp only [noRefs, List.all_eq_true, List.isEmpty_iff] at hnr
                  exact refsL_nil (hnr el (List.mem_of_getElem? hi)) hk
                have := up (h5.noRefs h6)
                simpa [hlt] using this
      · cases hp
    ·
      rename_i b
      split at hp
      · rename_i kt ks vs hg
        cases hp
        have hx := live_getD hg
        cases hv with
        | map _ _ R base len hb =>
          obtain ⟨es, clock, g1, g2, g3, g4, g5, g6, g7, g8⟩ := H.rel b R base len _ hb hx
          exact .pmap _ kt ks vs R es clock (hown b R base len _ hb hx).2 g1 g2 g3 g4 (fun i k e a c => up (g5 i k e a c)) (fun i v e a c => up (g6 i v e a c)) g7 g8
      · rename_i kt ks vs hg
        obtain ⟨us, hus, rfl⟩ := Option.map_eq_some_iff.1 hp
        obtain ⟨hl, hmap⟩ := mapM_some hus
        have hx := live_getD hg
        cases hv with
        | map _ _ R base len hb =>
          obtain ⟨es, clock, g1, g2, g3, g4, g5, g6, g7, g8⟩ := H.rel b R base len _ hb hx
          exact .pmap _ kt ks us R es clock (hown b R base len _ hb hx).2 g1 g2 (by omega) g4 (fun i k e a c => up (g5 i k e a c)) (fun i v e a c => by
            obtain ⟨u, hu, hpu⟩ := hmap i v a
            exact pure_rel H hI hJ hown n hpu (g6 i u e hu c)) g7 g8
      · cases hp
    ·
      rename_i b off
      split at hp
      · rename_i cs e hg
        obtain ⟨ds, hds, rfl⟩ := Option.map_eq_some_iff.1 hp
        have hx := live_getD hg
        cases hv with
        | ptr _ _ _ R base len hb =>
          obtain ⟨g0, C, g1, g2, g3, g4⟩ := H.rel b R base len _ hb hx
          subst g0
          obtain ⟨h1, h2⟩ := lists g2 g4 hds
          refine .eptr _ ds off R 0 (fun k => C[k]?.getD default) (fun k hk => ?_) (fun k c hc => ?_)
          · have hlt : k < C.size := by omega
            rw [Nat.zero_add]
            refine ⟨(cell_of g1).trans (by simp [hlt]), (hown b R 0 len _ hb hx).1 _, ?_⟩
            have := g3 k C[k] (by simp [hlt])
            simpa [hlt] using this
          · have hlt : k < C.size := by have := (List.getElem?_eq_some_iff.1 hc).1; omega
            have := h2 k c C[k] hc (by simp [hlt])
            simpa [hlt] using this
      · cases hp
    ·
      rename_i b i s off
      split at hp
      · rename_i mv es s' e hg
        cases hc : (s == s') with
        | false => rw [hc] at hp; cases hp
        | true =>
          rw [hc, cond_true] at hp
          simp only [beq_iff_eq] at hc
          subst hc
          obtain ⟨el, hel, rfl⟩ := Option.map_eq_some_iff.1 hp
          have hx := live_getD hg
          cases hv with
          | rptr _ _ _ _ _ R base len hb =>
            obtain ⟨g0, g1, g2, C, g3, g4, g5, g6⟩ := H.rel b R base len _ hb hx
            have hil := (List.getElem?_eq_some_iff.1 hel).1
            have hin : ∀ k, k < s → base + i * s + k < C.size := fun k hk => by have := mul_lt_of hil hk; omega
            refine .eptr _ el off R (base + i * s) (fun k => C[base + i * s + k]?.getD default) (fun k hk => ?_) (fun k c hc => ?_)
            · rw [g2 i el hel] at hk
              have hlt := hin k hk
              refine ⟨(cell_of g3).trans (by simp [hlt]), (hown b R base len _ hb hx).1 _, ?_⟩
              have := g5 (base + i * s + k) C[base + i * s + k] (by simp [hlt])
              simpa [hlt] using this
            · have hk := (List.getElem?_eq_some_iff.1 hc).1
              rw [g2 i el hel] at hk
              have hlt := hin k hk
              have := up (g6 i k el c C[base + i * s + k] hel hc (by simp [hlt]))
              simpa [hlt] using this
      · cases hp
    ·
      rename_i f first caps
      split at hp
      · rename_i f'
        split at hp
        · rename_i a b ha hb
          cases hp
          cases hv with
          | fn _ _ f'' _ _ A B hf h1 h2 h3 h4 =>
            cases hf
            obtain ⟨a1, a2⟩ := lists h1 h3 ha
            obtain ⟨b1, b2⟩ := lists h2 h4 hb
            exact .fn _ _ _ _ _ _ _ (.func _) a1 b1 a2 b2
        · cases hp
      · cases hp
    · obtain ⟨y, hy, rfl⟩ := Option.map_eq_some_iff.1 hp
      cases hv with
      | ifc _ t x X hx => exact .ifc _ _ _ _ (pure_rel H hI hJ hown n hy hx)
    · obtain ⟨ds, hds, rfl⟩ := Option.map_eq_some_iff.1 hp
      cases hv with
      | agg _ _ C h1 h2 h3 =>
        obtain ⟨a1, a2⟩ := lists h1 h3 hds
        exact .agg _ _ _ a1 h2 a2
    · obtain ⟨ds, hds, rfl⟩ := Option.map_eq_some_iff.1 hp
      cases hv with
      | tup _ _ C h1 h3 =>
        obtain ⟨a1, a2⟩ := lists h1 h3 hds
        exact .tup _ _ _ a1 a2
    · cases hp
      rename_i n1 n2 n3 n4 n5 n6 n7 n8 n9
      refine up (hv.noRefs ?_)
      cases v <;> first | rfl | skip
      · exact absurd rfl (n1 _ _ _)
      · exact absurd rfl (n2 _ _ _ _)
      · exact absurd rfl (n4 _ _)
      · exact absurd rfl (n5 _ _ _ _)
      · exact absurd rfl (n3 _)
      · exact absurd rfl (n6 _ _ _)
      · exact absurd rfl (n7 _ _)
      · exact absurd rfl (n8 _)
      · exact absurd rfl (n9 _)
end
end Go.LH


set_option linter.unusedVariables false
set_option linter.unusedSimpArgs false
namespace Go.LH
theorem frzL_map (b : Nat) (x : Option Blk) : ∀ (cs : List LV), frzL b x cs = cs.map (LV.frz b x)
  | [] => by simp [frzL]
  | c :: cs => by simp [frzL, frzL_map b x cs]
section
variable {K : Ctx} {P : Program} {Z : Nat → Prop} {I I' : CellP} {J J' : Nat → Prop} {w w' : World} {ρ ρ' : Env} {h h' : Heap}
def frzI (I : CellP) (ρ : Env) (b : Nat) : CellP := fun R o => I R o ∨ ∃ base len, ρ b = some (.at R base len)
def frzJ (J : Nat → Prop) (ρ : Env) (b : Nat) : Nat → Prop := fun R => J R ∨ ∃ base len, ρ b = some (.at R base len)
theorem frz_rel (H : Inv K Z I J ρ h w) {b : Nat} {v : LV} {V : Value} (hv : VR K I J w ρ v V) : VR K (frzI I ρ b) (frzJ J ρ b) w ρ (v.frz b (h.getD b none)) V := by
  have hI : ∀ R o, I R o → frzI I ρ b R o := fun R o h => .inl h
  have hJ : ∀ R, J R → frzJ J ρ b R := fun R h => .inl h
  have up : ∀ {ρ₁ : Env} {c : LV} {U : Value}, VR K I J w ρ₁ c U → VR K (frzI I ρ b) (frzJ J ρ b) w ρ₁ c U := fun h => h.mono hI hJ (Keep.refl _ _ _) (fun _ _ => rfl)
  have rows : ∀ {b' s : Nat} {vw : Option (Nat × Nat)} {X : Value}, VR K I J w ρ (.row b' s vw) X → VR K (frzI I ρ b) (frzJ J ρ b) w ρ ((LV.row b' s vw).frz b (h.getD b none)) X := by
    intro b' s vw X hX
    simp only [LV.frz]
    cases hb : (b' == b) with
    | false => exact up hX
    | true =>
      simp only [beq_iff_eq] at hb
      subst hb
      simp only [cond_true]
      split
      · rename_i mv es s' e hg
        cases hc : (s == s') with
        | false => exact .un _ _
        | true =>
          simp only [beq_iff_eq] at hc
          subst hc
          simp only [cond_true]
          split
          · rename_i xs hxs
            have hx := live_getD hg
            rcases row_inv H hx hxs hX with ⟨A, rfl, rfl⟩ | ⟨R, base, len, off, cap, rfl, hbb, h1, h2, h3⟩
            · cases A with
              | none => exact .slnil _ _ _ _ (by simp)
              | some a => exact .slemp _ _ _ _ _ _ (by simp) (by simp)
            · obtain ⟨g0, g1, g2, C, g3, g4, g5, g6⟩ := H.rel b' R base len _ hbb hx
              refine sl_of (C := C) (e := e) (R := R) (base := base + off * s) g1 (.inr ⟨rfl, h2⟩) rfl (by simp) (fun i el hi => g2 _ el (h3 i el hi)) (fun _ => ⟨g3, ?_, fun o => .inr ⟨base, len, hbb⟩, g5⟩) (fun i k el c V hi hk hV => ?_)
              · have : (off + xs.length) * s ≤ es.length * s := Nat.mul_le_mul_right _ h1
                rw [Nat.add_mul] at this
                omega
              · exact up (g6 (off + i) k el c V (h3 i el hi) hk (by rw [show base + (off + i) * s + k = base + off * s + i * s + k by rw [Nat.add_mul]; omega]; exact hV))
          · exact .un _ _
      · exact up hX
  induction hv with
  | row ρ b' s R base len cap Kc ty h1 h2 h3 h4 => exact rows (.row _ b' s R base len cap Kc ty h1 h2 h3 h4)
  | rowv ρ b' s A h1 => exact rows (.rowv _ b' s A h1)
  | part ρ b' s off n R base len cap Kc ty h1 h2 h3 h4 h5 => exact rows (.part _ b' s off n R base len cap Kc ty h1 h2 h3 h4 h5)
  | part0 ρ b' s off A l h1 => exact rows (.part0 _ b' s off A l h1)
  | map ρ b' R base len h1 =>
    simp only [LV.frz]
    cases hb : (b' == b) with
    | false => exact .map _ _ _ _ _ h1
    | true =>
      simp only [beq_iff_eq] at hb
      subst hb
      simp only [cond_true]
      split
      · rename_i kt ks vs hg
        obtain ⟨es, clock, g1, g2, g3, g4, g5, g6, g7, g8⟩ := H.rel b' R base len _ h1 (live_getD hg)
        exact .pmap _ kt ks vs R es clock (.inr ⟨base, len, h1⟩) g1 g2 g3 g4 (fun i k e a c => up (g5 i k e a c)) (fun i v e a c => up (g6 i v e a c)) g7 g8
      · exact .map _ _ _ _ _ h1
  | un ρ V => exact .un _ _
  | bool ρ b => exact .bool _ _
  | int ρ k n => exact .int _ _ _
  | str ρ s => exact .str _ _
  | slnil ρ s nl ex h => exact .slnil _ _ _ _ h
  | slemp ρ s nl ex a cap h1 h2 => exact .slemp _ _ _ _ _ _ h1 h2
  | sl ρ s nl ex es R o cap Vs h1 h2 h3 h4 h5 h6 h7 _ => exact up (.sl _ _ _ _ _ R o cap Vs h1 h2 h3 h4 h5 h6 h7)
  | bsl ρ b off s n R base len cap h1 h2 => exact .bsl _ _ _ _ _ _ _ _ _ h1 h2
  | ptr ρ b off R base len h1 => exact .ptr _ _ _ _ _ _ h1
  | rptr ρ b i s off R base len h1 => exact .rptr _ _ _ _ _ _ _ _ h1
  | eptr ρ cs off R o Vs h1 h2 _ => exact up (.eptr _ cs off R o Vs h1 h2)
  | nptr ρ => exact .nptr _
  | pmap ρ kt ks vs R es clock h1 h2 h3 h4 h5 h6 h7 h8 h9 _ _ => exact up (.pmap _ kt ks vs R es clock h1 h2 h3 h4 h5 h6 h7 h8 h9)
  | nmap ρ => exact .nmap _
  | fn ρ f f' a b' A B h1 h2 h3 _ _ ih1 ih2 =>
    simp only [LV.frz, frzL_map]
    refine .fn _ _ _ _ _ _ _ h1 (by simpa using h2) (by simpa using h3) (fun i v V hv hV => ?_) (fun i v V hv hV => ?_)
    · simp only [List.getElem?_map, Option.map_eq_some_iff] at hv
      obtain ⟨u, hu, rfl⟩ := hv
      exact ih1 i u V hu hV H hI hJ up rows
    · simp only [List.getElem?_map, Option.map_eq_some_iff] at hv
      obtain ⟨u, hu, rfl⟩ := hv
      exact ih2 i u V hu hV H hI hJ up rows
  | nfn ρ => exact .nfn _
  | ifc ρ t x X _ ih => exact .ifc _ _ _ _ (ih H hI hJ up rows)
  | nifc ρ => exact .nifc _
  | agg ρ cs C h1 h2 _ ih =>
    simp only [LV.frz, frzL_map]
    refine .agg _ _ _ (by simpa using h1) h2 (fun i v V hv hV => ?_)
    simp only [List.getElem?_map, Option.map_eq_some_iff] at hv
    obtain ⟨u, hu, rfl⟩ := hv
    exact ih i u V hu hV H hI hJ up rows
  | tup ρ cs C h1 _ ih =>
    simp only [LV.frz, frzL_map]
    refine .tup _ _ _ (by simpa using h1) (fun i v V hv hV => ?_)
    simp only [List.getElem?_map, Option.map_eq_some_iff] at hv
    obtain ⟨u, hu, rfl⟩ := hv
    exact ih i u V hu hV H hI hJ up rows
theorem TmpsR.map {f : LV → LV} {cs : List LV} {C : Array Value} (hf : ∀ v V, VR K I J w ρ v V → VR K I' J' w' ρ' (f v) V) (h : TmpsR K I J w ρ cs C) : TmpsR K I' J' w' ρ' (cs.map f) C := by
  refine ⟨by simpa using h.1, fun i v V hv hV => ?_⟩
  simp only [List.getElem?_map, Option.map_eq_some_iff] at hv
  obtain ⟨u, hu, rfl⟩ := hv
  exact hf u V (h.2 i u V hu hV)
theorem isRow_mapv (f : LV → LV) (x : Option Blk) : kd (x.map (Blk.mapv f)) = kd x ∧ moved (x.map (Blk.mapv f)) = moved x := by
  cases x with
  | none => exact ⟨rfl, rfl⟩
  | some y => cases y <;> exact ⟨rfl, rfl⟩
theorem Stab.mapv {h : Heap} {ρ : Env} (f : LV → LV) : Stab h ρ (h.map fun x => x.map (Blk.mapv f)) ρ := by
  refine Stab.same (by simp) (fun c hc => ?_)
  simp only [List.getD_eq_getElem?_getD, List.getElem?_map]
  cases hx : h[c]? with
  | none => exact shapeLe.refl _
  | some x =>
    simp only [Option.map_some, Option.getD_some]
    obtain ⟨a, b⟩ := isRow_mapv f x
    refine ⟨fun e => by subst e; rfl, .inr ⟨a.symm, fun m => by rw [b]; exact m⟩⟩
theorem Stab.kill {h : Heap} {ρ : Env} (b : Nat) : Stab h ρ (h.set b none) ρ := by
  refine Stab.same (by simp) (fun c hc => ?_)
  by_cases e : c = b
  · subst e
    simp only [List.getD_eq_getElem?_getD, List.getElem?_set_self hc, Option.getD_some]
    exact ⟨fun _ => rfl, .inl rfl⟩
  · simp only [List.getD_eq_getElem?_getD, List.getElem?_set_ne (Ne.symm e)]
    exact shapeLe.refl _
theorem live_kill {h : Heap} {b b' : Nat} {x : Blk} (hx : live (h.set b none) b' x) : b' ≠ b ∧ live h b' x := by
  by_cases e : b' = b
  · subst e
    exfalso
    unfold live at hx
    rcases Nat.lt_or_ge b' h.length with h1 | h1
    · rw [List.getElem?_set_self h1] at hx; cases hx
    · rw [List.getElem?_eq_none (by simpa using h1)] at hx; cases hx
  · exact ⟨e, (live_set_ne e).1 hx⟩
theorem Step.refl (H : Inv K Z I J ρ h w) (hf : ∀ b, h.length ≤ b → ρ b = none) : Step K Z I J ρ h w I J ρ h w :=
  ⟨H, Chg.refl _ _ _ _, fun _ _ h => h, fun _ h => h, fun _ _ h => .inl h, fun _ h => .inl h, Stab.refl _ _, hf⟩
theorem Step.trans {I₁ I₂ I₃ : CellP} {J₁ J₂ J₃ : Nat → Prop} {ρ₁ ρ₂ ρ₃ : Env} {h₁ h₂ h₃ : Heap} {w₁ w₂ w₃ : World} (a : Step K Z I₁ J₁ ρ₁ h₁ w₁ I₂ J₂ ρ₂ h₂ w₂) (b : Step K Z I₂ J₂ ρ₂ h₂ w₂ I₃ J₃ ρ₃ h₃ w₃) : Step K Z I₁ J₁ ρ₁ h₁ w₁ I₃ J₃ ρ₃ h₃ w₃ :=
  ⟨b.inv, a.chg.trans b.chg a.i a.j, fun R o h => b.i R o (a.i R o h), fun R h => b.j R (a.j R h), fun R o h => (b.inew R o h).elim (a.inew R o) .inr, fun R h => (b.jnew R h).elim (a.jnew R) .inr, a.stab.trans b.stab, b.fresh⟩
theorem freeze1_step (H : Inv K Z I J ρ h w) (hf : ∀ b, h.length ≤ b → ρ b = none) {b : Nat} (hx : frzable (h.getD b none) = true) :
    Step K Z I J ρ h w (frzI I ρ b) (frzJ J ρ b) ρ ((h.map fun y => y.map (Blk.mapv (LV.frz b (h.getD b none)))).set b none) w := by
  obtain ⟨x, hxx⟩ : ∃ x, h.getD b none = some x := by
    cases hg : h.getD b none with
    | none => rw [hg] at hx; cases hx
    | some x => exact ⟨x, rfl⟩
  have hlive := live_getD hxx
  have ownb : ∀ {R base len}, ρ b = some (.at R base len) → ¬ Z R ∧ (∀ o, ¬ I R o) ∧ ¬ J R ∧ R < w.heap.size := fun hb => H.own b _ _ _ x hb hlive
  have hne : ∀ {b' R base len y base' len'}, b' ≠ b → ρ b' = some (.at R base len) → live h b' y → ρ b = some (.at R base' len') → False := fun hn h1 h2 h3 => hn (H.inj _ _ _ _ _ _ _ _ _ h1 h3 h2 hlive)
  refine ⟨⟨?_, ?_, ?_, ?_, H.zlt, ?_, ?_, ?_⟩, Chg.refl _ _ _ _, fun _ _ h => .inl h, fun _ h => .inl h, fun R o hi => hi.imp (fun h => h) (fun ⟨_, _, hb⟩ => (ownb hb).1), fun R hj => hj.imp (fun h => h) (fun ⟨_, _, hb⟩ => (ownb hb).1), (Stab.mapv _).trans (Stab.kill b), fun c hc => hf c (by simpa using hc)⟩
  · intro b' R base len y hb' hy
    obtain ⟨hn, hy⟩ := live_kill hy
    obtain ⟨y', h1, rfl⟩ := live_mapv hy
    exact (H.rel b' R base len y' hb' h1).mapv (fun v V hv => frz_rel H hv) (fun _ _ h => .inl h) (fun _ h => .inl h) (Keep.refl _ _ _) rfl (fun _ _ => ⟨rfl, fun _ _ _ _ => rfl⟩)
  · intro b' R base len y hb' hy
    obtain ⟨hn, hy⟩ := live_kill hy
    obtain ⟨y', h1, rfl⟩ := live_mapv hy
    have ho := H.own b' R base len y' hb' h1
    refine ⟨ho.1, fun o hi => ?_, fun hj => ?_, ho.2.2.2⟩
    · rcases hi with hi | ⟨_, _, hi⟩
      · exact ho.2.1 o hi
      · exact hne hn hb' h1 hi
    · rcases hj with hj | ⟨_, _, hj⟩
      · exact ho.2.2.1 hj
      · exact hne hn hb' h1 hj
  · intro b1 b2 R a1 l1 a2 l2 y1 y2 h1 h2 hy1 hy2
    obtain ⟨_, hy1⟩ := live_kill hy1
    obtain ⟨_, hy2⟩ := live_kill hy2
    obtain ⟨z1, g1, _⟩ := live_mapv hy1
    obtain ⟨z2, g2, _⟩ := live_mapv hy2
    exact H.inj b1 b2 R a1 l1 a2 l2 z1 z2 h1 h2 g1 g2
  · intro b' y hb' hy
    obtain ⟨_, hy⟩ := live_kill hy
    obtain ⟨y', h1, rfl⟩ := live_mapv hy
    obtain ⟨pu, mv, s, e, rfl, hs⟩ := H.virt b' y' hb' h1
    exact ⟨pu, mv, s, e, by cases pu <;> simp [Blk.mapv], hs⟩
  · intro R o hi
    rcases hi with hi | ⟨_, _, hi⟩
    · exact H.ilt R o hi
    · exact (ownb hi).2.2.2
  · intro R hj
    rcases hj with hj | ⟨_, _, hj⟩
    · exact H.jlt R hj
    · exact (ownb hj).2.2.2
  · intro i Ri bi li m ks vs last R base len hri hi hm
    obtain ⟨_, hi⟩ := live_kill hi
    obtain ⟨y', h1, he⟩ := live_mapv hi
    have hxi : y'.iterOf = some m := by rw [← mapv_iterOf (LV.frz b (h.getD b none)) y', ← he]; rfl
    cases y' with
    | iter mb ks' vs' last' =>
      simp only [Blk.iterOf] at hxi
      subst hxi
      by_cases em : m = b
      · subst em; exact .inl (.inr ⟨base, len, hm⟩)
      · rcases H.iters i Ri bi li m ks' vs' last' R base len hri h1 hm with h2 | ⟨pu, kt, k, v, h2⟩
        · exact .inl (.inl h2)
        · exact .inr ⟨_, _, _, _, (live_set_ne em).2 (mapv_live h2)⟩
    | _ => simp [Blk.iterOf] at hxi
structure St (K : Ctx) (Z : Nat → Prop) (I : CellP) (J : Nat → Prop) (ρ : Env) (σ : Fr) (C : Array Value) (w : World) : Prop where
  inv : Inv K Z I J ρ σ.h w
  tmps : TmpsR K I J w ρ σ.t C
  fresh : ∀ b, σ.h.length ≤ b → ρ b = none
theorem freezeAll_step : ∀ (rs : List Nat) {σ : Fr} {I : CellP} {J : Nat → Prop} {C : Array Value}, St K Z I J ρ σ C w → ∃ I' J', Step K Z I J ρ σ.h w I' J' ρ (freezeAll rs σ).h w ∧ TmpsR K I' J' w ρ (freezeAll rs σ).t C ∧ (freezeAll rs σ).fn = σ.fn
  | [], σ, I, J, C, H => ⟨I, J, Step.refl H.inv H.fresh, H.tmps, rfl⟩
  | b :: rs, σ, I, J, C, H => by
    simp only [freezeAll]
    unfold freeze1
    simp only
    cases hx : frzable (σ.h.getD b none) with
    | false => simpa using freezeAll_step rs H
    | true =>
      simp only [cond_true]
      have s1 := freeze1_step H.inv H.fresh hx
      obtain ⟨I', J', s2, t2, f2⟩ := freezeAll_step rs (σ := { σ with t := σ.t.map (LV.frz b (σ.h.getD b none)), h := (σ.h.map fun y => y.map (Blk.mapv (LV.frz b (σ.h.getD b none)))).set b none }) (C := C) ⟨s1.inv, H.tmps.map (fun v V hv => frz_rel H.inv hv), s1.fresh⟩
      exact ⟨I', J', s1.trans s2, t2, f2⟩
theorem tmps_set {t : List LV} {C : Array Value} {d : Nat} {v : LV} {V : Value} (ht : TmpsR K I J w ρ t C) (hv : VR K I J w ρ v V) : TmpsR K I J w ρ (t.set d v) (C.setIfInBounds d V) := by
  refine ⟨by simpa using ht.1, fun i u U hu hU => ?_⟩
  rw [List.getElem?_set] at hu
  by_cases e : d = i
  · subst e
    rw [if_pos rfl] at hu
    split at hu
    · rename_i hl
      cases hu
      rw [Array.getElem?_setIfInBounds_self_of_lt (by rw [← ht.1]; exact hl)] at hU
      cases hU; exact hv
    · cases hu
  · rw [if_neg e] at hu
    rw [Array.getElem?_setIfInBounds_ne e] at hU
    exact ht.2 i u U hu hU
theorem tmps_setL {t : List LV} {C : Array Value} {d : Nat} {v : LV} (ht : TmpsR K I J w ρ t C) (hv : ∀ V, C[d]? = some V → VR K I J w ρ v V) : TmpsR K I J w ρ (t.set d v) C := by
  refine ⟨by simpa using ht.1, fun i u U hu hU => ?_⟩
  rw [List.getElem?_set] at hu
  by_cases e : d = i
  · subst e
    rw [if_pos rfl] at hu
    split at hu
    · cases hu; exact hv U hU
    · cases hu
  · rw [if_neg e] at hu
    exact ht.2 i u U hu hU
theorem sl_empty_inv {s : Nat} {nl : Option Bool} {X : Value} (hX : VR K I J w ρ (.sl s nl true []) X) : ∃ A, X = .slice A 0 0 := by
  cases hX with
  | slnil _ _ _ _ _ => exact ⟨none, rfl⟩
  | slemp _ _ _ _ a cap h1 h2 => rw [h2 rfl]; exact ⟨_, rfl⟩
  | sl _ _ _ _ _ R o cap Vs h1 h2 h3 => rw [h3 rfl]; exact ⟨_, rfl⟩
theorem getD_some {t : List LV} {d : Nat} {v : LV} (h : t.getD d .un = v) (hv : v ≠ .un) : t[d]? = some v := by
  rw [List.getD_eq_getElem?_getD] at h
  cases hx : t[d]? with
  | none => rw [hx] at h; exact absurd h.symm hv
  | some y => rw [hx] at h; simpa using h
theorem newrow_step {σ : Fr} (H : Inv K Z I J ρ h w) (hf : ∀ b, h.length ≤ b → ρ b = none) {z e : Nat} (hz : 0 < z) : Step K Z I J ρ h w I J (upd ρ h.length .virt) (h ++ [some (.row true true [] z e)]) w := by
  have hid := hf _ (Nat.le_refl _)
  refine ⟨H.toVirt (fun R base len => by rw [hid]; simp) hz live_append_new (fun b' y hne hy => live_append_old hy hne) (fun m pu kt ks vs _ hm => live_append hm) (.inr (fun b' R base len y hne h1 h2 hin => by
      obtain ⟨l, hl⟩ := (H.rel b' R base len y h1 h2).dom _ hin
      rw [hid] at hl; cases hl)), Chg.refl _ _ _ _, fun _ _ h => h, fun _ h => h, fun _ _ h => .inl h, fun _ h => .inl h, Stab.append _ (fun b hb => upd_ne (by omega)), fun b hb => ?_⟩
  simp at hb
  rw [upd_ne (by omega)]
  exact hf b (by omega)
theorem keepM_rel : ∀ (m : List Bool) {t : List LV} {i : Nat} {v : LV}, (keepM m t)[i]? = some v → v = .un ∨ t[i]? = some v
  | [], t, i, v, h => by cases t <;> exact .inr h
  | b :: bs, [], i, v, h => by simp [keepM] at h
  | b :: bs, x :: xs, i, v, h => by
    simp only [keepM] at h
    cases i with
    | zero =>
      simp only [List.getElem?_cons_zero, Option.some.injEq] at h ⊢
      cases b with
      | true => exact .inr h
      | false => exact .inl h.symm
    | succ i =>
      simp only [List.getElem?_cons_succ] at h ⊢
      exact keepM_rel bs h
theorem keepM_len : ∀ (m : List Bool) (t : List LV), (keepM m t).length = t.length
  | [], t => by cases t <;> rfl
  | b :: bs, [] => rfl
  | b :: bs, x :: xs => by simp [keepM, keepM_len bs xs]
theorem ghost1_step (g : Gh) {σ : Fr} {C : Array Value} (H : St K Z I J ρ σ C w) : ∃ I' J' ρ', Step K Z I J ρ σ.h w I' J' ρ' (ghost1 σ g).h w ∧ TmpsR K I' J' w ρ' (ghost1 σ g).t C ∧ (ghost1 σ g).fn = σ.fn := by
  have same : ∃ I' J' ρ', Step K Z I J ρ σ.h w I' J' ρ' σ.h w ∧ TmpsR K I' J' w ρ' σ.t C ∧ σ.fn = σ.fn := ⟨I, J, ρ, Step.refl H.inv H.fresh, H.tmps, rfl⟩
  have hid := H.fresh _ (Nat.le_refl _)
  have upv : ∀ {v : LV} {V : Value}, VR K I J w ρ v V → VR K I J w (upd ρ σ.h.length .virt) v V := fun hv => hv.mono (fun _ _ h => h) (fun _ h => h) (Keep.refl _ _ _) (fun b hb => upd_ne (fun e => by
    obtain ⟨l, hl⟩ := hv.dom b hb
    subst e; rw [hid] at hl; cases hl))
  cases g with
  | clr m =>
    refine ⟨I, J, ρ, Step.refl H.inv H.fresh, ⟨by simp only [ghost1, keepM_len]; exact H.tmps.1, fun i v V hv hV => ?_⟩, rfl⟩
    rcases keepM_rel m hv with rfl | h
    · exact .un _ _
    · exact H.tmps.2 i v V h hV
  | mkrow s z e =>
    simp only [ghost1]
    split
    · rename_i s' nl hs
      cases hz : decide (0 < z) with
      | false => exact same
      | true =>
        simp only [cond_true]
        refine ⟨I, J, upd ρ σ.h.length .virt, newrow_step (σ := σ) H.inv H.fresh (by simpa using hz), tmps_setL (H.tmps.mono (fun _ _ h => h) (fun _ h => h) (Keep.refl _ _ _) (fun b hb => upd_ne (fun e => ?_))) (fun V hV => ?_), by first | rfl | trivial⟩
        · obtain ⟨l, hl⟩ := dom_list H.tmps.1 H.tmps.2 b hb
          subst e; rw [hid] at hl; cases hl
        · obtain ⟨A, rfl⟩ := sl_empty_inv (H.tmps.2 s _ V (getD_some hs (by simp)) hV)
          exact .rowv _ _ _ A (upd_same _ _ _)
    · exact same
  | mkrowAt s off z e =>
    simp only [ghost1]
    split
    · rename_i b o hs
      split
      · rename_i cs ty hg
        split
        · rename_i s' nl hc
          cases hz : decide (0 < z) with
          | false => exact same
          | true =>
            simp only [Bool.not_true, cond_false]
            have s1 := newrow_step (σ := σ) (e := e) H.inv H.fresh (z := z) (by simpa using hz)
            have hx := live_getD hg
            have hx' : live (σ.h ++ [some (.row true true [] z e)]) b (.cells cs ty) := live_append hx
            have hbl := live_lt hx
            have hset : (σ.h.set b (some (.cells (cs.set (o + off) (.row σ.h.length z none)) ty))) ++ [some (Blk.row true true [] z e)] = (σ.h ++ [some (Blk.row true true [] z e)]).set b (some (.cells (cs.set (o + off) (.row σ.h.length z none)) ty)) := by
              rw [List.set_append_left _ _ hbl]
            rw [hset]
            have htm : TmpsR K I J w (upd ρ σ.h.length .virt) σ.t C := H.tmps.mono (fun _ _ h => h) (fun _ h => h) (Keep.refl _ _ _) (fun b hb => upd_ne (fun e => by
              obtain ⟨l, hl⟩ := dom_list H.tmps.1 H.tmps.2 b hb
              subst e; rw [hid] at hl; cases hl))
            have hρb : upd ρ σ.h.length .virt b = ρ b := upd_ne (by omega)
            refine ⟨I, J, upd ρ σ.h.length .virt, ⟨?_, s1.chg, s1.i, s1.j, s1.inew, s1.jnew, s1.stab.trans (Stab.set hx' rfl (fun h => h)), fun c hc => s1.fresh c (by simpa using hc)⟩, htm, by first | rfl | trivial⟩
            cases hb : ρ b with
            | none =>
              refine ⟨fun b' R base len y h1 h2 => ?_, fun b' R base len y h1 h2 => ?_, fun b1 b2 R a1 l1 a2 l2 y1 y2 h1 h2 h3 h4 => ?_, fun b' y h1 h2 => ?_, s1.inv.zlt, s1.inv.ilt, s1.inv.jlt, fun i Ri bi li m ks vs last R base len h1 h2 h3 => ?_⟩
              all_goals have ne : ∀ {c l}, upd ρ σ.h.length .virt c = some l → c ≠ b := fun hc e => by subst e; rw [hρb, hb] at hc; cases hc
              · exact s1.inv.rel b' R base len y h1 ((live_set_ne (ne h1)).1 h2)
              · exact s1.inv.own b' R base len y h1 ((live_set_ne (ne h1)).1 h2)
              · exact s1.inv.inj b1 b2 R a1 l1 a2 l2 y1 y2 h1 h2 ((live_set_ne (ne h1)).1 h3) ((live_set_ne (ne h2)).1 h4)
              · exact s1.inv.virt b' y h1 ((live_set_ne (ne h1)).1 h2)
              · rcases s1.inv.iters i Ri bi li m ks vs last R base len h1 ((live_set_ne (ne h1)).1 h2) h3 with h4 | ⟨p, k, a, c, h4⟩
                · exact .inl h4
                · exact .inr ⟨p, k, a, c, (live_set_ne (ne h3)).2 h4⟩
            | some l =>
              cases l with
              | virt =>
                obtain ⟨_, _, _, _, h1, _⟩ := H.inv.virt b _ hb hx
                cases h1
              | «at» R base len =>
                obtain ⟨h0, D, h1, h2, h3, h4⟩ := s1.inv.rel b R base len _ (hρb.trans hb) hx'
                have M : Mut w w R (.cells D ty (0, 0)) := ⟨rfl, fun _ _ => rfl, h1, Io.refl w⟩
                have hrel : BlkRel K I J w (upd ρ σ.h.length .virt) R base len (.cells (cs.set (o + off) (.row σ.h.length z none)) ty) := by
                  refine ⟨h0, D, h1, by simpa using h2, h3, fun i v V hv hV => ?_⟩
                  rw [List.getElem?_set] at hv
                  by_cases ei : o + off = i
                  · subst ei
                    rw [if_pos rfl] at hv
                    split at hv
                    · cases hv
                      obtain ⟨A, rfl⟩ := sl_empty_inv (h4 _ _ V hc hV)
                      exact .rowv _ _ _ A (upd_same _ _ _)
                    · cases hv
                  · rw [if_neg ei] at hv
                    exact h4 i v V hv hV
                exact (s1.inv.box (hρb.trans hb) hx' M (fun _ _ h => h) hrel rfl (by simp) rfl).1
        · exact same
      · exact same
    · exact same
  | frz s =>
    simp only [ghost1]
    obtain ⟨I', J', s1, t1, f1⟩ := freezeAll_step (σ.t.getD s .un).refs H
    exact ⟨I', J', ρ, s1, t1, f1⟩
theorem ghosts_step : ∀ (gs : List Gh) {σ : Fr} {C : Array Value} {I : CellP} {J : Nat → Prop} {ρ : Env}, St K Z I J ρ σ C w → ∃ I' J' ρ', Step K Z I J ρ σ.h w I' J' ρ' (ghosts σ gs).h w ∧ TmpsR K I' J' w ρ' (ghosts σ gs).t C ∧ (ghosts σ gs).fn = σ.fn
  | [], σ, C, I, J, ρ, H => ⟨I, J, ρ, Step.refl H.inv H.fresh, H.tmps, rfl⟩
  | g :: gs, σ, C, I, J, ρ, H => by
    obtain ⟨I1, J1, ρ1, s1, t1, f1⟩ := ghost1_step g H
    obtain ⟨I2, J2, ρ2, s2, t2, f2⟩ := ghosts_step gs (σ := ghost1 σ g) (C := C) ⟨s1.inv, t1, s1.fresh⟩
    exact ⟨I2, J2, ρ2, s1.trans s2, t2, f2.trans f1⟩
end
end Go.LH


set_option linter.unusedVariables false
set_option linter.unusedSimpArgs false
namespace Go.LH
theorem parts_congr {e e' : Operand → LV} {parts : Array (Nat × Operand)} (h : ∀ x ∈ parts.map (·.2), e x = e' x) : (parts.toList.map fun (i, x) => (i, e x)) = parts.toList.map fun (i, x) => (i, e' x) := by
  apply List.map_congr_left
  rintro ⟨i, x⟩ hx
  have : x ∈ parts.map (·.2) := Array.mem_map.2 ⟨(i, x), Array.mem_toList_iff.1 hx, rfl⟩
  simp [h x this]
theorem args_congr {e e' : Operand → LV} {xs : Array Operand} (h : ∀ x ∈ xs, e x = e' x) : xs.toList.map e = xs.toList.map e' :=
  List.map_congr_left fun x hx => h x (Array.mem_toList_iff.1 hx)
theorem optc {e e' : Operand → LV} {o : Option Operand} (h : ∀ x, o = some x → e x = e' x) : o.map e = o.map e' := by
  cases o with
  | none => rfl
  | some x => simp [h x rfl]
theorem qop_congr {K : Ctx} {id : Nat} {h : Heap} {e e' : Operand → LV} {op : Op} (he : ∀ x ∈ op.operands, e x = e' x) : qop K id h e op = qop K id h e' op := by
  cases op with
  | build t parts => simp only [qop]; rw [parts_congr (fun x hx => he x (by simpa [Op.operands] using hx))]
  | buildSlice t len parts => simp only [qop]; rw [parts_congr (fun x hx => he x (by simpa [Op.operands] using hx))]
  | makeFunc f first caps =>
    simp only [qop]
    rw [args_congr (fun x hx => he x (by simp [Op.operands]; exact .inl hx)), args_congr (xs := caps) (fun x hx => he x (by simp [Op.operands]; exact .inr hx))]
  | slice t x lo hi mx =>
    simp only [qop]
    rw [he x (by simp [Op.operands]), optc (fun y hy => he y (by subst hy; simp [Op.operands])), optc (o := hi) (fun y hy => he y (by subst hy; simp [Op.operands])), optc (o := mx) (fun y hy => he y (by subst hy; simp [Op.operands]))]
  | call c =>
    simp only [qop]
    rw [args_congr (e := e) (e' := e') (fun x hx => he x (by cases hc : c.callee <;> simp [Op.operands, Call.operands, hc, hx]))]
  | move x => simp only [qop]; rw [he x (by simp [Op.operands])]
  | assign x => simp only [qop]; rw [he x (by simp [Op.operands])]
  | pick c a b => simp only [qop]; rw [he c (by simp [Op.operands]), he a (by simp [Op.operands]), he b (by simp [Op.operands])]
  | box t x => simp only [qop]; rw [he x (by simp [Op.operands])]
  | load t a => simp only [qop]; rw [he a (by simp [Op.operands])]
  | nilCheck x => simp only [qop]; rw [he x (by simp [Op.operands])]
  | binOp op t x y z => simp only [qop]; rw [he x (by simp [Op.operands]), he y (by simp [Op.operands])]
  | unOp op t x => simp only [qop]; rw [he x (by simp [Op.operands])]
  | convert s d x => simp only [qop]; rw [he x (by simp [Op.operands])]
  | makeInterface t x => simp only [qop]; rw [he x (by simp [Op.operands])]
  | makeMap t r => cases r <;> simp only [qop]
  | makeSlice t l c => simp only [qop]; rw [he l (by simp [Op.operands]), he c (by simp [Op.operands])]
  | fieldAddr t x f => simp only [qop]; rw [he x (by simp [Op.operands])]
  | field t x f => simp only [qop]; rw [he x (by simp [Op.operands])]
  | indexAddr t x ix => simp only [qop]; rw [he x (by simp [Op.operands]), he ix (by simp [Op.operands])]
  | index t x ix => simp only [qop]; rw [he x (by simp [Op.operands]), he ix (by simp [Op.operands])]
  | lookup t x ix ok => simp only [qop]; rw [he x (by simp [Op.operands]), he ix (by simp [Op.operands])]
  | entry x => simp only [qop]; rw [he x (by simp [Op.operands])]
  | extract x i => simp only [qop]; rw [he x (by simp [Op.operands])]
  | range t x => simp only [qop]; rw [he x (by simp [Op.operands])]
  | _ => simp only [qop]
def HLe (h h' : Heap) : Prop := ∀ b x, h.getD b none = some x → h'.getD b none = some x
theorem HLe.refl (h : Heap) : HLe h h := fun _ _ h => h
theorem HLe.append (h l : Heap) : HLe h (h ++ l) := fun b x hx => getD_live (live_append (live_getD hx))
section
variable {K : Ctx} {h h' : Heap}
theorem getm {β : Type} (hl : HLe h h') (b : Nat) (f : Option Blk → Option β) (hf : f none = none) {r : β} (hr : f (h.getD b none) = some r) : f (h'.getD b none) = some r := by
  cases hg : h.getD b none with
  | none => rw [hg, hf] at hr; cases hr
  | some x => rw [hl b x hg, ← hg]; exact hr
theorem loadV_mono (hl : HLe h h') {t : Nat} {a v : LV} (hr : loadV K h t a = some v) : loadV K h' t a = some v := by
  unfold loadV at hr ⊢
  split at hr
  · rename_i b off
    exact getm hl b (fun x => match x with | some (.cells cs _) => loadV.pack K t off cs | _ => none) rfl hr
  · rename_i b i s off
    exact getm hl b (fun x => match x with | some (.row _ _ es s' _) => bif s == s' then (es[i]?).bind (loadV.pack K t off) else none | _ => none) rfl hr
  · exact hr
  · cases hr
theorem indexV_mono (hl : HLe h h') {t : Nat} {x ix v : LV} (hr : indexV K h t x ix = some v) : indexV K h' t x ix = some v := by
  unfold indexV at hr ⊢
  split at hr
  case h_2 => cases hr
  rename_i k i
  try simp only
  cases h0 : decide (0 ≤ i) with
  | false => rw [h0] at hr; cases hr
  | true =>
    rw [h0, cond_true] at hr
    simp only [cond_true]
    split at hr
    · exact hr
    · rename_i e b s hk
      exact getm hl b (fun x => match x with | some (.row _ _ es _ _) => bif (K.ti e).sz == s && K.has e then (es[i.toNat]?).map fun _ => LV.rptr b i.toNat s 0 else none | _ => none) rfl hr
    · exact hr
    · exact hr
    · exact hr
    · cases hr
theorem sliceV_mono (hl : HLe h h') {t : Nat} {x v : LV} {lo hi mx : Option LV} (hr : sliceV K h t x lo hi mx = some v) : sliceV K h' t x lo hi mx = some v := by
  unfold sliceV at hr ⊢
  split at hr
  · exact hr
  · rename_i et b s vw hk
    cases hc : ((s == (K.ti et).sz) && K.has et) with
    | false => rw [hc] at hr; cases hr
    | true =>
      rw [hc] at hr
      simp only [Bool.not_true, cond_false] at hr ⊢
      cases vw with
      | some p => exact hr
      | none =>
        simp only at hr ⊢
        cases hg : h.getD b none with
        | none => rw [hg] at hr; cases hr
        | some y => rw [hl b y hg, ← hg]; exact hr
  · exact hr
  · exact hr
  · cases hr
theorem lookupV_mono (hl : HLe h h') {t : Nat} {m k v : LV} {ok : Bool} (hr : lookupV K h t m k ok = some v) : lookupV K h' t m k ok = some v := by
  unfold lookupV at hr ⊢
  split at hr
  case h_2 => cases hr
  rename_i kt et hk
  try simp only
  cases hkey : keyOk K kt k with
  | false => rw [hkey] at hr; cases hr
  | true =>
    rw [hkey, cond_true] at hr
    simp only [cond_true]
    cases hz : ((K.ti et).zok && K.has et) with
    | false => rw [hz] at hr; cases hr
    | true =>
      rw [hz, cond_true] at hr
      simp only [cond_true]
      cases m with
      | map b =>
        simp only at hr ⊢
        cases hg : h.getD b none with
        | none => rw [hg] at hr; cases hr
        | some y => rw [hl b y hg, ← hg]; exact hr
      | _ => exact hr
theorem lenOf_mono (hl : HLe h h') {t n : Nat} {x : LV} (hr : lenOf K h t x = some n) : lenOf K h' t x = some n := by
  unfold lenOf at hr ⊢
  split at hr
  · exact hr
  · rename_i e b s hk
    exact getm hl b (fun x => match x with | some (.row _ _ es _ _) => some es.length | _ => none) rfl hr
  · exact hr
  · exact hr
  · exact hr
  · exact hr
  · exact hr
  · rename_i a c b hk
    exact getm hl b (fun x => match x with | some (.map _ _ ks _) => some ks.length | _ => none) rfl hr
  · exact hr
  · exact hr
  · cases hr
theorem qop_mono (hl : HLe h h') {id : Nat} {e : Operand → LV} {op : Op} {r : LV × Option Blk} (hr : qop K id h e op = some r) : qop K id h' e op = some r := by
  have fin : ∀ {x y : Option LV}, (∀ u, x = some u → y = some u) → x.map (fun v => (v, (none : Option Blk))) = some r → y.map (fun v => (v, (none : Option Blk))) = some r := by
    intro x y hxy hx
    obtain ⟨u, hu, rfl⟩ := Option.map_eq_some_iff.1 hx
    rw [hxy u hu]; rfl
  cases op with
  | load t a => simp only [qop] at hr ⊢; exact fin (fun u hu => loadV_mono hl hu) hr
  | slice t x lo hi mx => simp only [qop] at hr ⊢; exact fin (fun u hu => sliceV_mono hl hu) hr
  | indexAddr t x ix => simp only [qop] at hr ⊢; exact fin (fun u hu => indexV_mono hl hu) hr
  | lookup t x ix ok => simp only [qop] at hr ⊢; exact fin (fun u hu => lookupV_mono hl hu) hr
  | entry x =>
    simp only [qop] at hr ⊢
    split at hr
    · rename_i b hx
      try simp only
      exact getm hl b (fun x => match x with | some (.iter _ _ _ (some (k, v))) => some (LV.tup [k, v], (none : Option Blk)) | _ => none) rfl hr
    · cases hr
  | range t x =>
    simp only [qop] at hr ⊢
    split at hr
    · simpa using hr
    · simpa using hr
    · rename_i a c b hk hx
      try simp only
      exact getm hl b (fun x => match x with | some (.map _ _ ks vs) => some (LV.ptr id 0, some (Blk.iter (some b) ks vs none)) | _ => none) rfl hr
    · cases hr
  | call c =>
    simp only [qop] at hr ⊢
    split at hr
    · split at hr
      · rename_i t ht
        try simp only [ht]
        obtain ⟨n, hn, rfl⟩ := Option.map_eq_some_iff.1 hr
        rw [lenOf_mono hl hn]; rfl
      · cases hr
    · exact hr
    · exact hr
    · cases hr
  | makeMap t o => cases o <;> simpa only [qop] using hr
  | _ => simpa only [qop] using hr
theorem mapM_mono {α β : Type} {f g : α → Option β} (hfg : ∀ x y, f x = some y → g x = some y) : ∀ {l : List α} {r : List β}, l.mapM f = some r → l.mapM g = some r
  | [], r, h => by simpa using h
  | x :: l, r, h => by
    rw [List.mapM_cons] at h ⊢
    cases hx : f x with
    | none => rw [hx] at h; cases h
    | some y =>
      rw [hx] at h
      cases hl : l.mapM f with
      | none => rw [hl] at h; cases h
      | some ys =>
        rw [hl] at h
        rw [hfg x y hx, mapM_mono hfg hl]
        exact h
theorem pureV_mono (hl : HLe h h') : ∀ (n : Nat) {v r : LV}, pureV n h v = some r → pureV n h' v = some r
  | 0, v, r, hp => by cases hp
  | n + 1, v, r, hp => by
    have ih : ∀ x y, pureV n h x = some y → pureV n h' x = some y := fun x y => pureV_mono hl n
    unfold pureV at hp ⊢
    split at hp
    · rename_i b s w
      try simp only
      cases hg : h.getD b none with
      | none => rw [hg] at hp; cases hp
      | some y =>
        rw [hg] at hp
        rw [hl b y hg]
        split at hp
        · exact hp
        · try simp only
          rename_i mv es s' e hy
          cases hy
          cases hc : (s == s') with
          | false => rw [hc] at hp; cases hp
          | true =>
            rw [hc] at hp
            simp only [cond_true] at hp ⊢
            obtain ⟨xs, hxs, hp⟩ := Option.bind_eq_some_iff.1 hp
            obtain ⟨ys, hys, rfl⟩ := Option.map_eq_some_iff.1 hp
            rw [hxs]
            simp only [Option.bind_some]
            rw [mapM_mono (fun x y hxy => mapM_mono ih hxy) hys]; rfl
        · cases hp
    · rename_i b off s n'
      exact getm hl b (fun x => match x with | some (.cells cs _) => (chunk cs off s n').bind fun ds => bif noRefs ds && decide (0 < s) then some (LV.sl s none false ds) else none | _ => none) rfl hp
    · rename_i b
      try simp only
      cases hg : h.getD b none with
      | none => rw [hg] at hp; cases hp
      | some y =>
        rw [hg] at hp
        rw [hl b y hg]
        split at hp
        · exact hp
        · rename_i kt ks vs hy
          cases hy
          try simp only
          obtain ⟨us, hus, rfl⟩ := Option.map_eq_some_iff.1 hp
          rw [mapM_mono ih hus]; rfl
        · cases hp
    · rename_i b off
      try simp only
      cases hg : h.getD b none with
      | none => rw [hg] at hp; cases hp
      | some y =>
        rw [hg] at hp
        rw [hl b y hg]
        split at hp
        · rename_i cs e hy
          cases hy
          try simp only
          obtain ⟨us, hus, rfl⟩ := Option.map_eq_some_iff.1 hp
          rw [mapM_mono ih hus]; rfl
        · cases hp
    · rename_i b i s off
      exact getm hl b (fun x => match x with | some (.row true _ es s' _) => bif s == s' then (es[i]?).map fun e => LV.eptr e off else none | _ => none) rfl hp
    · rename_i f first caps
      try simp only
      split at hp
      · try simp only
        split at hp
        · rename_i a b ha hb
          rw [mapM_mono ih ha, mapM_mono ih hb]
          exact hp
        · cases hp
      · cases hp
    · try simp only
      obtain ⟨y, hy, rfl⟩ := Option.map_eq_some_iff.1 hp
      rw [ih _ _ hy]; rfl
    · try simp only
      obtain ⟨y, hy, rfl⟩ := Option.map_eq_some_iff.1 hp
      rw [mapM_mono ih hy]; rfl
    · try simp only
      obtain ⟨y, hy, rfl⟩ := Option.map_eq_some_iff.1 hp
      rw [mapM_mono ih hy]; rfl
    · exact hp
end
end Go.LH


set_option linter.unusedVariables false
set_option linter.unusedSimpArgs false
namespace Go.LH
def FR (ro : Option Nat) : Fence := { Fence.wide with round := ro }
def EnterOK (P : Program) (nx : Next) (w : World) (R : Ending → World → Prop) : Prop :=
  match nx with
  | .enter g as => CallsIn Fence.wide 0 P g as w R
  | .round l f tmps asg body => RoundIn Fence.wide 0 P l f tmps asg body w R
  | _ => False
def callSem (FV : Value) (AV : Array Value) : Sem Next := do
  let d ← Deferred.ofValue FV AV
  invoke d.target d.args
def CallOK (K : Ctx) (P : Program) (cf : CallF) : Prop :=
  ∀ (f : LV) (args : List LV) (h : Heap) (Q : LV × Heap → Prop), (cf f args h).all Q →
    ∀ (Z : Nat → Prop) (I : CellP) (J : Nat → Prop) (ρ : Env) (w : World) (FV : Value) (AV : Array Value), Inv K Z I J ρ h w → (∀ b, h.length ≤ b → ρ b = none) → GlobR K I J w → VR K I J w ρ f FV → TmpsR K I J w ρ args AV →
      ∃ nx, (callSem FV AV).run P w = .ok nx w ∧ (isFnV f = true → ∃ g as, nx = .enter g as) ∧ EnterOK P nx w (fun e w' => ∃ V v h' I' J' ρ', e = .returned V ∧ Q (v, h') ∧ Step K Z I J ρ h w I' J' ρ' h' w' ∧ VR K I' J' w' ρ' v V)
section
variable {K : Ctx} {P : Program} {Z : Nat → Prop} {I I' : CellP} {J J' : Nat → Prop} {w w' : World} {ρ ρ' : Env} {h h' : Heap}
theorem GlobR.keep (hg : GlobR K I J w) (hI : ∀ R o, I R o → I' R o) (hJ : ∀ R, J R → J' R) (hk : Keep I J w w') : GlobR K I' J' w' :=
  fun g cs hgl => (hg g cs hgl).mono hI hJ hk (fun _ _ => rfl)
theorem Step.glob (s : Step K Z I J ρ h w I' J' ρ' h' w') (hg : GlobR K I J w) : GlobR K I' J' w' := hg.keep s.i s.j s.chg.keep
theorem EnterOK.mono {nx : Next} {R R' : Ending → World → Prop} (h : EnterOK P nx w R) (hr : ∀ e w', R e w' → R' e w') : EnterOK P nx w R' := by
  unfold EnterOK at h ⊢
  cases nx <;> first | exact CallsIn.mono h hr | exact RoundIn.mono h hr | exact h
theorem upon_enter {o : Oper} {a : Act} {ro : Option Nat} {nx : Next} {next : Act → World → Prop} {Qx : Exit → Act → World → Prop} {R : Ending → World → Prop} (he : EnterOK P nx w R)
    (hr : ∀ e w', R e w' → ∃ V, e = .returned V ∧ next (a.put o.dst V) w') : o.uponIn (FR ro) 0 P a next Qx (.ok nx w) := by
  unfold EnterOK at he
  split at he
  · rename_i g as
    rw [Oper.uponIn_enter]
    refine ⟨fun h => (by cases h), ?_⟩
    have h1 : CallsIn Fence.wide 0 P g as w (fun
      | .returned v, w'' => next (a.put o.dst v) w''
      | .panicked chain, w'' => Qx (.panic chain) a w''
      | .outgrown, _ => LetsOut Qx) := CallsIn.mono he (fun e w' h => by
        obtain ⟨V, rfl, h2⟩ := hr e w' h
        exact h2)
    exact h1
  · rename_i l f tmps asg body
    rw [Oper.uponIn_round]
    refine ⟨fun h => (by cases h), ?_⟩
    have h1 : RoundIn Fence.wide 0 P l f tmps asg body w (fun
      | .returned v, w'' => next (a.put o.dst v) w''
      | .panicked chain, w'' => Qx (.panic chain) a w''
      | .outgrown, _ => LetsOut Qx) := RoundIn.mono he (fun e w' h => by
        obtain ⟨V, rfl, h2⟩ := hr e w' h
        exact h2)
    exact h1
  · exact he.elim
def mvEq (x y : Blk) : Prop := x = y ∨ ∃ pu m m' es s e, x = .row pu m es s e ∧ y = .row pu m' es s e
theorem mvEq.rel {x y : Blk} {R base len : Nat} (he : mvEq x y) (h : BlkRel K I J w ρ R base len y) : BlkRel K I J w ρ R base len x := by
  rcases he with rfl | ⟨pu, m, m', es, s, e, rfl, rfl⟩
  · exact h
  · exact h
theorem Inv.reflag (H : Inv K Z I J ρ h w) (hl : ∀ b x, live h' b x → ∃ y, live h b y ∧ mvEq x y) (hm : ∀ b pu kt ks vs, live h b (.map pu kt ks vs) → live h' b (.map pu kt ks vs)) : Inv K Z I J ρ h' w := by
  refine ⟨fun b R base len x hb hx => ?_, fun b R base len x hb hx => ?_, fun b1 b2 R a c d e x y h1 h2 h3 h4 => ?_, fun b x hb hx => ?_, H.zlt, H.ilt, H.jlt, fun i Ri bi li m ks vs last R base len h1 h2 h3 => ?_⟩
  · obtain ⟨y, hy, he⟩ := hl b x hx
    exact he.rel (H.rel b R base len y hb hy)
  · obtain ⟨y, hy, he⟩ := hl b x hx
    exact H.own b R base len y hb hy
  · obtain ⟨y1, g1, _⟩ := hl b1 x h3
    obtain ⟨y2, g2, _⟩ := hl b2 y h4
    exact H.inj b1 b2 R a c d e y1 y2 h1 h2 g1 g2
  · obtain ⟨y, hy, he⟩ := hl b x hx
    obtain ⟨pu, mv, s, e, rfl, hs⟩ := H.virt b y hb hy
    rcases he with rfl | ⟨pu', m, m', es, s', e', rfl, h5⟩
    · exact ⟨pu, mv, s, e, rfl, hs⟩
    · cases h5; exact ⟨_, _, _, _, rfl, hs⟩
  · obtain ⟨y, hy, he⟩ := hl i _ h2
    rcases he with rfl | ⟨_, _, _, _, _, _, h5, _⟩
    · rcases H.iters i Ri bi li m ks vs last R base len h1 hy h3 with h4 | ⟨p, k, a, c, h4⟩
      · exact .inl h4
      · exact .inr ⟨p, k, a, c, hm _ _ _ _ _ h4⟩
    · cases h5
theorem setMv_some {m : Bool} {y x : Option Blk} (hx : setMv m y = x) : (y = none ∧ x = none) ∨ ∃ b b', y = some b ∧ x = some b' ∧ mvEq b' b ∧ (∀ pu kt ks vs, b = .map pu kt ks vs → b' = b) ∧ isRow x = isRow y := by
  subst hx
  cases y with
  | none => exact .inl ⟨rfl, rfl⟩
  | some b =>
    cases b with
    | row pu mv es s e => exact .inr ⟨_, _, rfl, rfl, .inr ⟨pu, m, mv, es, s, e, rfl, rfl⟩, fun _ _ _ _ h => (by cases h), rfl⟩
    | _ => exact .inr ⟨_, _, rfl, rfl, .inl rfl, fun _ _ _ _ _ => rfl, rfl⟩
theorem calm_at (h : Heap) (b : Nat) : (calm h).getD b none = setMv false (h.getD b none) := by
  unfold calm
  simp only [List.getD_eq_getElem?_getD, List.getElem?_map]
  cases h[b]? <;> rfl
theorem orMv_at (h h' : Heap) (b : Nat) : (orMv h h').getD b none = bif moved (h.getD b none) then setMv true (h'.getD b none) else h'.getD b none := by
  unfold orMv
  simp only [List.getD_eq_getElem?_getD, List.getElem?_map, List.getElem?_zipIdx]
  cases h'[b]? with
  | none => simp only [Option.map_none, Option.getD_none]; cases moved (h[b]?.getD none) <;> rfl
  | some x => simp
theorem Inv.calm (H : Inv K Z I J ρ h w) : Inv K Z I J ρ (calm h) w := by
  refine H.reflag (fun b x hx => ?_) (fun b pu kt ks vs hx => ?_)
  · have h1 := getD_live hx
    rw [calm_at] at h1
    rcases setMv_some h1 with ⟨_, h2⟩ | ⟨y, y', h2, h3, h4, _⟩
    · cases h2
    · cases h3; exact ⟨y, live_getD h2, h4⟩
  · apply live_getD
    rw [calm_at, getD_live hx]; rfl
theorem kd_setMv (m : Bool) (x : Option Blk) : kd (setMv m x) = kd x := by
  cases x with
  | none => rfl
  | some b => cases b <;> rfl
theorem isRow_setMv (m : Bool) (x : Option Blk) : isRow (setMv m x) = isRow x := by
  cases x with
  | none => rfl
  | some b => cases b <;> rfl
theorem Step.orMv (s : Step K Z I J ρ (LH.calm h) w I' J' ρ' h' w') : Step K Z I J ρ h w I' J' ρ' (LH.orMv h h') w' := by
  have hlen : (LH.calm h).length = h.length := by simp [LH.calm]
  have hlen' : (LH.orMv h h').length = h'.length := by simp [LH.orMv]
  refine ⟨s.inv.reflag (fun b x hx => ?_) (fun b pu kt ks vs hx => ?_), s.chg, s.i, s.j, s.inew, s.jnew, ⟨by rw [hlen', ← hlen]; exact s.stab.len, fun b hb => ?_, fun b hb => ?_⟩, fun b hb => s.fresh b (by rw [← hlen']; exact hb)⟩
  · have h1 := getD_live hx
    rw [orMv_at] at h1
    cases hm : moved (h.getD b none) with
    | false => rw [hm] at h1; exact ⟨x, live_getD h1, .inl rfl⟩
    | true =>
      rw [hm] at h1
      rcases setMv_some (show setMv true (h'.getD b none) = some x from h1) with ⟨_, h2⟩ | ⟨y, y', h2, h3, h4, _⟩
      · cases h2
      · cases h3; exact ⟨y, live_getD h2, h4⟩
  · apply live_getD
    rw [orMv_at, getD_live hx]
    cases moved (h.getD b none) <;> rfl
  · have hs := s.stab.le b (by rw [hlen]; exact hb)
    rw [calm_at] at hs
    rw [orMv_at]
    cases hx : h.getD b none with
    | none =>
      rw [hx] at hs
      have := hs.1 rfl
      refine ⟨fun _ => ?_, .inl ?_⟩ <;> (rw [this]; rfl)
    | some x =>
      rw [hx] at hs
      refine ⟨fun h => (by cases h), ?_⟩
      rcases hs.2 with h1 | ⟨h1, h2⟩
      · left; rw [h1]; cases moved (some x) <;> rfl
      · right
        cases hm : moved (some x) with
        | false =>
          refine ⟨by rw [cond_false, ← h1, kd_setMv], fun h => (by cases h)⟩
        | true =>
          simp only [cond_true, kd_setMv]
          rw [kd_setMv] at h1
          refine ⟨h1, fun _ => ?_⟩
          have hr : isRow (h'.getD b none) = true := by rw [← kd_row h1]; exact moved_isRow hm
          cases hy : h'.getD b none with
          | none => rw [hy] at hr; cases hr
          | some y => rw [hy] at hr; cases y <;> first | rfl | cases hr
  · have he := s.stab.env b (by rw [hlen]; exact hb)
    rw [calm_at, isRow_setMv] at he
    rw [orMv_at]
    rcases he with he | he | ⟨he, hr⟩
    · exact .inl he
    · refine .inr (.inl ?_)
      cases moved (h.getD b none) with
      | false => exact he
      | true =>
        simp only [cond_true]
        cases hy : h'.getD b none with
        | none => rw [hy] at he; cases he
        | some y => rw [hy] at he; cases y <;> first | rfl | cases he
    · refine .inr (.inr ⟨?_, hr⟩)
      rw [he]; cases moved (h.getD b none) <;> rfl
theorem dropMoved_rel (s : Step K Z I J ρ (LH.calm h) w I' J' ρ' h' w') (hf : ∀ b, h.length ≤ b → ρ b = none) {v : LV} {V : Value} (hv : VR K I J w ρ v V) : VR K I' J' w' ρ' (dropMoved h h' v) V := by
  unfold dropMoved
  cases hc : v.refs.any (fun b => moved (h'.getD b none) || (isRow (h.getD b none) && (h'.getD b none).isNone)) with
  | true => exact .un _ _
  | false =>
    simp only [cond_false]
    refine hv.mono s.i s.j s.chg.keep (fun b hb => ?_)
    have hbl : b < h.length := by
      rcases Nat.lt_or_ge b h.length with h1 | h1
      · exact h1
      · obtain ⟨l, hl⟩ := hv.dom b hb
        rw [hf b h1] at hl; cases hl
    rw [List.any_eq_false] at hc
    have h2 := hc b hb
    simp only [Bool.or_eq_true, not_or, Bool.not_eq_true] at h2
    rcases s.stab.env b (by simpa [LH.calm] using hbl) with h3 | h3 | ⟨h3, h4⟩
    · exact h3
    · rw [h2.1] at h3; cases h3
    · rw [calm_at, isRow_setMv] at h4
      rw [h4, h3] at h2
      simp at h2
theorem flat_any {ρ : Env} {v : LV} {V : Value} (hv : VR K I J w ρ v V) : v.flat = true → ∀ (I₂ : CellP) (J₂ : Nat → Prop) (w₂ : World), VR K I₂ J₂ w₂ noEnv v V := by
  have lists : ∀ {cs : List LV}, flatL cs = true → ∀ {i : Nat} {v : LV}, cs[i]? = some v → v.flat = true := by
    intro cs
    induction cs with
    | nil => intro _ i v h; simp at h
    | cons c cs ih =>
      intro h i v hv
      simp only [flatL, Bool.and_eq_true] at h
      cases i with
      | zero => simp at hv; subst hv; exact h.1
      | succ i => exact ih h.2 (by simpa using hv)
  induction hv with
  | un ρ V => exact fun _ _ _ _ => .un _ _
  | bool ρ b => exact fun _ _ _ _ => .bool _ _
  | int ρ k n => exact fun _ _ _ _ => .int _ _ _
  | str ρ s => exact fun _ _ _ _ => .str _ _
  | nptr ρ => exact fun _ _ _ _ => .nptr _
  | nmap ρ => exact fun _ _ _ _ => .nmap _
  | nfn ρ => exact fun _ _ _ _ => .nfn _
  | nifc ρ => exact fun _ _ _ _ => .nifc _
  | agg ρ cs C h1 h2 _ ih => exact fun hf I₂ J₂ w₂ => .agg _ _ _ h1 h2 (fun i v V hv hV => ih i v V hv hV (lists (by simpa [LV.flat] using hf) hv) I₂ J₂ w₂)
  | tup ρ cs C h1 _ ih => exact fun hf I₂ J₂ w₂ => .tup _ _ _ h1 (fun i v V hv hV => ih i v V hv hV (lists (by simpa [LV.flat] using hf) hv) I₂ J₂ w₂)
  | _ => intro hf; simp [LV.flat] at hf
theorem inv_nil (Z : Nat → Prop) (I : CellP) (J : Nat → Prop) (ρ : Env) (hρ : ∀ b, ρ b = none) (h : Heap) (hz : ∀ R, Z R → R < w.heap.size) (hi : ∀ R o, I R o → R < w.heap.size) (hj : ∀ R, J R → R < w.heap.size) : Inv K Z I J ρ h w :=
  ⟨fun b R base len x hb => (by rw [hρ] at hb; cases hb), fun b R base len x hb => (by rw [hρ] at hb; cases hb), fun b b' R a c d e x y hb => (by rw [hρ] at hb; cases hb), fun b x hb => (by rw [hρ] at hb; cases hb), hz, hi, hj,
    fun i Ri bi li m ks vs last R base len hb => (by rw [hρ] at hb; cases hb)⟩
theorem ND.all_bind {α β : Type} {t : ND α} {f : α → ND β} {Q : β → Prop} : (t.bind f).all Q ↔ t.all (fun a => (f a).all Q) := by
  induction t with
  | ok a => exact Iff.rfl
  | bad s => exact Iff.rfl
  | pick n k ih => exact forall_congr' fun i => imp_congr_right fun _ => ih i
theorem ND.all_map {α β : Type} {t : ND α} {f : α → β} {Q : β → Prop} : (t.map f).all Q ↔ t.all (fun a => Q (f a)) := by
  unfold ND.map
  rw [ND.all_bind]
  exact Iff.rfl
theorem refs_of_empty {f : LV} {args : List LV} (h : (f.refs.isEmpty && (refsL args).isEmpty) = true) : f.refs = [] ∧ refsL args = [] := by
  simpa using h
theorem iso_rel {cf : CallF} (hcf : CallOK K P cf) {h₀ : Heap} {why : String} {f : LV} {args : List LV} {Q : LV → Prop} {FV : Value} {AV : Array Value} (hq : (callIso why cf f args h₀).all Q) (hl : HLe h₀ h) (H : Inv K Z I J ρ h w) (hg : GlobR K I J w)
    (hF : VR K I J w ρ f FV) (hA : TmpsR K I J w ρ args AV) :
    ∃ nx, (callSem FV AV).run P w = .ok nx w ∧ EnterOK P nx w (fun e w' => ∃ V v' I' J', e = .returned V ∧ Q v' ∧ Lays I I' J J' w w' ∧ VR K I' J' w' noEnv v' V) := by
  unfold callIso at hq
  split at hq
  case h_2 => exact hq.elim
  rename_i f' args' hf' ha'
  rw [ND.all_bind] at hq
  have hf'' := pureV_mono hl _ hf'
  have ha'' := mapM_mono (fun x y hxy => pureV_mono hl pureDepth hxy) ha'
  obtain ⟨hal, ham⟩ := mapM_some ha''
  have hzc : ∀ R, R < w.heap.size → R < w.heap.size := fun _ h => h
  cases href : (f.refs.isEmpty && (refsL args).isEmpty) with
  | true =>
    obtain ⟨hfr, har⟩ := refs_of_empty href
    have H0 : Inv K Z I J noEnv h w := inv_nil Z I J noEnv (fun _ => rfl) h H.zlt H.ilt H.jlt
    have pv : ∀ {v v' : LV} {V : Value}, v.refs = [] → VR K I J w ρ v V → pureV pureDepth h v = some v' → VR K I J w noEnv v' V := fun hr hv hp =>
      pure_rel H0 (fun _ _ h => h) (fun _ h => h) (fun b R base len x hb => by cases hb) _ hp (hv.noRefs hr)
    have Hc : Inv K (fun R => R < w.heap.size) I J noEnv [] w := inv_nil _ I J noEnv (fun _ => rfl) [] hzc H.ilt H.jlt
    obtain ⟨nx, h1, _, h2⟩ := hcf f' args' [] _ hq _ I J noEnv w FV AV Hc (fun _ _ => rfl) hg (pv hfr hF hf'') ⟨by rw [hal]; exact hA.1, fun i v V hv hV => by
      obtain ⟨u, hu, hp⟩ := ham i v hv
      exact pv (refsL_nil har hu) (hA.2 i u V hu hV) hp⟩
    refine ⟨nx, h1, h2.mono (fun e w' hR => ?_)⟩
    obtain ⟨V, v, h', I'', J'', ρ'', he, hQ, s, hv⟩ := hR
    have hext : Ext w w' := ⟨s.chg.size, fun R hR => s.chg.z R hR, s.chg.io⟩
    simp only at hQ
    split at hQ
    case h_2 => exact hQ.elim
    rename_i v' hp
    rw [href] at hQ
    simp only [Bool.true_or, cond_true, ND.all] at hQ
    refine ⟨V, v', fun R o => I'' R o ∨ (w.heap.size ≤ R ∧ R < w'.heap.size), fun R => J'' R ∨ (w.heap.size ≤ R ∧ R < w'.heap.size), he, hQ, ⟨hext, fun R o h => .inl (s.i R o h), fun R h => .inl (s.j R h), fun R o hi => ?_, fun R hj => ?_⟩, ?_⟩
    · rcases hi with hi | hi
      · rcases s.inew R o hi with h3 | h3
        · exact .inl h3
        · exact .inr ⟨by omega, s.inv.ilt R o hi⟩
      · exact .inr hi
    · rcases hj with hj | hj
      · rcases s.jnew R hj with h3 | h3
        · exact .inl h3
        · exact .inr ⟨by omega, s.inv.jlt R hj⟩
      · exact .inr hj
    · refine pure_rel s.inv (fun _ _ h => .inl h) (fun _ h => .inl h) (fun b R base len x hb hx => ?_) _ hp hv
      have ho := s.inv.own b R base len x hb hx
      exact ⟨fun _ => .inr ⟨by have := ho.1; omega, ho.2.2.2⟩, .inr ⟨by have := ho.1; omega, ho.2.2.2⟩⟩
  | false =>
    have hI : ∀ R o, I R o → R < w.heap.size := H.ilt
    have hJ : ∀ R, J R → R < w.heap.size := H.jlt
    have pv : ∀ {v v' : LV} {V : Value}, VR K I J w ρ v V → pureV pureDepth h v = some v' → VR K (fun R _ => R < w.heap.size) (fun R => R < w.heap.size) w noEnv v' V := fun hv hp =>
      pure_rel H hI hJ (fun b R base len x hb hx => ⟨fun _ => (H.own b R base len x hb hx).2.2.2, (H.own b R base len x hb hx).2.2.2⟩) _ hp hv
    have Hc : Inv K (fun R => R < w.heap.size) (fun R _ => R < w.heap.size) (fun R => R < w.heap.size) noEnv [] w := inv_nil _ _ _ noEnv (fun _ => rfl) [] hzc (fun _ _ h => h) (fun _ h => h)
    obtain ⟨nx, h1, _, h2⟩ := hcf f' args' [] _ hq _ _ _ noEnv w FV AV Hc (fun _ _ => rfl) (hg.keep hI hJ (Keep.refl _ _ _)) (pv hF hf'') ⟨by rw [hal]; exact hA.1, fun i v V hv hV => by
      obtain ⟨u, hu, hp⟩ := ham i v hv
      exact pv (hA.2 i u V hu hV) hp⟩
    refine ⟨nx, h1, h2.mono (fun e w' hR => ?_)⟩
    obtain ⟨V, v, h', I'', J'', ρ'', he, hQ, s, hv⟩ := hR
    have hext : Ext w w' := ⟨s.chg.size, fun R hR => s.chg.z R hR, s.chg.io⟩
    simp only at hQ
    split at hQ
    case h_2 => exact hQ.elim
    rename_i v' hp
    rw [href, Bool.false_or] at hQ
    cases hfl : v'.flat with
    | false => rw [hfl] at hQ; exact hQ.elim
    | true =>
      rw [hfl] at hQ
      simp only [cond_true, ND.all] at hQ
      have h5 := pure_rel (I' := fun _ _ => True) (J' := fun _ => True) s.inv (fun _ _ _ => trivial) (fun _ _ => trivial) (fun _ _ _ _ _ _ _ => ⟨fun _ => trivial, trivial⟩) _ hp hv
      exact ⟨V, v', I, J, he, hQ, Lays.of_ext I J hext, flat_any h5 hfl I J w'⟩
end
end Go.LH


set_option linter.unusedVariables false
set_option linter.unusedSimpArgs false
namespace Go.LH
section
variable {K : Ctx} {P : Program} {Z : Nat → Prop} {I I' : CellP} {J J' : Nat → Prop} {w w' : World} {ρ ρ' : Env} {h h' : Heap}
theorem set_same {h : Heap} {b : Nat} {x : Blk} (hx : live h b x) : h.set b (some x) = h := by
  apply List.ext_getElem?
  intro i
  by_cases e : b = i
  · subst e
    rw [List.getElem?_set_self (live_lt hx)]; exact hx.symm
  · rw [List.getElem?_set_ne e]
theorem put_get {es : List (List LV)} {z : List LV} {off n i : Nat} (hl : off + n ≤ es.length) : (es.take off ++ List.replicate n z ++ es.drop (off + n))[i]? = if off ≤ i ∧ i < off + n then some z else es[i]? := by
  have h1 : (es.take off).length = off := by simp; omega
  by_cases ha : i < off
  · rw [if_neg (by omega), List.append_assoc, List.getElem?_append_left (by omega), List.getElem?_take, if_pos ha]
  · by_cases hb : i < off + n
    · rw [if_pos (by omega), List.getElem?_append_left (by simp; omega), List.getElem?_append_right (by omega), List.getElem?_replicate, if_pos (by omega)]
    · rw [if_neg (by omega), List.getElem?_append_right (by simp; omega), List.getElem?_drop]
      congr 1
      simp
      omega
theorem zero_get {Zs : Array Value} {n j : Nat} (hj : j < n * Zs.size) : (Builtin.zeroCells Zs n)[j]? = Zs[j % Zs.size]? := by
  unfold Builtin.zeroCells
  have hpos : 0 < Zs.size := by
    rcases Nat.eq_zero_or_pos Zs.size with h | h
    · rw [h] at hj; simp at hj
    · exact h
  have hm : j % Zs.size < Zs.size := Nat.mod_lt _ hpos
  simp [hj, hm]
theorem clear_rel (F : Fits K P) (H : Inv K Z I J ρ h w) {t ty : Nat} {ts : Array Nat} {x : LV} {X : Value} (ht : ts[0]? = some t) (hc : clearV K h t x = some h') (hX : VR K I J w ρ x X) :
    ∃ w', (Builtin.clear_ ts ty #[X]).run P w = .ok (.tuple #[]) w' ∧ Inv K Z I J ρ h' w' ∧ Chg Z I J w w' ∧ Stab h ρ h' ρ ∧ h'.length = h.length := by
  unfold clearV at hc
  split at hc
  · rename_i e s nl ex hk
    cases hc
    cases hX with
    | slnil _ _ _ _ _ => exact ⟨w, by simp [Builtin.clear_, ht, run_underlying (F.slice hk)], H, Chg.refl _ _ _ _, Stab.refl _ _, rfl⟩
    | slemp _ _ _ _ a cap _ _ => exact ⟨w, by simp [Builtin.clear_, ht, run_underlying (F.slice hk)], H, Chg.refl _ _ _ _, Stab.refl _ _, rfl⟩
    | sl _ _ _ _ _ R o cap Vs _ _ _ _ _ _ _ => exact ⟨w, by simp [Builtin.clear_, ht, run_underlying (F.slice hk)], H, Chg.refl _ _ _ _, Stab.refl _ _, rfl⟩
  · rename_i et b s vw hk
    split at hc
    case h_2 => cases hc
    rename_i pu mv es s' e hg
    cases hd : (s == s' && (K.ti et).sz == s && (K.ti et).zok && K.has et) with
    | false => rw [hd] at hc; cases hc
    | true =>
    rw [hd, cond_true] at hc
    simp only [Bool.and_eq_true, beq_iff_eq] at hd
    obtain ⟨⟨⟨rfl, rfl⟩, hz⟩, hh⟩ := hd
    have hx := live_getD hg
    obtain ⟨off, n, hl, hxs, hofs, he⟩ : ∃ off n, off + n ≤ es.length ∧ viewOf es vw = some ((es.drop off).take n) ∧ (∀ off', ((vw = none ∧ off' = 0) ∨ ∃ n, vw = some (off', n)) → n = 0 ∨ off' = off) ∧ h' = h.set b (some (.row pu mv (es.take off ++ List.replicate n (K.ti et).zero ++ es.drop (off + n)) (K.ti et).sz e)) := by
      cases vw with
      | none =>
        cases hc
        exact ⟨0, es.length, by omega, by simp [viewOf], fun off' h => .inr (by rcases h with ⟨_, h⟩ | ⟨_, h⟩; exact h; cases h), by simp⟩
      | some p =>
        obtain ⟨off, n⟩ := p
        simp only at hc
        cases hle : decide (off + n ≤ es.length) with
        | false => rw [hle] at hc; cases hc
        | true =>
          rw [hle] at hc
          cases hc
          exact ⟨off, n, by simpa using hle, by simp only [viewOf, hle, cond_true], fun off' h => .inr (by rcases h with ⟨h, _⟩ | ⟨_, h⟩; cases h; cases h; rfl), rfl⟩
    subst he
    have hnl : ((es.drop off).take n).length = n := by simp; omega
    have nil : n = 0 → ∀ A cap, (Builtin.clear_ ts ty #[.slice A 0 cap]).run P w = .ok (.tuple #[]) w ∧ h.set b (some (.row pu mv (es.take off ++ List.replicate n (K.ti et).zero ++ es.drop (off + n)) (K.ti et).sz e)) = h := by
      intro hn A cap
      subst hn
      refine ⟨by cases A <;> simp [Builtin.clear_, ht, run_underlying (F.slice hk)], ?_⟩
      have : es.take off ++ List.replicate 0 (K.ti et).zero ++ es.drop (off + 0) = es := by simp
      rw [this]
      exact set_same hx
    rcases row_inv2 H hx hxs hX with ⟨A, rfl, hnil⟩ | ⟨R, base, len, off', cap, rfl, hb, h1, h2, h3, h4⟩
    · have hn : n = 0 := by rw [← hnl, hnil]; rfl
      obtain ⟨a, b'⟩ := nil hn A 0
      rw [b']
      exact ⟨w, a, H, Chg.refl _ _ _ _, Stab.refl _ _, rfl⟩
    · have hoff : n = 0 ∨ off' = off := hofs off' h4
      rw [hnl] at h1 h2 ⊢
      rcases Nat.eq_zero_or_pos n with hn | hn
      · obtain ⟨a, b'⟩ := nil hn (some ⟨R, base + off' * (K.ti et).sz, none⟩) cap
        rw [b']
        subst hn
        exact ⟨w, a, H, Chg.refl _ _ _ _, Stab.refl _ _, rfl⟩
      · have hoff : off' = off := by rcases hoff with h | h; omega; exact h
        subst hoff
        obtain ⟨g0, g1, g2, C, g3, g4, g5, g6⟩ := H.rel b R base len _ hb hx
        obtain ⟨Zv, z1, _, z3, z4, _⟩ := zero_rel (I := I) (J := J) (w := w) (ρ := noEnv) F hh hz
        have hzs : (Builtin.zeroCells Zv.cells n).size = n * (K.ti et).sz := by simp [Builtin.zeroCells, z4]
        have hmul : (off' + n) * (K.ti et).sz ≤ es.length * (K.ti et).sz := Nat.mul_le_mul_right _ hl
        rw [Nat.add_mul] at hmul
        have ho := H.own b R base len _ hb hx
        obtain ⟨w', C', h7, M, h8, h9⟩ := run_storeCells (P := P) (o := base + off' * (K.ti et).sz) (Builtin.zeroCells Zv.cells n).toList w 0 C g3 (by simp [hzs]; omega) (fun v hv => by
          obtain ⟨i, hi⟩ := Array.getElem?_of_mem (Array.mem_toList_iff.1 hv)
          exact zero_one z3.2.1 i v hi)
        have hsh := M.shape g3 h8
        have hk' := M.keep (I := I) (J := J) hsh ho.2.1 ho.2.2.1
        have hrel : BlkRel K I J w' ρ R base len (.row pu mv (es.take off' ++ List.replicate n (K.ti et).zero ++ es.drop (off' + n)) (K.ti et).sz e) := by
          have hll : (es.take off' ++ List.replicate n (K.ti et).zero ++ es.drop (off' + n)).length = es.length := by simp; omega
          refine ⟨by rw [hll]; exact g0, g1, fun i el hi => ?_, C', M.here, by rw [hll, h8]; exact g4, fun j V hV => ?_, fun i k el c V hi hck hV => ?_⟩
          · rw [put_get hl] at hi
            split at hi
            · cases hi; rw [z3.1, z4]
            · exact g2 i el hi
          · rw [h9 j] at hV
            split at hV
            · exact zero_one z3.2.1 _ V (by simpa using hV)
            · exact g5 j V hV
          · rw [put_get hl] at hi
            rw [h9] at hV
            have hkl := (List.getElem?_eq_some_iff.1 hck).1
            have hlen : (Builtin.zeroCells Zv.cells n).toList.length = n * (K.ti et).sz := by simpa using hzs
            rw [hlen] at hV
            split at hi
            · rename_i hin
              cases hi
              rw [z3.1, z4] at hkl
              have e1 : i * (K.ti et).sz = off' * (K.ti et).sz + (i - off') * (K.ti et).sz := by rw [← Nat.add_mul]; congr 1; omega
              have e2 := mul_lt_of (show i - off' < n by omega) hkl
              rw [if_pos (by omega), show base + i * (K.ti et).sz + k - (base + off' * (K.ti et).sz + 0) = (i - off') * (K.ti et).sz + k by omega] at hV
              rw [Array.getElem?_toList, zero_get (by rw [z4]; exact e2), z4, Nat.mul_comm, Nat.mul_add_mod, Nat.mod_eq_of_lt hkl] at hV
              have h10 := (z3.2.2 k c V hck hV).same hk'
              cases pu with
              | true => exact h10
              | false => exact VR.up h10 ρ
            · rename_i hnot
              rw [g2 i el hi] at hkl
              have hnot' : ¬ (base + off' * (K.ti et).sz + 0 ≤ base + i * (K.ti et).sz + k ∧ base + i * (K.ti et).sz + k < base + off' * (K.ti et).sz + 0 + n * (K.ti et).sz) := by
                rintro ⟨a1, a2⟩
                rcases Nat.lt_or_ge i off' with h10 | h10
                · have := Nat.mul_le_mul_right (K.ti et).sz h10; rw [Nat.succ_mul] at this; omega
                · have h11 : off' + n ≤ i := by omega
                  have := Nat.mul_le_mul_right (K.ti et).sz h11; rw [Nat.add_mul] at this; omega
              rw [if_neg hnot'] at hV
              exact VR.same (g6 i k el c V hi hck hV) hk'
        obtain ⟨hI, hC⟩ := H.box hb hx M hsh hrel rfl (by simp) rfl
        refine ⟨w', ?_, hI, hC, Stab.set hx rfl (fun h => h), by simp⟩
        unfold Builtin.clear_
        simp only [ht, List.getElem?_toArray, List.getElem?_cons_zero, Sem.run_bind, run_underlying (F.slice hk), Result.andThen_ok]
        cases n with
        | zero => omega
        | succ n =>
          simp only [Sem.run_bind, z1, Result.andThen_ok]
          rw [h7]
          simp
  · cases hc
end
end Go.LH


set_option linter.unusedVariables false
set_option linter.unusedSimpArgs false
namespace Go.LH
section
variable {K : Ctx} {P : Program} {Z : Nat → Prop} {I I' : CellP} {J J' : Nat → Prop} {w w' : World} {ρ ρ' : Env} {h h' : Heap}
def Out (K : Ctx) (Z : Nat → Prop) (I : CellP) (J : Nat → Prop) (ρ : Env) (σ : Fr) (w : World) (a : Act) (σ' : Fr) (a' : Act) (w' : World) : Prop :=
  ∃ I' J' ρ', Step K Z I J ρ σ.h w I' J' ρ' σ'.h w' ∧ TmpsR K I' J' w' ρ' σ'.t a'.tmps ∧ a'.defers = a.defers ∧ σ'.fn = σ.fn
theorem put_tmps {t : List LV} {a : Act} {d : Option Nat} {v : LV} {V : Value} (ht : TmpsR K I J w ρ t a.tmps) (hv : VR K I J w ρ v V) : TmpsR K I J w ρ (putT t d v) (a.put d V).tmps := by
  cases d with
  | none => exact ht
  | some d => exact tmps_set ht hv
theorem put_defers (a : Act) (d : Option Nat) (V : Value) : (a.put d V).defers = a.defers := by cases d <;> rfl
theorem tmps_same {t : List LV} {C : Array Value} (ht : TmpsR K I J w ρ t C) (hk : Keep I J w w') : TmpsR K I J w' ρ t C := ht.mono (fun _ _ h => h) (fun _ h => h) hk (fun _ _ => rfl)
theorem QPost.step (H : Inv K Z I J ρ h w) (hf : ∀ b, h.length ≤ b → ρ b = none) {v : LV} {ob : Option Blk} {V : Value} (q : QPost K I J ρ h h.length w v ob V w') :
    ∃ I' J' ρ', Step K Z I J ρ h w I' J' ρ' (h ++ (ob.map some).toList) w' ∧ VR K I' J' w' ρ' v V ∧ ∀ u U, VR K I J w ρ u U → VR K I' J' w' ρ' u U := by
  obtain ⟨I', J', L, hq⟩ := q
  have hzn : ∀ {R}, w.heap.size ≤ R → ¬ Z R := fun h1 h2 => absurd (H.zlt _ h2) (by omega)
  have hI : ∀ R o, I' R o → I R o ∨ ¬ Z R := fun R o h1 => (L.inew R o h1).imp (fun x => x) (fun x => hzn x.1)
  have hJ : ∀ R, J' R → J R ∨ ¬ Z R := fun R h1 => (L.jnew R h1).imp (fun x => x) (fun x => hzn x.1)
  have H1 := H.lays L
  cases ob with
  | none =>
    refine ⟨I', J', ρ, ⟨by simpa using H1, Chg.of_ext L.ext H.zlt, L.i, L.j, hI, hJ, by simpa using Stab.refl h ρ, by simpa using hf⟩, hq, fun u U hu => hu.lays L⟩
  | some x =>
    obtain ⟨R, len, h1, h2, h3, h4, h5, h6, h7⟩ := hq
    have hid := hf _ (Nat.le_refl _)
    refine ⟨I', J', upd ρ h.length (.at R 0 len), ⟨?_, Chg.of_ext L.ext H.zlt, L.i, L.j, hI, hJ, Stab.append _ (fun b hb => upd_ne (by omega)), fun b hb => ?_⟩, h5, fun u U hu => hu.lay L hid⟩
    · refine H1.new hid live_append_new (fun b' y hne hy => live_append_old hy hne) (fun b' y hy => .inl (live_append hy)) h2 (hzn h1) h3 h4 (fun b' base len y g1 g2 => ?_) h6 (fun m hm M base len hM => .inr (h7 m hm))
      exact absurd (H.own _ _ _ _ _ g1 g2).2.2.2 (by omega)
    · simp at hb
      rw [upd_ne (by omega)]
      exact hf b (by omega)
theorem out_of {σ : Fr} {a : Act} {d : Option Nat} {v : LV} {V : Value} {h' : Heap} {t' : List LV} (s : Step K Z I J ρ σ.h w I' J' ρ' h' w') (ht : TmpsR K I' J' w' ρ' t' a.tmps) (hv : VR K I' J' w' ρ' v V) :
    Out K Z I J ρ σ w a { σ with t := putT t' d v, h := h' } (a.put d V) w' :=
  ⟨I', J', ρ', s, put_tmps ht hv, put_defers a d V, rfl⟩
theorem undef_rel : VR K I J w ρ (.tup []) undef := .tup _ _ _ rfl (fun i v V hv => by simp at hv)
theorem of_all {α : Type} {why : String} {o : Option α} {Q : α → Prop} (h : (ND.of why o).all Q) : ∃ a, o = some a ∧ Q a := by
  cases o with
  | none => exact h.elim
  | some a => exact ⟨a, rfl, h⟩
theorem args2 {c : Call} {e : Operand → LV} {x y : LV} (h : c.args.toList.map e = [x, y]) : ∃ xo yo, c.args.toList = [xo, yo] ∧ e xo = x ∧ e yo = y := by
  cases hl : c.args.toList with
  | nil => rw [hl] at h; cases h
  | cons a l => cases l with
    | nil => rw [hl] at h; simp at h
    | cons b l => cases l with
      | nil => rw [hl] at h; simp at h; exact ⟨a, b, rfl, h.1, h.2⟩
      | cons d l => rw [hl] at h; simp at h
theorem args1 {c : Call} {e : Operand → LV} {x : LV} (h : c.args.toList.map e = [x]) : ∃ xo, c.args.toList = [xo] ∧ e xo = x := by
  cases hl : c.args.toList with
  | nil => rw [hl] at h; cases h
  | cons a l => cases l with
    | nil => rw [hl] at h; simp at h; exact ⟨a, rfl, h⟩
    | cons b l => rw [hl] at h; simp at h
theorem ex_u {s : Sem Unit} (hs : s.run P w = .ok () w') : (do s; pure Next.skip : Sem Next).run P w = .ok .skip w' := by
  simp [hs]
theorem Step.of_same (H : Inv K Z I J ρ h' w') (hc : Chg Z I J w w') (hs : Stab h ρ h' ρ) (hl : h'.length = h.length) (hf : ∀ b, h.length ≤ b → ρ b = none) : Step K Z I J ρ h w I J ρ h' w' :=
  ⟨H, hc, fun _ _ h => h, fun _ h => h, fun _ _ h => .inl h, fun _ h => .inl h, hs, fun b hb => hf b (by rw [← hl]; exact hb)⟩
theorem store_stab {t : Nat} {a x : LV} (hs : storeV K h t a x = some h') (ρ : Env) : Stab h ρ h' ρ ∧ h'.length = h.length := by
  unfold storeV at hs
  split at hs
  · cases hs
  · split at hs
    case isFalse => cases hs
    split at hs
    · split at hs
      · rename_i hg
        obtain ⟨ds, _, rfl⟩ := Option.map_eq_some_iff.1 hs
        exact ⟨Stab.set (live_getD hg) rfl (fun h => h), by simp⟩
      · cases hs
    · split at hs
      · rename_i hg
        split at hs
        case isFalse => cases hs
        obtain ⟨el, _, hs⟩ := Option.bind_eq_some_iff.1 hs
        obtain ⟨ds, _, rfl⟩ := Option.map_eq_some_iff.1 hs
        exact ⟨Stab.set (live_getD hg) rfl (fun h => h), by simp⟩
      · cases hs
    · cases hs
section
variable {cf : CallF} {o : Oper} {σ : Fr} {a : Act} {Qs : Nat × Fr → Prop} {ro : Option Nat} {next : Act → World → Prop} {Qx : Exit → Act → World → Prop}
theorem op_run {r : Result Next} (hnd : ∀ c, o.op ≠ .defer c) (hrun : (execOp a.eval o).run P w = r) (h : o.uponIn (FR ro) 0 P a next Qx r) : o.wpIn (FR ro) 0 P a w next Qx := by
  refine ⟨fun _ _ => trivial, ?_⟩
  rw [Oper.semAt_eq _ a.eval o hnd, hrun]
  exact h
theorem op_sound (F : Fits K P) (hcf : CallOK K P cf) (hq : (opStep K cf o σ).all Qs) (H : St K Z I J ρ σ a.tmps w) (hg : GlobR K I J w)
    (hnext : ∀ c σ' a' w', Qs (c, σ') → Out K Z I J ρ σ w a σ' a' w' → next a' w') : o.wpIn (FR ro) 0 P a w next Qx := by
  have he : ∀ x, VR K I J w ρ (ev K σ.t x) (a.eval x) := fun x => ev_rel hg H.tmps x
  have quiet : ∀ {v : LV} {ob : Option Blk} {c : Nat}, (∀ cc, o.op ≠ .defer cc) → qop K σ.h.length σ.h (ev K σ.t) o.op = some (v, ob) → Qs (c, { σ with t := putT σ.t o.dst v, h := σ.h ++ (ob.map some).toList }) → o.wpIn (FR ro) 0 P a w next Qx := by
    intro v ob c hnd hqo hQ
    obtain ⟨V, w', h1, h2⟩ := qop_rel F H.inv (H.fresh _ (Nat.le_refl _)) he hqo
    obtain ⟨I', J', ρ', s, h3, h4⟩ := h2.step H.inv H.fresh
    refine op_run hnd h1 ?_
    rw [Oper.uponIn_value]
    exact hnext _ _ _ _ hQ (out_of s ⟨H.tmps.1, fun i u U hu hU => h4 u U (H.tmps.2 i u U hu hU)⟩ h3)
  have skip : ∀ {h' : Heap} {w' : World} {c : Nat}, (∀ cc, o.op ≠ .defer cc) → (execOp a.eval o).run P w = .ok .skip w' → Step K Z I J ρ σ.h w I J ρ h' w' → Qs (c, { σ with t := putT σ.t o.dst (.tup []), h := h' }) → o.wpIn (FR ro) 0 P a w next Qx := by
    intro h' w' c hnd hrun s hQ
    refine op_run hnd hrun ?_
    rw [Oper.uponIn_skip]
    exact hnext _ _ _ _ hQ (out_of s (tmps_same H.tmps s.chg.keep) undef_rel)
  unfold opStep at hq
  simp only at hq
  split at hq
  ·
    rename_i t x y hop
    rw [ND.all_map] at hq
    obtain ⟨h', hs, hQ⟩ := of_all hq
    obtain ⟨w', h1, h2, h3⟩ := store_rel F H.inv hs (he x) (he y)
    obtain ⟨h4, h5⟩ := store_stab hs ρ
    exact skip (fun c => by rw [hop]; simp) (by simp only [execOp, hop]; exact ex_u h1) (Step.of_same h2 h3 h4 h5 H.fresh) hQ
  ·
    rename_i t m k x hop
    rw [ND.all_map] at hq
    obtain ⟨h', hs, hQ⟩ := of_all hq
    obtain ⟨w', h1, h2, h3, h4, h5⟩ := update_rel F H.inv hs (he m) (he k) (he x)
    exact skip (fun c => by rw [hop]; simp) (by simp only [execOp, hop]; exact ex_u h1) (Step.of_same h2 h3 h4 h5 H.fresh) hQ
  · rename_i t m k x hop
    rw [ND.all_map] at hq
    obtain ⟨h', hs, hQ⟩ := of_all hq
    obtain ⟨w', h1, h2, h3, h4, h5⟩ := update_rel F H.inv hs (he m) (he k) (he x)
    exact skip (fun c => by rw [hop]; simp) (by simp only [execOp, hop]; exact ex_u h1) (Step.of_same h2 h3 h4 h5 H.fresh) hQ
  ·
    rename_i it hop
    split at hq
    case h_2 => exact hq.elim
    rename_i b hit
    rw [ND.all_map] at hq
    have hit' := he it
    rw [hit] at hit'
    have hnd : ∀ cc, o.op ≠ .defer cc := fun c => by rw [hop]; simp
    unfold nextL at hq
    split at hq
    case h_2 => exact hq.elim
    rename_i mb ks vs last hgb
    have hx := live_getD hgb
    rcases next_rel (P := P) (ty := o.type) H.inv hgb hit' with ⟨rfl, V, h1, h2⟩ | ⟨hne, i, V, w', hi, h1, h2, h3, h4⟩
    · refine op_run hnd (by simp only [execOp, hop]; exact ex_v h1) ?_
      rw [Oper.uponIn_value]
      exact hnext _ _ _ _ hq (out_of (Step.refl H.inv H.fresh) H.tmps h2)
    · have hq' : (ND.pick ks.length fun i => .ok (putT σ.t o.dst (.tup [.bool true, ks.getD i .un, vs.getD i .un]), σ.h.set b (some (.iter mb (ks.eraseIdx i) (vs.eraseIdx i) (some (ks.getD i .un, vs.getD i .un)))))).all (fun x => Qs (2, { σ with t := x.1, h := x.2 })) := by
        cases ks with
        | nil => exact absurd rfl hne
        | cons k ks => exact hq
      refine op_run hnd (by simp only [execOp, hop]; exact ex_v h1) ?_
      rw [Oper.uponIn_value]
      exact hnext _ _ _ _ (hq' i hi) (out_of (Step.of_same h3 h4 (Stab.set hx rfl (fun h => h)) (by simp) H.fresh) (tmps_same H.tmps h4.keep) h2)
  ·
    rename_i t len parts hop
    have hnd : ∀ cc, o.op ≠ .defer cc := fun c => by rw [hop]; simp
    split at hq
    · rename_i v hqo
      cases hr : K.rows σ.fn (o.dst.getD 0) with
      | false =>
        rw [hr] at hq
        exact quiet hnd (by rw [hop]; exact hqo) (by simpa [ND.all] using hq)
      | true =>
        rw [hr, cond_true] at hq
        split at hq
        case h_2 => exact hq.elim
        rename_i pu mv es s ty hrow
        obtain ⟨V, w', h1, _, h2⟩ := buildSlice_rel F H.inv he (H.fresh _ (Nat.le_refl _)) hqo
        obtain ⟨I', J', ρ', s', h3, h4⟩ := (h2 rfl _ hrow).step H.inv H.fresh
        refine op_run hnd (by simp only [execOp, hop]; exact ex_v h1) ?_
        rw [Oper.uponIn_value]
        exact hnext _ _ _ _ hq (out_of s' ⟨H.tmps.1, fun i u U hu hU => h4 u U (H.tmps.2 i u U hu hU)⟩ h3)
    · rename_i v b hqo
      exact quiet hnd (by rw [hop]; exact hqo) (by simpa [ND.all] using hq)
    · exact hq.elim
  ·
    rename_i c hop
    have hnd : ∀ cc, o.op ≠ .defer cc := fun c => by rw [hop]; simp
    have hexec : execOp a.eval o = (do let d ← resolve a.eval c o.type; invoke d.target d.args) := by simp only [execOp, hop]
    split at hq
    ·
      rename_i x y hc hargs
      obtain ⟨xo, yo, hl, rfl, rfl⟩ := args2 hargs
      split at hq
      case h_2 => exact hq.elim
      rename_i t t' ht ht'
      cases hsl : isSliceK (K.ti t').k with
      | false => rw [hsl] at hq; exact hq.elim
      | true =>
        rw [hsl] at hq
        simp only [Bool.not_true, cond_false] at hq
        rw [ND.all_map] at hq
        obtain ⟨⟨v, ob, h'⟩, hap, hQ⟩ := of_all hq
        obtain ⟨et', hk'⟩ : ∃ et', (K.ti t').k = .slice et' := by
          cases hk : (K.ti t').k <;> rw [hk] at hsl <;> first | cases hsl; done | exact ⟨_, rfl⟩
        obtain ⟨V, w', ρ', h1, s, h2, h3⟩ := append_rel (ty := o.type) F H.inv H.fresh ht ht' hk' hap (he xo) (he yo)
        refine op_run hnd (r := .ok (.value V) w') (by rw [hexec]; exact call_value hc (fun consts => by rw [map_list _ _ _ hl]; rfl) h1) ?_
        rw [Oper.uponIn_value]
        refine hnext _ _ _ _ hQ ?_
        cases ob with
        | none => exact out_of s ⟨H.tmps.1, fun i u U hu hU => h3 u U (H.tmps.2 i u U hu hU)⟩ h2
        | some b => exact out_of s (H.tmps.map h3) h2
    ·
      rename_i x hc hargs
      obtain ⟨xo, hl, rfl⟩ := args1 hargs
      split at hq
      case h_2 => exact hq.elim
      rename_i t ht
      rw [ND.all_map] at hq
      obtain ⟨h', hcl, hQ⟩ := of_all hq
      obtain ⟨w', h1, h2, h3, h4, h5⟩ := clear_rel (ty := o.type) F H.inv ht hcl (he xo)
      have s := Step.of_same h2 h3 h4 h5 H.fresh
      refine op_run hnd (r := .ok (.value (.tuple #[])) w') (by rw [hexec]; exact call_value hc (fun consts => by rw [map_list _ _ _ hl]; rfl) h1) ?_
      rw [Oper.uponIn_value]
      exact hnext _ _ _ _ hQ (out_of s (tmps_same H.tmps s.chg.keep) undef_rel)
    ·
      rename_i f hc
      have hsem : execOp a.eval o = callSem (a.eval f) (c.args.map a.eval) := by
        rw [hexec]
        simp only [resolve, hc, callSem]
      have hA : TmpsR K I J w ρ (c.args.toList.map (ev K σ.t)) (c.args.map a.eval) := list_rel he c.args
      cases hi : (isoOf K (ev K σ.t f) == 0) with
      | true =>
        rw [hi, cond_true, ND.all_map] at hq
        unfold callShared at hq
        rw [ND.all_bind] at hq
        obtain ⟨nx, h1, _, h2⟩ := hcf _ _ _ _ hq Z I J ρ w _ _ H.inv.calm (fun b hb => H.fresh b (by simpa [calm] using hb)) hg (he f) hA
        refine op_run hnd (by rw [hsem]; exact h1) (upon_enter h2 (fun e w' hR => ?_))
        obtain ⟨V, v, h', I', J', ρ', rfl, hQ, s, hv⟩ := hR
        refine ⟨V, rfl, hnext _ _ _ _ hQ ?_⟩
        exact out_of (s.orMv) (H.tmps.map (fun u U hu => dropMoved_rel s H.fresh hu)) hv
      | false =>
        rw [hi, cond_false, ND.all_map] at hq
        obtain ⟨nx, h1, h2⟩ := iso_rel hcf hq (HLe.refl σ.h) H.inv hg (he f) hA
        refine op_run hnd (by rw [hsem]; exact h1) (upon_enter h2 (fun e w' hR => ?_))
        obtain ⟨V, v', I', J', rfl, hQ, L, hv⟩ := hR
        refine ⟨V, rfl, hnext _ _ _ _ hQ ?_⟩
        have q : QPost K I J ρ σ.h σ.h.length w v' none V w' := ⟨I', J', L, hv.up ρ⟩
        obtain ⟨I'', J'', ρ'', s, h3, h4⟩ := q.step H.inv H.fresh
        have := out_of (σ := σ) (d := o.dst) s ⟨H.tmps.1, fun i u U hu hU => h4 u U (H.tmps.2 i u U hu hU)⟩ h3
        simpa using this
    · split at hq
      · rename_i v hqo
        exact quiet hnd hqo (by simpa [ND.all] using hq)
      · exact hq.elim
  ·
    rename_i op hn1 hn2 hn3 hn4 hn5 hn6
    have hnd : ∀ cc, o.op ≠ .defer cc := by
      intro cc hd
      rw [hd] at hq
      simp [qop] at hq
      exact hq
    split at hq
    · rename_i v hqo
      exact quiet hnd hqo (by simpa [ND.all] using hq)
    · rename_i v b hqo
      exact quiet hnd hqo (by simpa [ND.all] using hq)
    · exact hq.elim
theorem run_sound (F : Fits K P) (hcf : CallOK K P cf) (hq : (runOp K cf o σ).all Qs) (H : St K Z I J ρ σ a.tmps w) (hg : GlobR K I J w)
    (hnext : ∀ c σ' a' w', Qs (c, σ') → Out K Z I J ρ σ w a σ' a' w' → next a' w') : o.wpIn (FR ro) 0 P a w next Qx := by
  unfold runOp at hq
  split at hq
  · exact op_sound F hcf hq H hg hnext
  · rename_i hrs
    rw [ND.all_map] at hq
    obtain ⟨I', J', s, t, hfn⟩ := freezeAll_step (preFrz K o σ) H
    refine op_sound F hcf hq ⟨s.inv, t, s.fresh⟩ (s.glob hg) (fun c σ' a' w' hQ hO => ?_)
    obtain ⟨I'', J'', ρ'', s2, t2, d2, f2⟩ := hO
    exact hnext _ _ _ _ hQ ⟨I'', J'', ρ'', s.trans s2, t2, d2, f2.trans hfn⟩
end
end
end Go.LH


set_option linter.unusedVariables false
set_option linter.unusedSimpArgs false
namespace Go.LH
section
variable {K : Ctx} {P : Program} {Z : Nat → Prop} {I I' : CellP} {J J' : Nat → Prop} {w w' : World} {ρ ρ' : Env} {h h' : Heap}
theorem Out.refl {σ : Fr} {a : Act} (H : St K Z I J ρ σ a.tmps w) : Out K Z I J ρ σ w a σ a w := ⟨I, J, ρ, Step.refl H.inv H.fresh, H.tmps, rfl, rfl⟩
theorem yielded_rel {ops : Array Oper} {t : List LV} {C : Array Value} {j : Nat} {r : Option Bool} (ht : TmpsR K I J w ρ t C) (hy : yieldedL ops t j = some r) : yielded ops C j = r := by
  unfold yieldedL at hy
  unfold yielded
  cases hd : (ops[j]?).bind (·.dst) with
  | none => rw [hd] at hy; simp at hy; subst hy; rfl
  | some d =>
    rw [hd] at hy
    simp only [Option.bind_some] at hy ⊢
    cases hv : t[d]? with
    | none =>
      rw [hv] at hy
      simp at hy
      subst hy
      have : C[d]? = none := by
        rw [Array.getElem?_eq_none]
        have := List.getElem?_eq_none_iff.1 hv
        rw [← ht.1]; exact this
      rw [this]
    | some v =>
      have hl := (List.getElem?_eq_some_iff.1 hv).1
      have hl' : d < C.size := by rw [← ht.1]; exact hl
      have hr := ht.2 d v C[d] hv (by simp [hl'])
      rw [Array.getElem?_eq_getElem hl']
      rw [hv] at hy
      generalize C[d] = V at hr
      cases hr <;> simp at hy <;> subst hy <;> rfl
theorem wanted_rel {o : Oper} {ops : Array Oper} {t : List LV} {C : Array Value} {b : Bool} (ht : TmpsR K I J w ρ t C) (hw : wantedL o ops t = some b) : Region.wanted o (yielded ops C) = b := by
  unfold wantedL at hw
  unfold Region.wanted
  split at hw
  · rename_i hg; cases hw; simp [hg]
  · rename_i j c hg
    obtain ⟨r, hr, rfl⟩ := Option.map_eq_some_iff.1 hw
    simp only [hg]
    rw [yielded_rel ht hr]
theorem ops_sound {cf : CallF} {ro : Option Nat} {ops : Array Oper} {Q : Exit → Act → World → Prop} (F : Fits K P) (hcf : CallOK K P cf) :
    ∀ (l : List Oper) {σ : Fr} {Qs : List Nat × Fr → Prop} {I : CellP} {J : Nat → Prop} {ρ : Env} {w : World} {a : Act}, (runOps K cf ops l σ).all Qs → St K Z I J ρ σ a.tmps w → GlobR K I J w →
      (∀ cs σ' a' w', Qs (cs, σ') → Out K Z I J ρ σ w a σ' a' w' → Q .normal a' w') → wpListIn (FR ro) 0 P ops Q l a w
  | [], σ, Qs, I, J, ρ, w, a, hq, H, hg, hnext => hnext _ _ _ _ hq (Out.refl H)
  | o :: l, σ, Qs, I, J, ρ, w, a, hq, H, hg, hnext => by
    simp only [runOps] at hq
    split at hq
    case h_2 => exact hq.elim
    rename_i wt hw
    have hw' := wanted_rel H.tmps hw
    simp only [wpListIn, hw']
    cases wt with
    | true =>
      simp only [cond_true] at hq
      rw [ND.all_bind] at hq
      simp only [if_true]
      refine run_sound F hcf hq H hg (fun c σ' a' w' hQ hO => ?_)
      simp only at hQ
      rw [ND.all_map] at hQ
      obtain ⟨I', J', ρ', s, t, d, f⟩ := hO
      refine ops_sound F hcf l hQ ⟨s.inv, t, s.fresh⟩ (s.glob hg) (fun cs σ'' a'' w'' hQ' hO' => ?_)
      obtain ⟨I'', J'', ρ'', s', t', d', f'⟩ := hO'
      exact hnext _ _ _ _ hQ' ⟨I'', J'', ρ'', s.trans s', t', d'.trans d, f'.trans f⟩
    | false =>
      simp only [cond_false] at hq
      rw [ND.all_map] at hq
      simp only [Bool.false_eq_true, if_false]
      refine ⟨fun _ _ => trivial, ?_⟩
      refine ops_sound (σ := { σ with t := putT σ.t o.dst (.tup []) }) F hcf l hq ⟨H.inv, put_tmps H.tmps undef_rel, H.fresh⟩ hg (fun cs σ'' a'' w'' hQ' hO' => ?_)
      obtain ⟨I'', J'', ρ'', s', t', d', f'⟩ := hO'
      exact hnext _ _ _ _ hQ' ⟨I'', J'', ρ'', s', t', d'.trans (put_defers _ _ _), f'⟩
def ZP (Z : Nat → Prop) (rs : List Nat) : Nat → Prop := fun R => Z R ∨ R ∈ rs
def mkD (r : Nat) : Deferred := { target := .collected r, args := #[] }
def ExR : Ex → Exit → Prop
  | .normal, .normal => True
  | .exit i, .exit j => i = j
  | .ret, .ret => True
  | _, _ => False
def XOut (K : Ctx) (Z : Nat → Prop) (I : CellP) (J : Nat → Prop) (ρ : Env) (σ : Fr) (w : World) (a : Act) (σ' : Fr) (a' : Act) (w' : World) : Prop :=
  ∃ rs I' J' ρ', Step K Z I J ρ σ.h w I' J' ρ' σ'.h w' ∧ Inv K (ZP Z rs) I' J' ρ' σ'.h w' ∧ TmpsR K I' J' w' ρ' σ'.t a'.tmps ∧ a'.defers = rs.map mkD ++ a.defers ∧ rs.Nodup ∧
    (∀ r ∈ rs, w.heap.size ≤ r ∧ w'.heap[r]? = some (.deferred (some [])) ∧ (∀ o, ¬ I' r o) ∧ ¬ J' r) ∧ σ'.fn = σ.fn
theorem ZP_nil (Z : Nat → Prop) : ZP Z [] = Z := by funext R; simp [ZP]
theorem ZP_app (Z : Nat → Prop) (a b : List Nat) : ZP (ZP Z a) b = ZP Z (b ++ a) := by
  funext R
  simp only [ZP, List.mem_append, eq_iff_iff]
  exact ⟨fun h => by rcases h with (h | h) | h; exact .inl h; exact .inr (.inr h); exact .inr (.inl h), fun h => by rcases h with h | h | h; exact .inl (.inl h); exact .inr h; exact .inl (.inr h)⟩
theorem Out.x {σ σ' : Fr} {a a' : Act} (h : Out K Z I J ρ σ w a σ' a' w') : XOut K Z I J ρ σ w a σ' a' w' := by
  obtain ⟨I', J', ρ', s, t, d, f⟩ := h
  exact ⟨[], I', J', ρ', s, by rw [ZP_nil]; exact s.inv, t, d, List.nodup_nil, fun r h => by simp at h, f⟩
theorem Inv.lessZ {Z' : Nat → Prop} (H : Inv K Z' I J ρ h w) (hz : ∀ R, Z R → Z' R) : Inv K Z I J ρ h w :=
  ⟨H.rel, fun b R base len x hb hx => let o := H.own b R base len x hb hx; ⟨fun h => o.1 (hz R h), o.2⟩, H.inj, H.virt, fun R h => H.zlt R (hz R h), H.ilt, H.jlt, H.iters⟩
theorem Step.lessZ {Z' : Nat → Prop} (s : Step K Z' I J ρ h w I' J' ρ' h' w') (hz : ∀ R, Z R → Z' R) : Step K Z I J ρ h w I' J' ρ' h' w' :=
  ⟨s.inv.lessZ hz, ⟨s.chg.keep, fun R h => s.chg.z R (hz R h), s.chg.size, s.chg.io⟩, s.i, s.j, fun R o h => (s.inew R o h).imp (fun x => x) (fun h' h'' => h' (hz R h'')), fun R h => (s.jnew R h).imp (fun x => x) (fun h' h'' => h' (hz R h'')), s.stab, s.fresh⟩
theorem XOut.cat {σ σ' σ'' : Fr} {a a' a'' : Act} {w'' : World} {rs : List Nat} (s : Step K Z I J ρ σ.h w I' J' ρ' σ'.h w') (d : a'.defers = rs.map mkD ++ a.defers) (nd : rs.Nodup)
    (hr : ∀ r ∈ rs, w.heap.size ≤ r ∧ w'.heap[r]? = some (.deferred (some [])) ∧ (∀ o, ¬ I' r o) ∧ ¬ J' r) (f : σ'.fn = σ.fn) (h : XOut K (ZP Z rs) I' J' ρ' σ' w' a' σ'' a'' w'') : XOut K Z I J ρ σ w a σ'' a'' w'' := by
  obtain ⟨rs', I'', J'', ρ'', s', hi', t', d', nd', hr', f'⟩ := h
  refine ⟨rs' ++ rs, I'', J'', ρ'', s.trans (s'.lessZ (fun R h => .inl h)), by rw [← ZP_app]; exact hi', t', by rw [d', d]; simp, ?_, ?_, f'.trans f⟩
  · rw [List.nodup_append]
    refine ⟨nd', nd, fun x hx y hy e => ?_⟩
    subst e
    have h1 := (hr' x hx).1
    have h2 := some_lt (hr x hy).2.1
    omega
  · intro r hrm
    rcases List.mem_append.1 hrm with h1 | h1
    · obtain ⟨a1, a2, a3, a4⟩ := hr' r h1
      exact ⟨Nat.le_trans s.chg.size a1, a2, a3, a4⟩
    · obtain ⟨a1, a2, a3, a4⟩ := hr r h1
      refine ⟨a1, (s'.chg.z r (.inr h1)).trans a2, fun o ho => ?_, fun hj => ?_⟩
      · rcases s'.inew r o ho with h2 | h2
        · exact a3 o h2
        · exact h2 (.inr h1)
      · rcases s'.jnew r hj with h2 | h2
        · exact a4 h2
        · exact h2 (.inr h1)
def RoR (ro roL : Option Nat) (ρ : Env) (h : Heap) : Prop :=
  match ro, roL with
  | none, none => True
  | some lb, some L => lb < h.length ∧ (isLoop (h.getD lb none) = true → ∃ base len, ρ lb = some (.at L base len))
  | _, _ => False
theorem RoR.step {ro roL : Option Nat} (hr : RoR ro roL ρ h) (s : Stab h ρ h' ρ') : RoR ro roL ρ' h' := by
  unfold RoR at hr ⊢
  cases ro <;> cases roL <;> first | exact hr | skip
  rename_i lb L
  obtain ⟨hl, hr⟩ := hr
  refine ⟨Nat.lt_of_lt_of_le hl s.len, fun hlo => ?_⟩
  obtain ⟨base, len, hb⟩ := hr ((s.le lb hl).loop hlo)
  rcases s.env lb hl with h1 | h1 | ⟨h1, _⟩
  · exact ⟨base, len, h1.trans hb⟩
  · cases hx : h'.getD lb none with
    | none => rw [hx] at hlo; cases hlo
    | some x => rw [hx] at hlo h1; cases x <;> first | cases hlo; done | cases h1
  · rw [h1] at hlo; cases hlo
theorem trunc_step {σ : Fr} {n : Nat} {a : Act} {h₀ : Heap} {ρ₀ : Env} {w₀ : World} {I₀ : CellP} {J₀ : Nat → Prop} {Z₀ : Nat → Prop} (hn : h₀.length ≤ n) (H : St K Z I J ρ σ a.tmps w) (s : Step K Z₀ I₀ J₀ ρ₀ h₀ w₀ I J ρ σ.h w) :
    ∃ ρ', St K Z I J ρ' (trunc n σ) a.tmps w ∧ Step K Z₀ I₀ J₀ ρ₀ h₀ w₀ I J ρ' (trunc n σ).h w ∧ (trunc n σ).fn = σ.fn := by
  unfold trunc
  cases hc : (heapRefs (σ.h.take n)).all (fun b => decide (b < n)) with
  | false => exact ⟨ρ, H, s, rfl⟩
  | true =>
    simp only [cond_true]
    have hrefs : ∀ b x, live (σ.h.take n) b x → ∀ c ∈ x.refs, c < n := by
      intro b x hx c hcx
      rw [List.all_eq_true] at hc
      have : c ∈ heapRefs (σ.h.take n) := by
        unfold heapRefs
        rw [List.mem_flatMap]
        exact ⟨some x, List.mem_of_getElem? hx, hcx⟩
      simpa using hc c this
    have hlt : ∀ {b x}, live (σ.h.take n) b x → b < n ∧ live σ.h b x := by
      intro b x hx
      unfold live at hx ⊢
      rw [List.getElem?_take] at hx
      split at hx
      · exact ⟨by assumption, hx⟩
      · cases hx
    have hρ : ∀ {b l}, (if b < n then ρ b else none) = some l → b < n ∧ ρ b = some l := by
      intro b l hb
      split at hb
      · exact ⟨by assumption, hb⟩
      · cases hb
    have hinv : ∀ {Z : Nat → Prop}, Inv K Z I J ρ σ.h w → Inv K Z I J (fun b => if b < n then ρ b else none) (σ.h.take n) w := by
      intro Z H
      refine ⟨fun b R base len x hb hx => ?_, fun b R base len x hb hx => H.own b R base len x (hρ hb).2 (hlt hx).2, fun b1 b2 R a1 l1 a2 l2 x y h1 h2 h3 h4 => H.inj b1 b2 R a1 l1 a2 l2 x y (hρ h1).2 (hρ h2).2 (hlt h3).2 (hlt h4).2, fun b x hb hx => H.virt b x (hρ hb).2 (hlt hx).2, H.zlt, H.ilt, H.jlt,
        fun i Ri bi li m ks vs last R base len h1 h2 h3 => ?_⟩
      · refine (H.rel b R base len x (hρ hb).2 (hlt hx).2).mono (fun _ _ h => h) (fun _ h => h) (Keep.refl _ _ _) rfl (fun _ _ _ _ _ _ => rfl) (fun c hcx => ?_)
        have := hrefs b x hx c hcx
        simp [this]
      · obtain ⟨hm, h3⟩ := hρ h3
        rcases H.iters i Ri bi li m ks vs last R base len (hρ h1).2 (hlt h2).2 h3 with h4 | ⟨p, k, c, d, h4⟩
        · exact .inl h4
        · refine .inr ⟨p, k, c, d, ?_⟩
          unfold live at h4 ⊢
          rw [List.getElem?_take, if_pos hm]; exact h4
    have hclip : ∀ v V, VR K I J w ρ v V → VR K I J w (fun b => if b < n then ρ b else none) (v.clip n) V := by
      intro v V hv
      unfold LV.clip
      cases hl : v.lim n with
      | false => exact .un _ _
      | true =>
        refine hv.mono (fun _ _ h => h) (fun _ h => h) (Keep.refl _ _ _) (fun b hb => ?_)
        unfold LV.lim at hl
        rw [List.all_eq_true] at hl
        have : b < n := by simpa using hl b hb
        simp [this]
    have hfr : ∀ b, (σ.h.take n).length ≤ b → (if b < n then ρ b else none) = none := by
      intro b hb
      split
      · refine H.fresh b ?_
        simp only [List.length_take] at hb
        omega
      · rfl
    refine ⟨fun b => if b < n then ρ b else none, ⟨hinv H.inv, H.tmps.map hclip, hfr⟩, ⟨hinv s.inv, s.chg, s.i, s.j, s.inew, s.jnew, ⟨?_, fun b hb => ?_, fun b hb => ?_⟩, hfr⟩, trivial⟩
    · have := s.stab.len
      simp only [List.length_take]
      omega
    · have h1 := s.stab.le b hb
      have : (σ.h.take n).getD b none = σ.h.getD b none := by simp [List.getD_eq_getElem?_getD, List.getElem?_take, show b < n by omega]
      rw [this]; exact h1
    · have h1 := s.stab.env b hb
      have : (σ.h.take n).getD b none = σ.h.getD b none := by simp [List.getD_eq_getElem?_getD, List.getElem?_take, show b < n by omega]
      rw [this]
      simpa [show b < n by omega] using h1
end
end Go.LH


set_option linter.unusedVariables false
set_option linter.unusedSimpArgs false
namespace Go.LH
section
variable {K : Ctx} {P : Program} {Z : Nat → Prop} {I I' : CellP} {J J' : Nat → Prop} {w w' : World} {ρ ρ' : Env} {h h' : Heap}
theorem Inv.kill (H : Inv K Z I J ρ h w) (b : Nat) (hm : ∀ pu kt ks vs, ¬ live h b (.map pu kt ks vs)) : Inv K Z I J ρ (h.set b none) w := by
  refine ⟨fun b' R base len x hb hx => H.rel b' R base len x hb (live_kill hx).2, fun b' R base len x hb hx => H.own b' R base len x hb (live_kill hx).2, fun b1 b2 R a c d e x y h1 h2 h3 h4 => H.inj b1 b2 R a c d e x y h1 h2 (live_kill h3).2 (live_kill h4).2,
    fun b' x hb hx => H.virt b' x hb (live_kill hx).2, H.zlt, H.ilt, H.jlt, fun i Ri bi li m ks vs last R base len h1 h2 h3 => ?_⟩
  rcases H.iters i Ri bi li m ks vs last R base len h1 (live_kill h2).2 h3 with h4 | ⟨p, k, a, c, h4⟩
  · exact .inl h4
  · refine .inr ⟨p, k, a, c, (live_set_ne ?_).2 h4⟩
    rintro rfl
    exact hm _ _ _ _ h4
theorem Inv.out (H : Inv K Z I J ρ h w) {R : Nat} {x y : Obj} (M : Mut w w' R x) (hy : w.heap[R]? = some y) (hyc : ∀ C e f, y ≠ .cells C e f) (hi : ∀ o, ¬ I R o) (hj : ¬ J R) (ho : ∀ b base len z, ρ b = some (.at R base len) → ¬ live h b z) : Inv K Z I J ρ h w' := by
  have hk := M.keep (M.shapeObj hy hyc) hi hj
  refine ⟨fun b R' base len z hb hz => ?_, fun b R' base len z hb hz => by rw [M.size]; exact H.own b R' base len z hb hz, H.inj, H.virt, fun R h => by rw [M.size]; exact H.zlt R h, fun R o h => by rw [M.size]; exact H.ilt R o h, fun R h => by rw [M.size]; exact H.jlt R h, H.iters⟩
  have hne : R' ≠ R := fun e => ho b base len z (e ▸ hb) hz
  refine (H.rel b R' base len z hb hz).mono (fun _ _ h => h) (fun _ h => h) hk (M.other R' hne) (fun c hc M' base' len' hM => M.other M' ?_) (fun _ _ => rfl)
  rintro rfl
  cases z with
  | iter mb ks vs last =>
    simp only [Blk.iterOf] at hc
    subst hc
    rcases H.iters b R' base len c ks vs last M' base' len' hb hz hM with h1 | ⟨p, k, a, d, h1⟩
    · exact hj h1
    · exact ho c base' len' _ hM h1
  | _ => simp [Blk.iterOf] at hc
theorem Inv.moreZ {rs : List Nat} (H : Inv K Z I J ρ h w) (hlt : ∀ r ∈ rs, r < w.heap.size) (ho : ∀ r ∈ rs, ∀ b base len x, ρ b = some (.at r base len) → ¬ live h b x) : Inv K (ZP Z rs) I J ρ h w := by
  refine ⟨H.rel, fun b R base len x hb hx => ⟨fun hz => ?_, (H.own b R base len x hb hx).2⟩, H.inj, H.virt, fun R hz => ?_, H.ilt, H.jlt, H.iters⟩
  · rcases hz with hz | hz
    · exact (H.own b R base len x hb hx).1 hz
    · exact ho R hz b base len x hb hx
  · rcases hz with hz | hz
    · exact H.zlt R hz
    · exact hlt R hz
theorem loop_step {σ : Fr} {a : Act} {ps : Array Tmp} {asg body : Code} {fn : FuncId} {rs : List Nat} {w₁ : World} {l df : Nat} (H : St K Z I J ρ σ a.tmps w) (hext : Ext w w₁) (hl : w.heap.size ≤ l)
    (hobj : w₁.heap[l]? = some (.loop { state := .ready, pending := none, fn, tmps := a.tmps, params := ps, assign := asg, body, defers := df })) (hrs : ∀ r ∈ rs, w.heap.size ≤ r ∧ r < w₁.heap.size ∧ r ≠ l) :
    Step K Z I J ρ σ.h w I J (upd ρ σ.h.length (.at l 0 0)) (σ.h ++ [some (.loop σ.fn (keptT K σ.fn ps.toList σ.t) ps.toList asg body .ready .normal)]) w₁ ∧
    Inv K (ZP Z rs) I J (upd ρ σ.h.length (.at l 0 0)) (σ.h ++ [some (.loop σ.fn (keptT K σ.fn ps.toList σ.t) ps.toList asg body .ready .normal)]) w₁ ∧ TmpsR K I J w₁ (upd ρ σ.h.length (.at l 0 0)) σ.t a.tmps := by
  have L := Lays.of_ext I J hext
  have hid := H.fresh _ (Nat.le_refl _)
  have ht : TmpsR K I J w₁ (upd ρ σ.h.length (.at l 0 0)) σ.t a.tmps := ⟨H.tmps.1, fun i v V hv hV => (H.tmps.2 i v V hv hV).lay L hid⟩
  have ht' : TmpsR K I J w₁ (upd ρ σ.h.length (.at l 0 0)) (keptT K σ.fn ps.toList σ.t) a.tmps := ⟨by rw [← H.tmps.1]; exact keepM_len _ _, fun i v V hv hV => by
    rcases keepM_rel _ hv with rfl | e
    · exact .un _ _
    · exact ht.2 i v V e hV⟩
  have H1 := H.inv.lays L
  have own0 : ∀ b R base len x, ρ b = some (.at R base len) → live σ.h b x → R < w.heap.size := fun b R base len x h1 h2 => (H.inv.own b R base len x h1 h2).2.2.2
  have H2 : Inv K (ZP Z rs) I J ρ σ.h w₁ := H1.moreZ (fun r hr => (hrs r hr).2.1) (fun r hr b base len x h1 h2 => by
    have := own0 b r base len x h1 h2
    have := (hrs r hr).1
    omega)
  have H3 : Inv K (ZP Z rs) I J (upd ρ σ.h.length (.at l 0 0)) (σ.h ++ [some (.loop σ.fn (keptT K σ.fn ps.toList σ.t) ps.toList asg body .ready .normal)]) w₁ := by
    refine H2.new hid live_append_new (fun b' y hne hy => live_append_old hy hne) (fun b' y hy => .inl (live_append hy)) (some_lt hobj) (fun hz => ?_) (fun o hi => absurd (H.inv.ilt l o hi) (by omega)) (fun hj => absurd (H.inv.jlt l hj) (by omega)) (fun b' base len y h1 h2 => ?_)
      ⟨_, hobj, rfl, by simp, rfl, rfl, rfl, rfl, ht'⟩ (fun m hm => by cases hm)
    · rcases hz with hz | hz
      · exact absurd (H.inv.zlt l hz) (by omega)
      · exact (hrs l hz).2.2 rfl
    · have := own0 b' l base len y h1 h2
      omega
  refine ⟨⟨H3.lessZ (fun R h => .inl h), Chg.of_ext hext H.inv.zlt, fun _ _ h => h, fun _ h => h, fun _ _ h => .inl h, fun _ h => .inl h, Stab.append _ (fun b hb => upd_ne (by omega)), fun b hb => ?_⟩, H3, ht⟩
  simp at hb
  rw [upd_ne (by omega)]
  exact H.fresh b (by omega)
theorem range_sound {cf : CallF} (F : Fits K P) (hcf : CallOK K P cf) {n : Nat} {ro roL : Option Nat} {f : Operand} {ps : Array Tmp} {asg body : Code} {σ : Fr} {Qs : Ex × Fr → Prop} {a : Act} {Q : Exit → Act → World → Prop}
    (hq : (exec K n ro cf (.rangeFunc f ps asg body) σ).all Qs) (H : St K Z I J ρ σ a.tmps w) (hg : GlobR K I J w) (hro : RoR ro roL ρ σ.h)
    (hnext : ∀ ex e σ' a' w', Qs (ex, σ') → ExR ex e → XOut K Z I J ρ σ w a σ' a' w' → Q e a' w') : (Code.rangeFunc f ps asg body).wpIn (FR roL) 0 P Q a w := by
  simp only [exec] at hq
  cases hc : (roOk ro σ.h && isFnV (ev K σ.t f)) with
  | false => rw [hc] at hq; exact hq.elim
  | true =>
  rw [hc, cond_true, ND.all_bind] at hq
  simp only [Bool.and_eq_true] at hc
  obtain ⟨hrok, hfn⟩ := hc
  unfold callShared at hq
  rw [ND.all_bind] at hq
  have hcall := hcf _ _ _ _ hq
  refine wpIn_rangeFunc (fun fn _ => ?_)
  have henter : ∃ (l : Nat) (rs : List Nat) (w₁ : World) (df : Nat), (Instr.enterLoop fn a.tmps ps asg body (FR roL).round).run P w = .ok (l, rs.map mkD) w₁ ∧ Ext w w₁ ∧ w.heap.size ≤ l ∧
      w₁.heap[l]? = some (.loop { state := .ready, pending := none, fn, tmps := a.tmps, params := ps, assign := asg, body, defers := df }) ∧ (∀ r ∈ rs, w.heap.size ≤ r ∧ r < w₁.heap.size ∧ r ≠ l ∧ w₁.heap[r]? = some (.deferred (some []))) ∧ rs.Nodup := by
    cases hrL : roL with
    | none =>
      refine ⟨w.heap.size + 1, [w.heap.size], (w.alloc (.deferred (some []))).alloc (.loop { state := .ready, pending := none, fn, tmps := a.tmps, params := ps, assign := asg, body, defers := w.heap.size }), w.heap.size, ?_, ?_, by omega, ?_, ?_, by simp⟩
      · simp [Instr.enterLoop, FR, mkD, Sem.run_bind]
      · exact (ext_alloc _ _).trans (ext_alloc _ _)
      · rw [show w.heap.size + 1 = (w.alloc (.deferred (some []))).heap.size by rw [alloc_size]]
        exact alloc_at _ _
      · intro r hr
        simp only [List.mem_singleton] at hr
        subst hr
        refine ⟨Nat.le_refl _, by rw [alloc_size, alloc_size]; omega, by omega, ?_⟩
        rw [(ext_alloc _ _).old _ (by rw [alloc_size]; omega)]
        exact alloc_at _ _
    | some L =>
      subst hrL
      unfold RoR at hro
      cases ro with
      | none => exact hro.elim
      | some lb =>
        obtain ⟨hlb, hro⟩ := hro
        simp only [roOk] at hrok
        split at hrok
        · rename_i f' t' ps' asg' body' st' pend' hlp
          obtain ⟨base, len, hb⟩ := hro (by rw [hlp]; rfl)
          obtain ⟨r, hr, _⟩ := H.inv.rel lb L base len _ hb (live_getD hlp)
          refine ⟨w.heap.size, [], w.alloc (.loop { state := .ready, pending := none, fn, tmps := a.tmps, params := ps, assign := asg, body, defers := r.defers }), r.defers, ?_, ext_alloc _ _, Nat.le_refl _, alloc_at _ _, fun r hr => by simp at hr, List.nodup_nil⟩
          simp [Instr.enterLoop, FR, Sem.run_bind, run_getLoop hr]
        · cases hrok
  obtain ⟨l, rs, w₁, df, hrun, hext, hll, hobj, hrs, hnd⟩ := henter
  obtain ⟨s1, hz1, ht1⟩ := loop_step (ps := ps) (asg := asg) (body := body) (rs := rs) H hext hll hobj (fun r hr => ⟨(hrs r hr).1, (hrs r hr).2.1, (hrs r hr).2.2.1⟩)
  have hg1 := s1.glob hg
  have hself : upd ρ σ.h.length (.at l 0 0) σ.h.length = some (.at l 0 0) := upd_same _ _ _
  have hF := (ev_rel hg H.tmps f).lay (Lays.of_ext I J hext) (l := .at l 0 0) (H.fresh _ (Nat.le_refl _))
  obtain ⟨nx, hsem, hnx, hent⟩ := hcall (ZP Z rs) I J (upd ρ σ.h.length (.at l 0 0)) w₁ (a.eval f) #[.func (.yield l) #[] #[]] hz1.calm (fun b hb => s1.fresh b (by simpa [calm] using hb)) hg1 hF
    ⟨rfl, fun i v V hv hV => by
      cases i with
      | zero =>
        simp at hv hV
        subst hv
        subst hV
        exact .fn _ _ _ _ _ _ _ (.yield _ l 0 0 hself) rfl rfl (fun i v V h => by simp at h) (fun i v V h => by simp at h)
      | succ i => simp at hv⟩
  obtain ⟨g, as, rfl⟩ := hnx hfn
  unfold callSem at hsem
  rw [Sem.run_bind] at hsem
  cases hd : (Deferred.ofValue (a.eval f) #[.func (.yield l) #[] #[]]).run P w₁ with
  | halt x y => rw [hd] at hsem; cases hsem
  | ok d wd =>
  rw [hd, Result.andThen_ok] at hsem
  have hwd : wd = w₁ := by
    unfold Deferred.ofValue at hd
    split at hd
    · cases hd; rfl
    · cases hd; rfl
    · cases hd
  subst hwd
  refine ⟨l, rs.map mkD, wd, d, wd, g, as, wd, hrun, ?_, fun f' _ => trivial, hsem, fun h => (by cases h), ?_⟩
  · simp only [resolve, rangeCall]
    rw [show (#[Operand.const (.func (.yield l) #[] #[])] : Array Operand).map a.eval = #[.func (.yield l) #[] #[]] by simp [Act.eval]]
    exact hd
  have hent' : CallsIn Fence.wide 0 P g as wd _ := hent
  refine CallsIn.mono (F := FR roL) (n := 0) hent' (fun e w' hR => ?_)
  obtain ⟨V, v, h', I', J', ρ', rfl, hQ, s2, hv⟩ := hR
  simp only [ND.all] at hQ
  have s2' := s2.orMv
  have hlb : σ.h.length < (σ.h ++ [some (Blk.loop σ.fn (keptT K σ.fn ps.toList σ.t) ps.toList asg body .ready .normal)]).length := by simp
  split at hQ
  · exact hQ.elim
  · exact hQ.elim
  · rename_i fn' t' ps' asg' body' st pend hnb hnp hgl
    have hlive := live_getD hgl
    have hρ : ρ' σ.h.length = some (.at l 0 0) := by
      rcases s2'.stab.env σ.h.length hlb with h1 | h1 | ⟨h1, _⟩
      · exact h1.trans hself
      · rw [hgl] at h1; cases h1
      · rw [hgl] at h1; cases h1
    obtain ⟨r, hr, _, _, _, _, hst, hpd, _⟩ := s2'.inv.rel σ.h.length l 0 0 _ hρ hlive
    have ho := s2'.inv.own σ.h.length l 0 0 _ hρ hlive
    obtain ⟨w₄, hset, M⟩ := run_setObj (P := P) (y := .loop { r with state := .exhausted }) hr (by simp)
    have hend : (Instr.endLoop l).run P w' = .ok (pendC pend) w₄ := by
      unfold Instr.endLoop
      simp only [Sem.run_bind, run_getLoop hr, Result.andThen_ok]
      have hsb : (r.state == .busy) = false := by
        rw [hst]
        cases st <;> first | rfl | skip
        exact (hnb rfl).elim
      simp only [hsb, Bool.false_eq_true, if_false, Sem.run_bind, Sem.run_pure, Result.andThen_ok, hset]
      rw [hpd]
    have hsh := M.shapeObj hr (by simp)
    have hinv4 : Inv K (ZP Z rs) I' J' ρ' ((orMv (σ.h ++ [some (Blk.loop σ.fn (keptT K σ.fn ps.toList σ.t) ps.toList asg body .ready .normal)]) h').set σ.h.length none) w₄ := by
      refine (s2'.inv.kill σ.h.length (fun pu kt ks vs hm => by have := live_uniq hlive hm; cases this)).out M hr (by simp) ho.2.1 ho.2.2.1 (fun b base len z h1 h2 => ?_)
      obtain ⟨hne, h2⟩ := live_kill h2
      exact hne (s2'.inv.inj b σ.h.length l base len 0 0 z _ h1 hρ h2 hlive)
    have s3 : Step K (ZP Z rs) I' J' ρ' (orMv (σ.h ++ [some (Blk.loop σ.fn (keptT K σ.fn ps.toList σ.t) ps.toList asg body .ready .normal)]) h') w' I' J' ρ' ((orMv (σ.h ++ [some (Blk.loop σ.fn (keptT K σ.fn ps.toList σ.t) ps.toList asg body .ready .normal)]) h').set σ.h.length none) w₄ :=
      ⟨hinv4, M.chg hsh ho.1 ho.2.1 ho.2.2.1, fun _ _ h => h, fun _ h => h, fun _ _ h => .inl h, fun _ h => .inl h, Stab.kill _, fun b hb => s2'.fresh b (by simpa using hb)⟩
    have s23 := s2'.trans s3
    have hx : XOut K Z I J ρ σ w a { σ with t := σ.t.map (dropMoved (σ.h ++ [some (Blk.loop σ.fn (keptT K σ.fn ps.toList σ.t) ps.toList asg body .ready .normal)]) h'), h := (orMv (σ.h ++ [some (Blk.loop σ.fn (keptT K σ.fn ps.toList σ.t) ps.toList asg body .ready .normal)]) h').set σ.h.length none } { a with defers := rs.map mkD ++ a.defers } w₄ := by
      refine ⟨rs, I', J', ρ', s1.trans (s23.lessZ (fun R h => .inl h)), hinv4, tmps_same (ht1.map (fun u U hu => dropMoved_rel s2 s1.fresh hu)) s3.chg.keep, rfl, hnd, fun r' hr' => ?_, rfl⟩
      obtain ⟨b1, b2, b3, b4⟩ := hrs r' hr'
      refine ⟨b1, (s23.chg.z r' (.inr hr')).trans b4, fun o hi => ?_, fun hj => ?_⟩
      · rcases s23.inew r' o hi with h1 | h1
        · exact absurd (H.inv.ilt r' o h1) (by omega)
        · exact h1 (.inr hr')
      · rcases s23.jnew r' hj with h1 | h1
        · exact absurd (H.inv.jlt r' h1) (by omega)
        · exact h1 (.inr hr')
    refine ⟨pendC pend, w₄, hend, ?_⟩
    cases pend with
    | normal => exact hnext .normal .normal _ _ _ hQ trivial hx
    | exit id => exact wpIn_exit (hnext (.exit id) (.exit id) _ _ _ hQ rfl hx)
    | ret => exact wpIn_ret (hnext .ret .ret _ _ _ hQ trivial hx)
    | panic v => exact (hnp v rfl).elim
  · exact hQ.elim
end
end Go.LH


set_option linter.unusedVariables false
set_option linter.unusedSimpArgs false
namespace Go.LH
section
variable {K : Ctx} {P : Program} {Z : Nat → Prop} {I I' : CellP} {J J' : Nat → Prop} {w w' : World} {ρ ρ' : Env} {h h' : Heap}
def DrawOK (K : Ctx) (P : Program) (cf : CallF) : Prop :=
  ∀ (id : Nat) (ops : Array Oper) (σ : Fr) (cs : List Nat) (σ' : Fr), runOps K cf ops ops.toList σ = .ok (cs, σ') → drawOk ops cs = true →
    ∀ (Z : Nat → Prop) (I : CellP) (J : Nat → Prop) (ρ : Env) (w : World) (a : Act) (roL : Option Nat) (Q : Exit → Act → World → Prop), St K Z I J ρ σ a.tmps w → GlobR K I J w →
      (∀ a' w', Out K Z I J ρ σ w a σ' a' w' → Q .normal a' w') → (Code.region id ops true).wpIn (FR roL) 0 P Q a w
theorem XOut.ghosts {σ σ' : Fr} {a a' : Act} (g : List Gh) (h : Out K Z I J ρ σ w a σ' a' w') : Out K Z I J ρ σ w a (ghosts σ' g) a' w' := by
  obtain ⟨I', J', ρ', s, t, d, f⟩ := h
  obtain ⟨I'', J'', ρ'', s', t', f'⟩ := ghosts_step g (σ := σ') (C := a'.tmps) ⟨s.inv, t, s.fresh⟩
  exact ⟨I'', J'', ρ'', s.trans s', t', d, f'.trans f⟩
theorem XOut.stab {σ σ' : Fr} {a a' : Act} (h : XOut K Z I J ρ σ w a σ' a' w') : ∃ ρ', Stab σ.h ρ σ'.h ρ' := by
  obtain ⟨rs, I', J', ρ', s, _⟩ := h
  exact ⟨ρ', s.stab⟩
theorem wpIn_scope {F : Fence} {n : Nat} {c : Code} {Q : Exit → Act → World → Prop} {a : Act} {w : World} (h : c.wpIn F n P Q a w) (hng : ∀ l a w, ¬ Q (.goto l) a w) : (Code.scope c).wpIn F n P Q a w := by
  intro b k cs hro hb hr
  have h0 : (lone (b.atR a (.code (.scope c) :: k)) cs w).fenced P F := fenced_calm hb hr rfl
  have hs : step P (lone (b.atR a (.code (.scope c) :: k)) cs w) = .next (lone (b.atR a (.code c :: .inScope c :: k)) cs w) := step_lone_go (by simp [stepG, stepG.exec, Frame.atR])
  obtain ⟨e, a₁, w₁, hq, harr⟩ := h b (.inScope c :: k) cs hro hb hr
  cases e with
  | normal =>
    have hs' : step P (lone (b.atR a₁ (.inScope c :: k)) cs w₁) = .next (lone (b.atR a₁ k) cs w₁) := step_lone_go (by simp [stepG, stepG.exec, Frame.atR])
    exact ⟨.normal, a₁, w₁, hq, .head h0 hs (StepsIn.trans harr (.one (fenced_calm hb hr rfl) hs'))⟩
  | exit id =>
    have hx : exitTo id (.inScope c :: k) = exitTo id k := by simp [exitTo]
    exact ⟨.exit id, a₁, w₁, hq, fun k' hk => .head h0 hs (harr.1 k' (by rw [hx]; exact hk)), fun hr' hk => let ⟨k₁, h1, h2⟩ := harr.2 hr' (by rw [hx]; exact hk); ⟨k₁, h1, .head h0 hs h2⟩⟩
  | goto l => exact absurd hq (hng l a₁ w₁)
  | ret => exact ⟨_, a₁, w₁, hq, .of_steps (.one h0 hs) harr⟩
  | panic ch => exact ⟨_, a₁, w₁, hq, .of_steps (.one h0 hs) harr⟩
  | outgrown => exact ⟨_, a₁, w₁, hq, .of_steps (.one h0 hs) harr⟩
theorem exec_sound {n : Nat} {cf : CallF} (F : Fits K P) (hcf : CallOK K P cf) (hdr : DrawOK K P cf) {ro roL : Option Nat} :
    ∀ (c : Code) {σ : Fr} {Qs : Ex × Fr → Prop} {Z : Nat → Prop} {I : CellP} {J : Nat → Prop} {ρ : Env} {w : World} {a : Act} {Q : Exit → Act → World → Prop}, (exec K n ro cf c σ).all Qs → St K Z I J ρ σ a.tmps w → GlobR K I J w → RoR ro roL ρ σ.h →
      (∀ ex e σ' a' w', Qs (ex, σ') → ExR ex e → XOut K Z I J ρ σ w a σ' a' w' → Q e a' w') → c.wpIn (FR roL) 0 P Q a w
  | .skip, σ, Qs, Z, I, J, ρ, w, a, Q, hq, H, hg, hro, hnext => wpIn_skip (hnext .normal .normal _ _ _ hq trivial (Out.refl H).x)
  | .label l, σ, Qs, Z, I, J, ρ, w, a, Q, hq, H, hg, hro, hnext => wpIn_label (hnext .normal .normal _ _ _ hq trivial (Out.refl H).x)
  | .exit id, σ, Qs, Z, I, J, ρ, w, a, Q, hq, H, hg, hro, hnext => wpIn_exit (hnext (.exit id) (.exit id) _ _ _ hq rfl (Out.refl H).x)
  | .ret, σ, Qs, Z, I, J, ρ, w, a, Q, hq, H, hg, hro, hnext => wpIn_ret (hnext .ret .ret _ _ _ hq trivial (Out.refl H).x)
  | .region id ops false, σ, Qs, Z, I, J, ρ, w, a, Q, hq, H, hg, hro, hnext => by
    simp only [exec] at hq
    rw [ND.all_bind] at hq
    refine wpIn_region_list (ops_sound F hcf ops.toList hq H hg (fun cs σ' a' w' hQ hO => ?_))
    exact hnext .normal .normal _ _ _ hQ trivial (XOut.ghosts _ hO).x
  | .region id ops true, σ, Qs, Z, I, J, ρ, w, a, Q, hq, H, hg, hro, hnext => by
    simp only [exec] at hq
    split at hq
    · rename_i cs σ' hrun
      cases hd : drawOk ops cs with
      | false => rw [hd] at hq; exact hq.elim
      | true =>
        rw [hd] at hq
        exact hdr id ops σ cs σ' hrun hd Z I J ρ w a roL Q H hg (fun a' w' hO => hnext .normal .normal _ _ _ hq trivial (XOut.ghosts _ hO).x)
    · exact hq.elim
    · exact hq.elim
  | .seq x y, σ, Qs, Z, I, J, ρ, w, a, Q, hq, H, hg, hro, hnext => by
    simp only [exec] at hq
    rw [ND.all_bind] at hq
    refine wpIn_seq (exec_sound F hcf hdr x hq H hg hro (fun ex e σ' a' w' hQ hE hX => ?_))
    cases ex with
    | normal =>
      cases e <;> first | exact hE.elim | skip
      simp only [Exit.then]
      obtain ⟨rs, I', J', ρ', s, hi, t, d, nd, hr, f⟩ := hX
      refine exec_sound F hcf hdr y hQ ⟨hi, t, s.fresh⟩ (s.glob hg) (hro.step s.stab) (fun ex' e' σ'' a'' w'' hQ' hE' hX' => hnext ex' e' _ _ _ hQ' hE' ?_)
      exact XOut.cat s d nd hr f hX'
    | exit id => cases e <;> first | exact hE.elim | exact hnext _ _ _ _ _ hQ hE hX
    | ret => cases e <;> first | exact hE.elim | exact hnext _ _ _ _ _ hQ hE hX
    | panic v => cases e <;> exact hE.elim
  | .cond c x y, σ, Qs, Z, I, J, ρ, w, a, Q, hq, H, hg, hro, hnext => by
    simp only [exec] at hq
    have hc := ev_rel hg H.tmps c
    split at hq
    case h_2 => exact hq.elim
    rename_i t ht
    rw [ht] at hc
    generalize hV : a.eval c = V at hc
    cases hc
    refine wpIn_cond hV ?_
    cases t with
    | true => exact exec_sound F hcf hdr x hq H hg hro hnext
    | false => exact exec_sound F hcf hdr y hq H hg hro hnext
  | .block id c, σ, Qs, Z, I, J, ρ, w, a, Q, hq, H, hg, hro, hnext => by
    simp only [exec] at hq
    rw [ND.all_bind] at hq
    refine wpIn_block (exec_sound F hcf hdr c hq H hg hro (fun ex e σ' a' w' hQ hE hX => ?_))
    cases ex with
    | normal => cases e <;> first | exact hE.elim | exact hnext _ _ _ _ _ hQ hE hX
    | exit id' =>
      cases e <;> first | exact hE.elim | skip
      rename_i j
      have hj : id' = j := hE
      subst hj
      simp only [Exit.inBlock]
      simp only at hQ
      cases hid : (id' == id) with
      | true =>
        rw [hid] at hQ
        simp only [beq_iff_eq] at hid
        rw [if_pos hid]
        exact hnext .normal .normal _ _ _ hQ trivial hX
      | false =>
        rw [hid] at hQ
        have : ¬ id' = id := by simpa using hid
        rw [if_neg this]
        exact hnext (.exit id') (.exit id') _ _ _ hQ rfl hX
    | ret => cases e <;> first | exact hE.elim | exact hnext _ _ _ _ _ hQ hE hX
    | panic v => cases e <;> exact hE.elim
  | .loop c, σ, Qs, Z, I, J, ρ, w, a, Q, hq, H, hg, hro, hnext => by
    simp only [exec] at hq
    have key : ∀ (m : Nat) {σ₁ : Fr} {a₁ : Act} {w₁ : World}, (iterL σ.h.length m (exec K n ro cf c) σ₁).all Qs → XOut K Z I J ρ σ w a σ₁ a₁ w₁ → Code.roundsIn (FR roL) 0 P c Q m a₁ w₁ := by
      intro m
      induction m with
      | zero => intro σ₁ a₁ w₁ hq hX; exact hq.elim
      | succ m ih =>
        intro σ₁ a₁ w₁ hq hX
        simp only [iterL] at hq
        rw [ND.all_bind] at hq
        obtain ⟨rs, I', J', ρ', s, hi, t, d, nd, hr, f⟩ := hX
        rw [roundsIn_succ]
        refine exec_sound F hcf hdr c hq ⟨hi, t, s.fresh⟩ (s.glob hg) (hro.step s.stab) (fun ex e σ' a' w' hQ hE hX' => ?_)
        have hXX : XOut K Z I J ρ σ w a σ' a' w' := XOut.cat s d nd hr f hX'
        cases ex with
        | normal =>
          cases e <;> first | exact hE.elim | skip
          simp only [Exit.then]
          refine ih hQ ?_
          obtain ⟨rs', I'', J'', ρ'', s', hi', t', d', nd', hr', f'⟩ := hXX
          obtain ⟨ρ₃, H₃, s₃, f₃⟩ := trunc_step (n := σ.h.length) (Nat.le_refl _) ⟨hi', t', s'.fresh⟩ s'
          exact ⟨rs', I'', J'', ρ₃, s₃, H₃.inv, H₃.tmps, d', nd', hr', f₃.trans f'⟩
        | exit id => cases e <;> first | exact hE.elim | exact hnext _ _ _ _ _ hQ hE hXX
        | ret => cases e <;> first | exact hE.elim | exact hnext _ _ _ _ _ hQ hE hXX
        | panic v => cases e <;> exact hE.elim
    exact wpIn_loop_rounds n (key n hq (Out.refl H).x)
  | .scope c, σ, Qs, Z, I, J, ρ, w, a, Q, hq, H, hg, hro, hnext => by
    simp only [exec] at hq
    refine wpIn_mono (Q := fun e a w => (∀ l, e ≠ .goto l) ∧ Q e a w) (wpIn_scope ?_ (fun l a w h => h.1 l rfl)) (fun e a w h => h.2)
    exact exec_sound F hcf hdr c hq H hg hro (fun ex e σ' a' w' hQ hE hX => ⟨fun l hl => by subst hl; cases ex <;> exact hE.elim, hnext ex e σ' a' w' hQ hE hX⟩)
  | .rangeFunc f ps asg body, σ, Qs, Z, I, J, ρ, w, a, Q, hq, H, hg, hro, hnext => range_sound F hcf hq H hg hro hnext
  | .goto l, σ, Qs, Z, I, J, ρ, w, a, Q, hq, H, hg, hro, hnext => by
    simp only [exec] at hq
    exact hq.elim
end
end Go.LH


set_option linter.unusedVariables false
set_option linter.unusedSimpArgs false
namespace Go.LH
def NamesOK (K : Ctx) : Prop := ∀ f fn, K.fb f = some fn → (fn.name == "runtime.NumGoroutine") = false
section
variable {K : Ctx} {P : Program} {Z : Nat → Prop} {I I' : CellP} {J J' : Nat → Prop} {w w' : World} {ρ ρ' : Env} {h h' : Heap}
theorem tmps_app {s t : List LV} {C D : Array Value} (hs : TmpsR K I J w ρ s C) (ht : TmpsR K I J w ρ t D) : TmpsR K I J w ρ (s ++ t) (C ++ D) := by
  refine ⟨by simp [hs.1, ht.1], fun i v V hv hV => ?_⟩
  rw [List.getElem?_append] at hv
  rw [Array.getElem?_append] at hV
  rw [hs.1] at hv
  split at hv
  · rename_i hl; rw [if_pos hl] at hV; exact hs.2 i v V hv hV
  · rename_i hl; rw [if_neg hl] at hV; exact ht.2 _ v V hv hV
theorem tmps_undef (n : Nat) : TmpsR K I J w ρ (List.replicate n (.tup [])) (Array.replicate n undef) := by
  refine ⟨by simp, fun i v V hv hV => ?_⟩
  rw [List.getElem?_replicate] at hv
  split at hv
  · cases hv
    rw [Array.getElem?_replicate] at hV
    split at hV <;> first | (cases hV; done) | (cases hV; exact undef_rel)
  · cases hv
theorem load_addr {t : Nat} {A V : Value} (h : (Instr.loadAt t A).run P w = .ok V w) : ∃ a, A = .pointer (some a) ∧ (loadVar t a).run P w = .ok V w := by
  cases A with
  | pointer o =>
    cases o with
    | some a => exact ⟨a, rfl, by simpa [Instr.loadAt, Instr.sureAddr] using h⟩
    | none => simp [Instr.loadAt, Instr.sureAddr, stuck, Sem.run] at h
  | _ => simp [Instr.loadAt, Instr.sureAddr, stuck, Sem.run] at h
theorem get_rel {t : List LV} {C : Array Value} (ht : TmpsR K I J w ρ t C) (i : Nat) : VR K I J w ρ (t.getD i .un) (C.getD i undef) := by
  rcases Nat.lt_or_ge i t.length with hi | hi
  · have hi' : i < C.size := by rw [← ht.1]; exact hi
    have := ht.2 i _ _ (List.getElem?_eq_getElem hi) (Array.getElem?_eq_getElem hi')
    simpa [hi, hi'] using this
  · rw [List.getD_eq_getElem?_getD, List.getElem?_eq_none hi]; exact .un _ _
def resSem (C : Array Value) : ResultVar → Sem Value
  | .tmp t => pure (C.getD t undef)
  | .cell a t => do loadVar t (← asAddr (C.getD a undef))
theorem result_rel (F : Fits K P) {σ : Fr} (H : Inv K Z I J ρ σ.h w) {C : Array Value} (ht : TmpsR K I J w ρ σ.t C) {r : ResultVar} {v : LV} (hv : resultOf K σ r = some v) :
    ∃ V, (resSem C r).run P w = .ok V w ∧ VR K I J w ρ v V := by
  cases r with
  | tmp t => cases hv; exact ⟨_, by simp [resSem], get_rel ht t⟩
  | cell a t =>
    simp only [resultOf] at hv
    obtain ⟨V, h1, h2⟩ := load_rel F H hv (get_rel ht a)
    obtain ⟨ad, h3, h4⟩ := load_addr h1
    refine ⟨V, ?_, h2⟩
    simp only [resSem, h3]
    simpa [asAddr] using h4
theorem resultsL_rel (F : Fits K P) {σ : Fr} (H : Inv K Z I J ρ σ.h w) {C : Array Value} (ht : TmpsR K I J w ρ σ.t C) :
    ∀ (rs : List ResultVar) {vs : List LV}, rs.mapM (resultOf K σ) = some vs → ∃ Vs : List Value, (rs.mapM (resSem C)).run P w = .ok Vs w ∧ vs.length = Vs.length ∧ ∀ (i : Nat) (v : LV) (V : Value), vs[i]? = some v → Vs[i]? = some V → VR K I J w ρ v V
  | [], vs, h => by simp at h; subst h; exact ⟨[], by simp, rfl, fun i v V h => by simp at h⟩
  | r :: rs, vs, h => by
    rw [List.mapM_cons] at h
    cases hr : resultOf K σ r with
    | none => rw [hr] at h; cases h
    | some v =>
      rw [hr] at h
      cases hrs : rs.mapM (resultOf K σ) with
      | none => rw [hrs] at h; cases h
      | some us =>
        rw [hrs] at h
        cases h
        obtain ⟨V, h1, h2⟩ := result_rel F H ht hr
        obtain ⟨Vs, h3, h4, h5⟩ := resultsL_rel F H ht rs hrs
        refine ⟨V :: Vs, by rw [List.mapM_cons]; simp [Sem.run_bind, h1, h3], by simp [h4], fun i u U hu hU => ?_⟩
        cases i with
        | zero => simp at hu hU; subst hu; subst hU; exact h2
        | succ i => exact h5 i u U (by simpa using hu) (by simpa using hU)
theorem results_rel (F : Fits K P) {σ : Fr} {fn : Func} (H : Inv K Z I J ρ σ.h w) {C : Array Value} (ht : TmpsR K I J w ρ σ.t C) {v : LV} (hv : resultsOf K fn σ = some v) :
    ∃ V, (results fn C).run P w = .ok V w ∧ VR K I J w ρ v V := by
  unfold resultsOf at hv
  obtain ⟨vs, hvs, rfl⟩ := Option.map_eq_some_iff.1 hv
  obtain ⟨Vs, h1, h2, h3⟩ := resultsL_rel F H ht fn.results.toList hvs
  have hrun : (results fn C).run P w = .ok (if h : Vs.toArray.size = 1 then Vs.toArray[0] else .tuple Vs.toArray) w := by
    have e : results fn C = (do let vs ← fn.results.mapM (resSem C); pure (if h : vs.size = 1 then vs[0] else .tuple vs) : Sem Value) := by
      unfold results
      congr 1
    rw [e, Sem.run_bind, Array.mapM_eq_mapM_toList]
    simp [h1]
  refine ⟨_, hrun, ?_⟩
  by_cases hs : Vs.toArray.size = 1
  · obtain ⟨U, rfl⟩ : ∃ U, Vs = [U] := List.length_eq_one_iff.1 (by simpa using hs)
    obtain ⟨u, rfl⟩ : ∃ u, vs = [u] := List.length_eq_one_iff.1 (by simpa using h2)
    simpa [packR] using h3 0 u U (by simp) (by simp)
  · rw [dif_neg hs]
    have hne : ∀ u, vs ≠ [u] := fun u e => by subst e; simp at hs h2; omega
    have heq : packR vs = .tup vs := by
      cases vs with
      | nil => rfl
      | cons u l => cases l with
        | nil => exact absurd rfl (hne u)
        | cons u' l => rfl
    rw [heq]
    exact .tup _ _ _ (by simpa using h2) (fun i u U hu hU => h3 i u U hu (by simpa using hU))
theorem leaves_rel (F : Fits K P) {fn : Func} {σ : Fr} {v : LV} {h₀ : Heap} {w₀ : World} {ρ₀ : Env} {I₀ : CellP} {J₀ : Nat → Prop} {C : Array Value} {R : Ending → World → Prop} (hv : resultsOf K fn σ = some v) (hz0 : ∀ R, Z R → R < w₀.heap.size) :
    ∀ (rs : List Nat) {w : World}, Step K Z I₀ J₀ ρ₀ h₀ w₀ I J ρ σ.h w → Inv K (ZP Z rs) I J ρ σ.h w → TmpsR K I J w ρ σ.t C → rs.Nodup → (∀ r ∈ rs, w₀.heap.size ≤ r ∧ w.heap[r]? = some (.deferred (some [])) ∧ (∀ o, ¬ I r o) ∧ ¬ J r) →
      (∀ V w', Step K Z I₀ J₀ ρ₀ h₀ w₀ I J ρ σ.h w' → VR K I J w' ρ v V → R (.returned V) w') → LeavesInM Fence.wide 0 P fn C R (rs.map mkD) .returning w
  | [], w, s, hi, ht, hnd, hr, hR => by
    obtain ⟨V, h1, h2⟩ := results_rel (P := P) F s.inv ht hv
    exact ⟨V, h1, hR V w s h2⟩
  | r :: rs, w, s, hi, ht, hnd, hr, hR => by
    obtain ⟨h1, h2, h3, h4⟩ := hr r (by simp)
    obtain ⟨w', h5, M⟩ := run_setObj (P := P) (y := .deferred none) h2 (by simp)
    have hsh := M.shapeObj h2 (by simp)
    rw [List.nodup_cons] at hnd
    have hno : ∀ b base len z, ρ b = some (.at r base len) → ¬ live σ.h b z := fun b base len z g1 g2 => (hi.own b r base len z g1 g2).1 (.inr (by simp))
    have hc : Chg Z I J w w' := M.chg hsh (fun hz => absurd (hz0 r hz) (by omega)) h3 h4
    have hi' : Inv K (ZP Z rs) I J ρ σ.h w' := (hi.out M h2 (by simp) h3 h4 hno).lessZ (fun R hz => hz.imp (fun x => x) (fun x => by simp [x]))
    have s' : Step K Z I₀ J₀ ρ₀ h₀ w₀ I J ρ σ.h w' := ⟨hi'.lessZ (fun R hz => .inl hz), s.chg.trans hc s.i s.j, s.i, s.j, s.inew, s.jnew, s.stab, s.fresh⟩
    refine ⟨by simp, .inl ⟨r, w', rfl, ?_, leaves_rel F hv hz0 rs s' hi' (tmps_same ht hc.keep) hnd.2 (fun r' hr' => ?_) hR⟩⟩
    · have o1 : (getObj r).run P w = .ok (.deferred (some [])) w := by simp [getObj, Sem.run, h2]
      simp [Instr.takeDeferred, Sem.run_bind, o1, h5]
    · obtain ⟨a1, a2, a3, a4⟩ := hr r' (by simp [hr'])
      exact ⟨a1, (M.other r' (fun e => hnd.1 (e ▸ hr'))).trans a2, a3, a4⟩
theorem foldl_rel : ∀ (l : List (Nat × LV)) (L : List (Nat × Value)) {t : List LV} {C : Array Value}, l.length = L.length → (∀ (i : Nat) (x : Nat × LV) (X : Nat × Value), l[i]? = some x → L[i]? = some X → x.1 = X.1 ∧ VR K I J w ρ x.2 X.2) → TmpsR K I J w ρ t C →
    TmpsR K I J w ρ (l.foldl (fun t (p, a) => t.set p a) t) (L.foldl (fun C (p, a) => C.setIfInBounds p a) C)
  | [], [], t, C, hl, hr, ht => ht
  | [], X :: L, t, C, hl, hr, ht => by simp at hl
  | x :: l, [], t, C, hl, hr, ht => by simp at hl
  | x :: l, X :: L, t, C, hl, hr, ht => by
    obtain ⟨h1, h2⟩ := hr 0 x X (by simp) (by simp)
    simp only [List.foldl_cons]
    refine foldl_rel l L (by simpa using hl) (fun i y Y hy hY => hr (i + 1) y Y (by simpa using hy) (by simpa using hY)) ?_
    rw [h1]
    exact tmps_set ht h2
theorem ExR.cases {ex : Ex} {e : Exit} (h : ExR ex e) : (ex = .normal ∧ e = .normal) ∨ (∃ i, ex = .exit i ∧ e = .exit i) ∨ (ex = .ret ∧ e = .ret) := by
  cases ex <;> cases e <;> first | exact h.elim | skip
  · exact .inl ⟨rfl, rfl⟩
  · exact .inr (.inl ⟨_, rfl, by rw [show _ = _ from h]⟩)
  · exact .inr (.inr ⟨rfl, rfl⟩)
theorem callN_sound (F : Fits K P) (hnm : NamesOK K) (hdr : ∀ cf, CallOK K P cf → DrawOK K P cf) : ∀ n, CallOK K P (callN K n)
  | 0 => fun f args h Q hq => hq.elim
  | n + 1 => by
    have ih := callN_sound F hnm hdr n
    intro f args h Q hq Z I J ρ w FV AV H hfr hg hF hA
    simp only [callN] at hq
    split at hq
    ·
      rename_i fid first caps
      split at hq
      case h_2 => exact hq.elim
      rename_i fn hfb
      split at hq
      case h_2 => exact hq.elim
      rename_i c hbody
      rw [ND.all_bind] at hq
      have hfn := F.fb fid fn hfb
      have hname := hnm fid fn hfb
      cases hF with
      | fn _ _ f' _ _ A B hff h1 h2 h3 h4 =>
      cases hff
      refine ⟨.enter fid (A ++ AV ++ B), ?_, fun _ => ⟨_, _, rfl⟩, ?_⟩
      · have hname' : ¬ fn.name = "runtime.NumGoroutine" := by simpa using hname
        simp [callSem, Deferred.ofValue, invoke, callFunc, Sem.run_bind, hfn, hname', hbody]
      have hT : TmpsR K I J w ρ (first ++ args ++ caps) (A ++ AV ++ B) := tmps_app (tmps_app ⟨h1, h3⟩ hA) ⟨h2, h4⟩
      refine callsIn_of_wp_marks hfn hbody trivial ?_
      have hT2 := tmps_app hT (tmps_undef (K := K) (I := I) (J := J) (w := w) (ρ := ρ) (fn.ntmps - (A ++ AV ++ B).size))
      rw [← hT.1] at hT2 ⊢
      refine exec_sound (roL := none) F ih (hdr _ ih) c hq ⟨H, hT2, hfr⟩ hg trivial (fun ex e σ' a' w' hQ hE hX => ?_)
      have fin : (ND.of fn.name (resultsOf K fn σ')).all (fun v => Q (v, σ'.h)) → LeavesInM Fence.wide 0 P fn a'.tmps (fun e w' => ∃ V v h' I' J' ρ', e = .returned V ∧ Q (v, h') ∧ Step K Z I J ρ h w I' J' ρ' h' w' ∧ VR K I' J' w' ρ' v V) a'.defers .returning w' := by
        intro hr
        obtain ⟨v, hv, hQv⟩ := of_all hr
        obtain ⟨rs, I', J', ρ', s, hi, t, d, nd, hrs, _⟩ := hX
        rw [d]
        simp only [List.append_nil]
        exact leaves_rel F hv H.zlt rs s hi t nd hrs (fun V w'' s'' hV => ⟨V, v, σ'.h, I', J', ρ', rfl, hQv, s'', hV⟩)
      rcases hE.cases with ⟨rfl, rfl⟩ | ⟨i, rfl, rfl⟩ | ⟨rfl, rfl⟩
      · simp only [ND.all_map] at hQ; exact fin hQ
      · exact hQ.elim
      · simp only [ND.all_map] at hQ; exact fin hQ
    ·
      rename_i lb
      split at hq
      case h_2 => exact hq.elim
      rename_i fn t ps asg body hlb
      cases hlen : (args.length == ps.length) with
      | false => rw [hlen] at hq; exact hq.elim
      | true =>
      rw [hlen, cond_true, ND.all_bind] at hq
      simp only [beq_iff_eq] at hlen
      have hlive := live_getD hlb
      cases hF with
      | fn _ _ f' _ _ A B hff h1 h2 h3 h4 =>
      cases hff with
      | yield _ L base len hb =>
      have hA0 : A = #[] := Array.eq_empty_of_size_eq_zero (by simpa using h1.symm)
      subst hA0
      obtain ⟨r, hr, _, hps, hasg, hbody, hst, hpd, htm⟩ := H.rel lb L base len _ hb hlive
      subst hasg
      subst hbody
      refine ⟨.round L r.fn ((r.params.zip AV).foldl (fun tmps (t, a) => tmps.setIfInBounds t a) r.tmps) r.assign r.body, ?_, fun h => (by cases h), ?_⟩
      · have hsz : AV.size = r.params.size := by rw [← hA.1, hlen, hps]; simp
        simp [callSem, Deferred.ofValue, invoke, Instr.yield, Sem.run_bind, run_getLoop hr, hsz]
      have hT0 : TmpsR K I J w ρ ((ps.zip args).foldl (fun t (p, a) => t.set p a) t) ((r.params.zip AV).foldl (fun tmps (t, a) => tmps.setIfInBounds t a) r.tmps) := by
        rw [← Array.foldl_toList, Array.toList_zip]
        refine foldl_rel _ _ (by simp [hps, hA.1]) (fun i x X hx hX => ?_) htm
        rw [hps] at hX
        obtain ⟨p, v⟩ := x
        obtain ⟨q, V⟩ := X
        rw [List.getElem?_zip_eq_some] at hx hX
        simp only at hx hX
        have hpq : p = q := by
          have := hx.1.symm.trans hX.1
          cases this; rfl
        exact ⟨hpq, hA.2 i v V hx.2 (by simpa using hX.2)⟩
      show RoundIn Fence.wide 0 P L r.fn _ r.assign r.body w _
      refine roundIn_of_wpIn trivial ?_
      have hro : RoR (some lb) (some L) ρ h := ⟨live_lt hlive, fun _ => ⟨base, len, hb⟩⟩
      refine exec_sound (ro := some lb) (roL := some L) F ih (hdr _ ih) r.assign hq ⟨H, hT0, hfr⟩ hg hro (fun ex e σ₁ a₁ w₁ hQ hE hX => ?_)
      obtain ⟨rs, I', J', ρ', s, hi, ht, hd, hnd, hrs, hf⟩ := hX
      rcases hE.cases with ⟨rfl, rfl⟩ | ⟨i, rfl, rfl⟩ | ⟨rfl, rfl⟩
      case inr.inl => exact hQ.elim
      case inr.inr => exact hQ.elim
      simp only [Exit.then]
      simp only at hQ
      split at hQ
      case h_2 => exact hQ.elim
      rename_i fn' t' ps' asg' body' hgl
      rw [ND.all_bind] at hQ
      have hlive1 := live_getD hgl
      have hro1 := hro.step s.stab
      obtain ⟨base', len', hb'⟩ := hro1.2 (by rw [hgl]; rfl)
      obtain ⟨r', hr', _, hps', hasg', hbody', hst', hpd', htm'⟩ := s.inv.rel lb L base' len' _ hb' hlive1
      obtain ⟨w₂, hset, M⟩ := run_setObj (P := P) (y := .loop { r' with state := .busy }) hr' (by simp)
      have hsh := M.shapeObj hr' (by simp)
      have ho := hi.own lb L base' len' _ hb' hlive1
      have hk := M.keep (I := I') (J := J') hsh ho.2.1 ho.2.2.1
      have hrel2 : BlkRel K I' J' w₂ ρ' L base' len' (.loop fn' t' ps' asg' body' .busy .normal) := ⟨_, M.here, rfl, hps', hasg', hbody', rfl, hpd', tmps_same htm' hk⟩
      obtain ⟨hi2, hc2⟩ := hi.box hb' hlive1 M hsh hrel2 rfl (by simp) rfl
      have s2 : Step K (ZP Z rs) I' J' ρ' σ₁.h w₁ I' J' ρ' (σ₁.h.set lb (some (.loop fn' t' ps' asg' body' .busy .normal))) w₂ := Step.of_same hi2 hc2 (Stab.set hlive1 rfl (fun h => h)) (by simp) s.fresh
      refine ⟨w₂, ?_, ?_⟩
      · simp only [Instr.beginRound, Sem.run_bind, run_getLoop hr', Result.andThen_ok, hset, hst', Sem.run_pure]
      refine exec_sound (ro := some lb) (roL := some L) F ih (hdr _ ih) r.body hQ ⟨hi2, tmps_same ht hc2.keep, s2.fresh⟩ (s2.glob (s.glob hg)) (hro1.step s2.stab) (fun ex e σ₂ a₂ w₃ hQ2 hE2 hX2 => ?_)
      obtain ⟨rs3, I3, J3, ρ3, s3, hi3, ht3, hd3, hnd3, hrs3, hf3⟩ := hX2
      simp only at hQ2
      split at hQ2
      case h_2 => exact hQ2.elim
      rename_i fn3 t3 ps3 asg3 body3 hgl3
      have hlive3 := live_getD hgl3
      obtain ⟨base3, len3, hb3⟩ := ((hro1.step s2.stab).step s3.stab).2 (by rw [hgl3]; rfl)
      obtain ⟨r3, hr3, _, hps3, hasg3, hbody3, hst3, hpd3, htm3⟩ := s3.inv.rel lb L base3 len3 _ hb3 hlive3
      have fin : ∀ (jump : Option Code) (st : LoopState) (pd : Ex), pendC pd = jump → st = (if jump.isNone then .ready else .done) → Q (.bool jump.isNone, σ₂.h.set lb (some (.loop fn3 t3 ps3 asg3 body3 st pd))) →
          ∃ v w', (Instr.endRound L jump).run P w₃ = .ok v w' ∧ ∃ V v' h' I' J' ρ', Ending.returned v = .returned V ∧ Q (v', h') ∧ Step K Z I J ρ h w I' J' ρ' h' w' ∧ VR K I' J' w' ρ' v' V := by
        intro jump st pd hpj hstj hQQ
        obtain ⟨w₄, hset4, M4⟩ := run_setObj (P := P) (y := .loop { r3 with state := if jump.isNone then .ready else .done, pending := jump }) hr3 (by simp)
        have hsh4 := M4.shapeObj hr3 (by simp)
        have ho4 := s3.inv.own lb L base3 len3 _ hb3 hlive3
        have hk4 := M4.keep (I := I3) (J := J3) hsh4 ho4.2.1 ho4.2.2.1
        have hrel4 : BlkRel K I3 J3 w₄ ρ3 L base3 len3 (.loop fn3 t3 ps3 asg3 body3 st pd) := ⟨_, M4.here, rfl, hps3, hasg3, hbody3, hstj.symm, hpj.symm, tmps_same htm3 hk4⟩
        obtain ⟨hi4, hc4⟩ := s3.inv.box hb3 hlive3 M4 hsh4 hrel4 rfl (by simp) rfl
        have s4 : Step K (ZP Z rs) I3 J3 ρ3 σ₂.h w₃ I3 J3 ρ3 (σ₂.h.set lb (some (.loop fn3 t3 ps3 asg3 body3 st pd))) w₄ := Step.of_same hi4 hc4 (Stab.set hlive3 rfl (fun h => h)) (by simp) s3.fresh
        refine ⟨.bool jump.isNone, w₄, ?_, _, _, _, I3, J3, ρ3, rfl, hQQ, s.trans (((s2.trans s3).trans s4).lessZ (fun R h => .inl h)), .bool _ _⟩
        simp only [Instr.endRound, Sem.run_bind, run_getLoop hr3, Result.andThen_ok, hset4, Sem.run_pure]
      rcases hE2.cases with ⟨rfl, rfl⟩ | ⟨i, rfl, rfl⟩ | ⟨rfl, rfl⟩
      · exact fin none .ready .normal rfl rfl hQ2
      · exact fin (some (.exit i)) .done (.exit i) rfl rfl hQ2
      · exact fin (some .ret) .done .ret rfl rfl hQ2
    · exact hq.elim
end
end Go.LH


set_option linter.unusedVariables false
set_option linter.unusedSimpArgs false
namespace Go.LH
def mask (ds : List Nat) (t : List LV) : List LV := t.mapIdx fun d v => bif ds.contains d then v else .un
theorem mask_len (ds : List Nat) (t : List LV) : (mask ds t).length = t.length := by simp [mask]
theorem mask_get (ds : List Nat) (t : List LV) (d : Nat) : (mask ds t)[d]? = (t[d]?).map fun v => bif ds.contains d then v else .un := by
  simp [mask, List.getElem?_mapIdx]
theorem mask_in {ds : List Nat} {t : List LV} {d : Nat} (h : d ∈ ds) : (mask ds t)[d]? = t[d]? := by
  rw [mask_get]
  have : ds.contains d = true := by simpa using h
  rw [this]
  cases t[d]? <;> rfl
section
variable {K : Ctx} {P : Program} {Z : Nat → Prop} {I I' : CellP} {J J' : Nat → Prop} {w w' : World} {ρ ρ' : Env} {h h' : Heap}
theorem ev_mask {ops : Array Oper} {o : Oper} {t : List LV} {x : Operand} (hx : x ∈ o.op.operands) : ev K (mask (readsOf ops o) t) x = ev K t x := by
  cases x with
  | tmp d =>
    simp only [ev, List.getD_eq_getElem?_getD]
    rw [mask_in]
    unfold readsOf
    refine List.mem_append_left _ (List.mem_filterMap.2 ⟨.tmp d, Array.mem_toList_iff.2 hx, rfl⟩)
  | const v => rfl
  | global g => rfl
  | func f => rfl
theorem wanted_mask {ops : Array Oper} {o : Oper} {t : List LV} : wantedL o ops (mask (readsOf ops o) t) = wantedL o ops t := by
  unfold wantedL
  split
  · rfl
  · rename_i j b hg
    congr 1
    unfold yieldedL
    cases hd : (ops[j]?).bind (·.dst) with
    | none => rfl
    | some d =>
      simp only [Option.bind_some]
      rw [mask_in]
      unfold readsOf
      refine List.mem_append_right _ ?_
      rw [hg]
      simp [hd]
end
end Go.LH


set_option linter.unusedVariables false
set_option linter.unusedSimpArgs false
namespace Go.LH
section
variable {K : Ctx} {P : Program} {Z : Nat → Prop} {I I' : CellP} {J J' : Nat → Prop} {w w' : World} {ρ ρ' : Env} {h h' : Heap}
theorem qop_id {id id' : Nat} {e : Operand → LV} {op : Op} {v : LV} (hq : qop K id h e op = some (v, none)) : qop K id' h e op = some (v, none) := by
  cases op with
  | alloc t => simp only [qop, Bool.cond_eq_ite] at hq; split at hq <;> simp_all
  | box t x => simp only [qop] at hq; split at hq <;> simp_all
  | buildSlice t len parts =>
    simp only [qop] at hq ⊢
    split at hq
    · rename_i et hk
      try simp only
      cases hc : (decide (len * (K.ti et).sz ≤ 16777216) && (K.ti et).zok && K.has et) with
      | false => rw [hc] at hq; cases hq
      | true =>
        rw [hc, cond_true] at hq
        try simp only [cond_true]
        split at hq
        · rename_i es hes
          try simp only
          cases hn : (noRefs es && (decide (0 < (K.ti et).sz) || es.isEmpty)) with
          | true => rw [hn] at hq; exact hq
          | false =>
            rw [hn, cond_false] at hq
            cases hs : decide (0 < (K.ti et).sz) with
            | true => rw [hs] at hq; simp at hq
            | false => rw [hs] at hq; cases hq
        · cases hq
    · cases hq
  | makeMap t r =>
    cases r with
    | none => simp only [qop] at hq; split at hq <;> simp_all
    | some r => simp [qop] at hq
  | makeSlice t l c =>
    simp only [qop, Bool.cond_eq_ite] at hq
    split at hq
    · split at hq <;> simp_all
    · cases hq
  | range t x =>
    simp only [qop] at hq
    split at hq
    · simp at hq
    · simp at hq
    · split at hq <;> simp at hq
    · cases hq
  | _ => exact hq
theorem map_ok {α β : Type} {t : ND α} {f : α → β} {b : β} (h : t.map f = .ok b) : ∃ a, t = .ok a ∧ f a = b := by
  cases t with
  | ok a => exact ⟨a, rfl, by simpa [ND.map, ND.bind] using h⟩
  | bad s => simp [ND.map, ND.bind] at h
  | pick n k => simp [ND.map, ND.bind] at h
theorem bind_ok {α β : Type} {t : ND α} {f : α → ND β} {b : β} (h : t.bind f = .ok b) : ∃ a, t = .ok a ∧ f a = .ok b := by
  cases t with
  | ok a => exact ⟨a, rfl, by simpa [ND.bind] using h⟩
  | bad s => simp [ND.bind] at h
  | pick n k => simp [ND.bind] at h
theorem run_step {cf : CallF} {o : Oper} {σ σ' : Fr} {c : Nat} (h : runOp K cf o σ = .ok (c, σ')) (hc : c ≤ 2) : opStep K cf o σ = .ok (c, σ') := by
  unfold runOp at h
  split at h
  · exact h
  · obtain ⟨a, _, h2⟩ := map_ok h
    cases h2
    omega
noncomputable def eOf (o : Oper) (e : Operand → LV) : Operand → LV := fun x => open Classical in if x ∈ o.op.operands then e x else .un
theorem eOf_in {o : Oper} {e : Operand → LV} {x : Operand} (hx : x ∈ o.op.operands) : eOf o e x = e x := by simp [eOf, hx]
theorem eOf_rel {o : Oper} {e : Operand → LV} {E : Operand → Value} (he : ∀ x ∈ o.op.operands, VR K I J w ρ (e x) (E x)) (x : Operand) : VR K I J w ρ (eOf o e x) (E x) := by
  unfold eOf
  by_cases hx : x ∈ o.op.operands
  · simp only [hx, if_true]; exact he x hx
  · simp only [hx, if_false]; exact .un _ _
theorem pure_any {id : Nat} {h h' : Heap} {e : Operand → LV} {op : Op} (hp : pureOp op = true) (hn : ∀ t x i, op ≠ .indexAddr t x i) : qop K id h e op = qop K id h' e op := by
  cases op <;> first | rfl | simp [pureOp] at hp
end
end Go.LH


set_option linter.unusedVariables false
set_option linter.unusedSimpArgs false
namespace Go.LH
section
variable {K : Ctx} {P : Program} {Z : Nat → Prop} {I I' : CellP} {J J' : Nat → Prop} {w w' : World} {ρ ρ' : Env} {h h' : Heap}
theorem call_operands {o : Oper} {c : Call} {f : Operand} (hop : o.op = .call c) (hc : c.callee = .value f) : f ∈ o.op.operands ∧ ∀ x ∈ c.args, x ∈ o.op.operands := by
  rw [hop]
  simp only [Op.operands, Call.operands, hc]
  exact ⟨by simp, fun x hx => by simp [hx]⟩
theorem draw_quiet {cf : CallF} {o : Oper} {σ σ' : Fr} {c : Nat} (F : Fits K P) (hcf : CallOK K P cf) (hs : opStep K cf o σ = .ok (c, σ')) (hc : c ≤ 1) :
    ∃ v ob, σ' = { σ with t := putT σ.t o.dst v, h := σ.h ++ (ob.map some).toList } ∧ (c = 0 → ob = none) ∧
      ∀ {hk : Heap} {I : CellP} {J : Nat → Prop} {ρ : Env} {w : World} {a : Act} {ro : Option Nat} {next : Act → World → Prop} {Qx : Exit → Act → World → Prop}, (c = 0 ∨ HLe σ.h hk) → Inv K Z I J ρ hk w → (∀ b, hk.length ≤ b → ρ b = none) → GlobR K I J w →
        (∀ x ∈ o.op.operands, VR K I J w ρ (ev K σ.t x) (a.eval x)) → (ob ≠ none → ρ σ.h.length = none) → (∀ V w', QPost K I J ρ hk σ.h.length w v ob V w' → next (a.put o.dst V) w') → o.wpIn (FR ro) 0 P a w next Qx := by
  have quiet : ∀ {v : LV} {ob : Option Blk}, (∀ cc, o.op ≠ .defer cc) → qop K σ.h.length σ.h (ev K σ.t) o.op = some (v, ob) → (c = 0 → pureOp o.op = true) → ∀ {hk : Heap} {I : CellP} {J : Nat → Prop} {ρ : Env} {w : World} {a : Act} {ro : Option Nat} {next : Act → World → Prop} {Qx : Exit → Act → World → Prop}, (c = 0 ∨ HLe σ.h hk) → Inv K Z I J ρ hk w → (∀ b, hk.length ≤ b → ρ b = none) → GlobR K I J w →
        (∀ x ∈ o.op.operands, VR K I J w ρ (ev K σ.t x) (a.eval x)) → (ob ≠ none → ρ σ.h.length = none) → (∀ V w', QPost K I J ρ hk σ.h.length w v ob V w' → next (a.put o.dst V) w') → o.wpIn (FR ro) 0 P a w next Qx := by
    intro v ob hnd hq hp hk I J ρ w a ro next Qx hle H hfr hg he hid hnext
    have hq1 : qop K σ.h.length hk (ev K σ.t) o.op = some (v, ob) := by
      rcases hle with h0 | hle
      · rw [← hq]
        exact pure_any (hp h0) (fun t x i e => by rw [e] at hp; exact absurd (hp h0) (by simp [pureOp]))
      · exact qop_mono hle hq
    have hq2 : qop K σ.h.length hk (eOf o (ev K σ.t)) o.op = some (v, ob) := by
      rw [← hq1]
      exact qop_congr (fun x hx => eOf_in hx)
    have hrun : ∃ V w', (execOp a.eval o).run P w = .ok (.value V) w' ∧ QPost K I J ρ hk σ.h.length w v ob V w' := by
      cases ob with
      | some x => exact qop_rel F H (hid (by simp)) (eOf_rel he) hq2
      | none => exact qop_rel F H (hfr _ (Nat.le_refl _)) (eOf_rel he) (qop_id (id' := hk.length) hq2)
    obtain ⟨V, w', h1, h2⟩ := hrun
    refine op_run hnd h1 ?_
    rw [Oper.uponIn_value]
    exact hnext V w' h2
  unfold opStep at hs
  simp only at hs
  split at hs
  · obtain ⟨a, _, h2⟩ := map_ok hs; cases h2; omega
  · obtain ⟨a, _, h2⟩ := map_ok hs; cases h2; omega
  · obtain ⟨a, _, h2⟩ := map_ok hs; cases h2; omega
  · split at hs
    · obtain ⟨a, _, h2⟩ := map_ok hs; cases h2; omega
    · cases hs
  ·
    rename_i t len parts hop
    have hnd : ∀ cc, o.op ≠ .defer cc := fun c => by rw [hop]; simp
    split at hs
    · rename_i v hqo
      cases hr : K.rows σ.fn (o.dst.getD 0) with
      | false =>
        rw [hr] at hs
        simp only [cond_false] at hs
        cases hs
        exact ⟨v, none, by simp, fun _ => rfl, quiet hnd (by rw [hop]; exact hqo) (fun h => by cases h)⟩
      | true =>
        rw [hr, cond_true] at hs
        split at hs
        case h_2 => cases hs
        rename_i pu mv es s ty hrow
        cases hs
        refine ⟨.row σ.h.length s none, some (.row pu mv es s ty), by simp, fun h => (by cases h), ?_⟩
        intro hk I J ρ w a ro next Qx hle H hfr hg he hid hnext
        have hle' : HLe σ.h hk := hle.resolve_left (by simp)
        have hq2 : qop K σ.h.length hk (eOf o (ev K σ.t)) (.buildSlice t len parts) = some (v, none) := by
          rw [← qop_mono hle' hqo]
          exact qop_congr (fun x hx => eOf_in (by rw [hop]; exact hx))
        obtain ⟨V, w', h1, _, h2⟩ := buildSlice_rel F H (eOf_rel he) (hid (by simp)) hq2
        refine op_run hnd (by simp only [execOp, hop]; exact ex_v h1) ?_
        rw [Oper.uponIn_value]
        exact hnext V w' (h2 rfl _ hrow)
    · rename_i v b hqo
      cases hs
      exact ⟨v, some b, by simp, fun h => (by cases h), quiet hnd (by rw [hop]; exact hqo) (fun h => by cases h)⟩
    · cases hs
  ·
    rename_i cc hop
    have hnd : ∀ cc, o.op ≠ .defer cc := fun c => by rw [hop]; simp
    have hexec : ∀ a : Act, execOp a.eval o = (do let d ← resolve a.eval cc o.type; invoke d.target d.args) := fun a => by simp only [execOp, hop]
    split at hs
    · split at hs
      · cases hsl : isSliceK (K.ti _).k with
        | false => rw [hsl] at hs; cases hs
        | true =>
          rw [hsl] at hs
          simp only [Bool.not_true, cond_false] at hs
          obtain ⟨a, _, h2⟩ := map_ok hs; cases h2; omega
      · cases hs
    · split at hs
      · obtain ⟨a, _, h2⟩ := map_ok hs; cases h2; omega
      · cases hs
    · rename_i f hcl
      cases hi : (isoOf K (ev K σ.t f) == 0) with
      | true =>
        rw [hi, cond_true] at hs
        obtain ⟨a, _, h2⟩ := map_ok hs; cases h2; omega
      | false =>
        rw [hi, cond_false] at hs
        obtain ⟨v, h1, h2⟩ := map_ok hs
        cases h2
        refine ⟨v, none, by simp, fun h => (by cases h), ?_⟩
        intro hk I J ρ w a ro next Qx hle H hfr hg he hid hnext
        have hle' : HLe σ.h hk := hle.resolve_left (by simp)
        obtain ⟨m1, m2⟩ := call_operands hop hcl
        have hsem : execOp a.eval o = callSem (a.eval f) (cc.args.map a.eval) := by
          rw [hexec]
          simp only [resolve, hcl, callSem]
        have hA : TmpsR K I J w ρ (cc.args.toList.map (ev K σ.t)) (cc.args.map a.eval) := by
          have := list_rel (eOf_rel (o := o) he) cc.args
          rwa [args_congr (e := eOf o (ev K σ.t)) (e' := ev K σ.t) (fun x hx => eOf_in (m2 x hx))] at this
        obtain ⟨nx, h3, h4⟩ := iso_rel (Q := fun u => u = v) hcf (by rw [h1]; rfl) hle' H hg (he f m1) hA
        refine op_run hnd (by rw [hsem]; exact h3) (upon_enter h4 (fun e w' hR => ?_))
        obtain ⟨V, v', I', J', rfl, rfl, L, hv⟩ := hR
        exact ⟨V, rfl, hnext V w' ⟨I', J', L, hv.up ρ⟩⟩
    · split at hs
      · rename_i v hqo
        cases hs
        exact ⟨v, none, by simp, fun h => (by cases h), quiet hnd hqo (fun h => by cases h)⟩
      · cases hs
  · rename_i op hn1 hn2 hn3 hn4 hn5 hn6
    have hnd : ∀ cc, o.op ≠ .defer cc := by
      intro cc hd
      rw [hd] at hs
      simp [qop] at hs
    split at hs
    · rename_i v hqo
      cases hs
      refine ⟨v, none, by simp, fun _ => rfl, quiet hnd hqo (fun h => ?_)⟩
      cases hp : pureOp o.op with
      | true => rfl
      | false => rw [hp] at h; cases h
    · rename_i v b hqo
      cases hs
      exact ⟨v, some b, by simp, fun h => (by cases h), quiet hnd hqo (fun h => by cases h)⟩
    · cases hs
end
end Go.LH


set_option linter.unusedVariables false
set_option linter.unusedSimpArgs false
namespace Go.LH
section
variable {K : Ctx} {P : Program} {Z : Nat → Prop} {I I' : CellP} {J J' : Nat → Prop} {w w' : World} {ρ ρ' : Env} {h h' : Heap}
theorem of_ok {α β : Type} {why : String} {o : Option α} {f : α → β} {b : β} (h : (ND.of why o).map f = .ok b) : ∃ a, o = some a ∧ f a = b := by
  cases o with
  | none => obtain ⟨a, h1, _⟩ := map_ok h; cases h1
  | some a => obtain ⟨a', h1, h2⟩ := map_ok h; cases h1; exact ⟨a, rfl, h2⟩
theorem draw_loud {cf : CallF} {o : Oper} {σ σ' : Fr} (F : Fits K P) (hs : opStep K cf o σ = .ok (2, σ')) :
    ∃ v h', σ' = { σ with t := putT σ.t o.dst v, h := h' } ∧
      ∀ {I : CellP} {J : Nat → Prop} {ρ : Env} {w : World} {a : Act} {ro : Option Nat} {next : Act → World → Prop} {Qx : Exit → Act → World → Prop}, Inv K Z I J ρ σ.h w → GlobR K I J w →
        (∀ x ∈ o.op.operands, VR K I J w ρ (ev K σ.t x) (a.eval x)) → (∀ V w', Inv K Z I J ρ h' w' → Chg Z I J w w' → Stab σ.h ρ h' ρ → h'.length = σ.h.length → VR K I J w' ρ v V → next (a.put o.dst V) w') → o.wpIn (FR ro) 0 P a w next Qx := by
  unfold opStep at hs
  simp only at hs
  split at hs
  · rename_i t x y hop
    obtain ⟨h', h1, h2⟩ := of_ok hs
    cases h2
    refine ⟨.tup [], h', rfl, ?_⟩
    intro I J ρ w a ro next Qx H hg he hnext
    obtain ⟨w', a1, a2, a3⟩ := store_rel F H h1 (he x (by rw [hop]; simp [Op.operands])) (he y (by rw [hop]; simp [Op.operands]))
    obtain ⟨a4, a5⟩ := store_stab h1 ρ
    refine op_run (fun c => by rw [hop]; simp) (r := .ok .skip w') (by simp only [execOp, hop]; exact ex_u a1) ?_
    rw [Oper.uponIn_skip]
    exact hnext _ _ a2 a3 a4 a5 undef_rel
  · rename_i t m k x hop
    obtain ⟨h', h1, h2⟩ := of_ok hs
    cases h2
    refine ⟨.tup [], h', rfl, ?_⟩
    intro I J ρ w a ro next Qx H hg he hnext
    obtain ⟨w', a1, a2, a3, a4, a5⟩ := update_rel F H h1 (he m (by rw [hop]; simp [Op.operands])) (he k (by rw [hop]; simp [Op.operands])) (he x (by rw [hop]; simp [Op.operands]))
    refine op_run (fun c => by rw [hop]; simp) (r := .ok .skip w') (by simp only [execOp, hop]; exact ex_u a1) ?_
    rw [Oper.uponIn_skip]
    exact hnext _ _ a2 a3 a4 a5 undef_rel
  · rename_i t m k x hop
    obtain ⟨h', h1, h2⟩ := of_ok hs
    cases h2
    refine ⟨.tup [], h', rfl, ?_⟩
    intro I J ρ w a ro next Qx H hg he hnext
    obtain ⟨w', a1, a2, a3, a4, a5⟩ := update_rel F H h1 (he m (by rw [hop]; simp [Op.operands])) (he k (by rw [hop]; simp [Op.operands])) (he x (by rw [hop]; simp [Op.operands]))
    refine op_run (fun c => by rw [hop]; simp) (r := .ok .skip w') (by simp only [execOp, hop]; exact ex_u a1) ?_
    rw [Oper.uponIn_skip]
    exact hnext _ _ a2 a3 a4 a5 undef_rel
  · rename_i it hop
    split at hs
    case h_2 => cases hs
    rename_i b hit
    obtain ⟨⟨t', h'⟩, h1, h2⟩ := map_ok hs
    cases h2
    unfold nextL at h1
    split at h1
    case h_2 => cases h1
    rename_i mb ks vs last hgb
    cases ks with
    | cons k ks => cases h1
    | nil =>
      cases h1
      refine ⟨.tup [.bool false], σ.h, rfl, ?_⟩
      intro I J ρ w a ro next Qx H hg he hnext
      have hit' := he it (by rw [hop]; simp [Op.operands])
      rw [hit] at hit'
      rcases next_rel (P := P) (ty := o.type) H hgb hit' with ⟨_, V, a1, a2⟩ | ⟨hne, _⟩
      · refine op_run (fun c => by rw [hop]; simp) (r := .ok (.value V) w) (by simp only [execOp, hop]; exact ex_v a1) ?_
        rw [Oper.uponIn_value]
        exact hnext _ _ H (Chg.refl _ _ _ _) (Stab.refl _ _) rfl a2
      · exact absurd rfl hne
  · split at hs
    · cases hr : K.rows σ.fn (o.dst.getD 0) with
      | false => rw [hr] at hs; cases hs
      | true =>
        rw [hr, cond_true] at hs
        split at hs <;> cases hs
    · cases hs
    · cases hs
  · rename_i cc hop
    have hnd : ∀ cc, o.op ≠ .defer cc := fun c => by rw [hop]; simp
    split at hs
    · split at hs
      · cases hsl : isSliceK (K.ti _).k with
        | false => rw [hsl] at hs; cases hs
        | true =>
          rw [hsl] at hs
          simp only [Bool.not_true, cond_false] at hs
          obtain ⟨a, _, h2⟩ := map_ok hs; cases h2
      · cases hs
    · rename_i x hcl hargs
      obtain ⟨xo, hl, rfl⟩ := args1 hargs
      split at hs
      case h_2 => cases hs
      rename_i t ht
      obtain ⟨h', h1, h2⟩ := of_ok hs
      cases h2
      refine ⟨.tup [], h', rfl, ?_⟩
      intro I J ρ w a ro next Qx H hg he hnext
      have hxo : xo ∈ o.op.operands := by
        rw [hop]
        simp only [Op.operands, Call.operands, hcl]
        exact Array.mem_toList_iff.1 (by simp [hl])
      obtain ⟨w', a1, a2, a3, a4, a5⟩ := clear_rel (ty := o.type) F H ht h1 (he xo hxo)
      refine op_run hnd (r := .ok (.value (.tuple #[])) w') (by simp only [execOp, hop]; exact call_value hcl (fun consts => by rw [map_list _ _ _ hl]; rfl) a1) ?_
      rw [Oper.uponIn_value]
      exact hnext _ _ a2 a3 a4 a5 undef_rel
    · cases hi : (isoOf K (ev K σ.t _) == 0) with
      | true => rw [hi, cond_true] at hs; obtain ⟨a, _, h2⟩ := map_ok hs; cases h2
      | false => rw [hi, cond_false] at hs; obtain ⟨a, _, h2⟩ := map_ok hs; cases h2
    · split at hs <;> cases hs
  · split at hs
    · rename_i v hq
      have h1 := congrArg (fun t => match t with | ND.ok (c, _) => c | _ => 0) hs
      simp only at h1
      cases hp : pureOp o.op <;> rw [hp] at h1 <;> cases h1
    · cases hs
    · cases hs
end
end Go.LH


set_option linter.unusedVariables false
set_option linter.unusedSimpArgs false
namespace Go.LH
def StepT (K : Ctx) (cf : CallF) (ops : Array Oper) (o : Oper) (σ : Fr) (c : Nat) (σ' : Fr) : Prop :=
  (wantedL o ops σ.t = some true ∧ runOp K cf o σ = .ok (c, σ')) ∨ (wantedL o ops σ.t = some false ∧ c = 0 ∧ σ' = { σ with t := putT σ.t o.dst (.tup []) })
theorem tr_of {K : Ctx} {cf : CallF} {ops : Array Oper} : ∀ (l : List Oper) {σ : Fr} {cs : List Nat} {σ' : Fr}, runOps K cf ops l σ = .ok (cs, σ') →
    ∃ τ : Nat → Fr, τ 0 = σ ∧ τ l.length = σ' ∧ cs.length = l.length ∧ ∀ i o, l[i]? = some o → StepT K cf ops o (τ i) (cs.getD i 0) (τ (i + 1))
  | [], σ, cs, σ', h => by
    simp only [runOps] at h
    cases h
    exact ⟨fun _ => σ, rfl, rfl, rfl, fun i o h => by simp at h⟩
  | o :: l, σ, cs, σ', h => by
    simp only [runOps] at h
    split at h
    case h_2 => cases h
    rename_i wt hw
    cases wt with
    | true =>
      simp only [cond_true] at h
      obtain ⟨⟨c, σ₁⟩, h1, h2⟩ := bind_ok h
      obtain ⟨⟨cs', σ₂⟩, h3, h4⟩ := map_ok h2
      cases h4
      obtain ⟨τ, a1, a2, a3, a4⟩ := tr_of l h3
      refine ⟨fun i => match i with | 0 => σ | i + 1 => τ i, rfl, a2, by simp [a3], fun i o' hi => ?_⟩
      cases i with
      | zero =>
        simp at hi
        subst hi
        simp only [List.getD_cons_zero]
        rw [a1]
        exact .inl ⟨hw, h1⟩
      | succ i => simpa using a4 i o' (by simpa using hi)
    | false =>
      simp only [cond_false] at h
      obtain ⟨⟨cs', σ₂⟩, h3, h4⟩ := map_ok h
      cases h4
      obtain ⟨τ, a1, a2, a3, a4⟩ := tr_of l h3
      refine ⟨fun i => match i with | 0 => σ | i + 1 => τ i, rfl, a2, by simp [a3], fun i o' hi => ?_⟩
      cases i with
      | zero =>
        simp at hi
        subst hi
        simp only [List.getD_cons_zero]
        rw [a1]
        exact .inr ⟨hw, rfl, rfl⟩
      | succ i => simpa using a4 i o' (by simpa using hi)
end Go.LH


set_option linter.unusedVariables false
set_option linter.unusedSimpArgs false
namespace Go.LH
open Region
def Waits (ops : Array Oper) (S : Nat → Prop) (j : Nat) : Prop := ∀ o, ops[j]? = some o → ∀ e ∈ o.after, binds .any e = true → S e.on
def Closed (ops : Array Oper) (S : Nat → Prop) : Prop := ∀ j, S j → Waits ops S j
theorem fold_bits (acc : Array Nat) : ∀ (l : List Edge) (s i : Nat), (l.foldl (fun s e => if binds .any e then s ||| 2 ^ e.on ||| acc.getD e.on 0 else s) s).testBit i = true →
    s.testBit i = true ∨ ∃ e ∈ l, binds .any e = true ∧ (i = e.on ∨ (acc.getD e.on 0).testBit i = true)
  | [], s, i, h => .inl h
  | e :: l, s, i, h => by
    simp only [List.foldl_cons] at h
    rcases fold_bits acc l _ i h with h1 | ⟨e', he', h1⟩
    · cases hb : binds .any e with
      | false => rw [hb] at h1; exact .inl (by simpa using h1)
      | true =>
        rw [hb] at h1
        simp only [if_true, Nat.testBit_or, Bool.or_eq_true] at h1
        rcases h1 with (h1 | h1) | h1
        · exact .inl h1
        · refine .inr ⟨e, by simp, hb, .inl ?_⟩
          rw [Nat.testBit_two_pow] at h1
          exact (by simpa using h1 : e.on = i).symm
        · exact .inr ⟨e, by simp, hb, .inr h1⟩
    · exact .inr ⟨e', by simp [he'], h1⟩
def Good (ops : Array Oper) (S : Nat → Prop) (acc : Array Nat) : Prop := ∀ j, j < acc.size → ∀ i, (acc.getD j 0).testBit i = true → Waits ops S j → S i
theorem good_fold {ops : Array Oper} {S : Nat → Prop} (hS : Closed ops S) : ∀ (l : List Oper) (acc : Array Nat), (∀ k, l[k]? = ops[acc.size + k]?) → Good ops S acc →
    Good ops S (l.foldl (fun acc o => acc.push (o.after.foldl (fun s e => if binds .any e then s ||| 2 ^ e.on ||| acc.getD e.on 0 else s) 0)) acc)
  | [], acc, hl, hg => hg
  | o :: l, acc, hl, hg => by
    simp only [List.foldl_cons]
    refine good_fold hS l _ (fun k => by have := hl (k + 1); simpa [Nat.add_assoc, Nat.add_comm 1 k] using this) ?_
    intro j hj i hi hw
    simp only [Array.size_push] at hj
    by_cases e : j = acc.size
    · subst e
      have ho : ops[acc.size]? = some o := by simpa using (hl 0).symm
      simp only [Array.getD_eq_getD_getElem?, Array.getElem?_push_size, Option.getD_some] at hi
      have hi' : (o.after.toList.foldl (fun s e => if binds .any e then s ||| 2 ^ e.on ||| acc.getD e.on 0 else s) 0).testBit i = true := by
        rw [Array.foldl_toList]
        simpa [Array.getD_eq_getD_getElem?] using hi
      rcases fold_bits acc _ 0 i hi' with h1 | ⟨e, he, hb, h1⟩
      · simp at h1
      · have hSe : S e.on := hw o ho e (Array.mem_toList_iff.1 he) hb
        rcases h1 with rfl | h1
        · exact hSe
        · have hlt : e.on < acc.size := by
            rcases Nat.lt_or_ge e.on acc.size with h2 | h2
            · exact h2
            · rw [Array.getD_eq_getD_getElem?, Array.getElem?_eq_none h2] at h1; simp at h1
          exact hg e.on hlt i h1 (hS e.on hSe)
    · have hj' : j < acc.size := by omega
      have : (acc.push (o.after.foldl (fun s e => if binds .any e then s ||| 2 ^ e.on ||| acc.getD e.on 0 else s) 0)).getD j 0 = acc.getD j 0 := by
        rw [Array.getD_eq_getD_getElem?, Array.getD_eq_getD_getElem?, Array.getElem?_push, if_neg e]
      rw [this] at hi
      exact hg j hj' i hi hw
theorem before_in {ops : Array Oper} {S : Nat → Prop} (hS : Closed ops S) {j i : Nat} (hi : ((before ops).getD j 0).testBit i = true) (hw : Waits ops S j) : S i := by
  have hg : Good ops S (before ops) := by
    unfold before
    rw [← Array.foldl_toList]
    exact good_fold hS ops.toList #[] (by simp) (fun j hj => by simp at hj)
  have hj : j < (before ops).size := by
    rcases Nat.lt_or_ge j (before ops).size with h | h
    · exact h
    · rw [Array.getD_eq_getD_getElem?, Array.getElem?_eq_none h] at hi; simp at hi
  exact hg j hj i hi hw
structure Checked (ops : Array Oper) (cl : Nat → Nat) : Prop where
  lt : ∀ i o, ops[i]? = some o → ∀ e ∈ o.after, binds .any e = true → e.on < i
  clash : ∀ i j x y, i < j → ops[i]? = some x → ops[j]? = some y → (slotClash ops x y || clClash (cl i) (cl j)) = true → ((before ops).getD j 0).testBit i = true
theorem checked_of {ops : Array Oper} {cs : List Nat} (h : drawOk ops cs = true) : cs.length = ops.size ∧ Checked ops (fun i => cs.getD i 0) := by
  unfold drawOk at h
  simp only [Bool.and_eq_true, beq_iff_eq, List.all_eq_true] at h
  obtain ⟨⟨h1, h2⟩, h3⟩ := h
  refine ⟨h1, ⟨fun i o ho e he hb => ?_, fun i j x y hij hx hy hc => ?_⟩⟩
  · have hm : (o, i) ∈ ops.toList.zipIdx := by
      rw [List.mem_zipIdx_iff_getElem?]
      simpa using ho
    have := h2 (o, i) hm
    simp only [Array.all_eq_true'] at this
    have := this e he
    simp only [hb, Bool.not_true, Bool.false_or, decide_eq_true_eq] at this
    exact this
  · have mem : ∀ k z, ops[k]? = some z → ((z, cs.getD k 0), k) ∈ (ops.toList.zip cs).zipIdx := by
      intro k z hz
      rw [List.mem_zipIdx_iff_getElem?]
      rw [List.getElem?_zip_eq_some]
      have hk : k < cs.length := by rw [h1]; exact (Array.getElem?_eq_some_iff.1 hz).1
      exact ⟨by simpa using hz, by rw [List.getD_eq_getElem?_getD, List.getElem?_eq_getElem hk]; rfl⟩
    have := h3 _ (mem j y hy)
    simp only [List.all_eq_true] at this
    have := this _ (mem i x hx)
    simp only [hij, decide_true, Bool.not_true, Bool.false_or, Bool.or_eq_true, Bool.not_eq_true'] at this
    rcases this with h4 | h4
    · rw [h4] at hc; cases hc
    · exact h4
end Go.LH


set_option linter.unusedVariables false
set_option linter.unusedSimpArgs false
namespace Go.LH
open Region
theorem first_from (f : Nat → Prop) (n : Nat) : ∀ (g i : Nat), n - i = g → i ≤ n → ∃ k, i ≤ k ∧ k ≤ n ∧ (∀ j, i ≤ j → j < k → ¬ f j) ∧ (k < n → f k)
  | 0, i, hg, hi => ⟨i, Nat.le_refl _, hi, fun j h1 h2 => absurd h2 (by omega), fun h => absurd h (by omega)⟩
  | g + 1, i, hg, hi => by
    by_cases hf : f i
    · exact ⟨i, Nat.le_refl _, hi, fun j h1 h2 => absurd h2 (by omega), fun _ => hf⟩
    · obtain ⟨k, h1, h2, h3, h4⟩ := first_from f n g (i + 1) (by omega) (by omega)
      refine ⟨k, by omega, h2, fun j h5 h6 => ?_, h4⟩
      by_cases e : j = i
      · subst e; exact hf
      · exact h3 j (by omega) h6
theorem putT_len (t : List LV) (d : Option Nat) (v : LV) : (putT t d v).length = t.length := by cases d <;> simp [putT]
theorem putT_ne {t : List LV} {o : Option Nat} {v : LV} {d : Nat} (h : o ≠ some d) : (putT t o v)[d]? = t[d]? := by
  cases o with
  | none => rfl
  | some e => exact List.getElem?_set_ne (fun e' => h (by rw [e']))
section
variable {K : Ctx} {P : Program} {Z : Nat → Prop} {I I' : CellP} {J J' : Nat → Prop} {w w' : World} {ρ ρ' : Env} {h h' : Heap}
theorem class_le {cf : CallF} {o : Oper} {σ σ' : Fr} {c : Nat} (hs : opStep K cf o σ = .ok (c, σ')) : c ≤ 3 := by
  unfold opStep at hs
  simp only at hs
  split at hs
  · obtain ⟨a, _, h2⟩ := map_ok hs; cases h2; omega
  · obtain ⟨a, _, h2⟩ := map_ok hs; cases h2; omega
  · obtain ⟨a, _, h2⟩ := map_ok hs; cases h2; omega
  · split at hs
    · obtain ⟨a, _, h2⟩ := map_ok hs; cases h2; omega
    · cases hs
  · split at hs
    · cases hr : K.rows σ.fn (o.dst.getD 0) with
      | false => rw [hr] at hs; cases hs; omega
      | true =>
        rw [hr, cond_true] at hs
        split at hs
        · cases hs; omega
        · cases hs
    · cases hs; omega
    · cases hs
  · split at hs
    · split at hs
      · cases hsl : isSliceK (K.ti _).k with
        | false => rw [hsl] at hs; cases hs
        | true =>
          rw [hsl] at hs
          simp only [Bool.not_true, cond_false] at hs
          obtain ⟨a, _, h2⟩ := map_ok hs; cases h2; omega
      · cases hs
    · split at hs
      · obtain ⟨a, _, h2⟩ := map_ok hs; cases h2; omega
      · cases hs
    · cases hi : (isoOf K (ev K σ.t _) == 0) with
      | true => rw [hi, cond_true] at hs; obtain ⟨a, _, h2⟩ := map_ok hs; cases h2; omega
      | false => rw [hi, cond_false] at hs; obtain ⟨a, _, h2⟩ := map_ok hs; cases h2; omega
    · split at hs <;> cases hs
      omega
  · split at hs
    · rename_i v hq
      have h1 := congrArg (fun t => match t with | ND.ok (c, _) => c | _ => 0) hs
      simp only at h1
      cases hp : pureOp o.op <;> rw [hp] at h1 <;> simp at h1 <;> omega
    · cases hs; omega
    · cases hs
theorem stepT_le {cf : CallF} {ops : Array Oper} {o : Oper} {σ σ' : Fr} {c : Nat} (hs : StepT K cf ops o σ c σ') : c ≤ 3 := by
  rcases hs with ⟨_, hs⟩ | ⟨_, rfl, _⟩
  · unfold runOp at hs
    split at hs
    · exact class_le hs
    · obtain ⟨a, _, h2⟩ := map_ok hs
      cases h2
      omega
  · omega
theorem shape1 {cf : CallF} {ops : Array Oper} {o : Oper} {σ σ' : Fr} {c : Nat} (F : Fits K P) (hcf : CallOK K P cf) (hs : StepT K cf ops o σ c σ') (hc : c ≤ 1) :
    ∃ v l, σ' = { σ with t := putT σ.t o.dst v, h := σ.h ++ l } := by
  rcases hs with ⟨_, hs⟩ | ⟨_, rfl, rfl⟩
  · obtain ⟨v, ob, h1, _⟩ := draw_quiet (Z := fun _ => False) F hcf (run_step hs (by omega)) hc
    exact ⟨v, _, h1⟩
  · exact ⟨.tup [], [], by simp⟩
theorem shape2 {cf : CallF} {ops : Array Oper} {o : Oper} {σ σ' : Fr} {c : Nat} (F : Fits K P) (hcf : CallOK K P cf) (hs : StepT K cf ops o σ c σ') (hc : c ≤ 2) :
    ∃ v h', σ' = { σ with t := putT σ.t o.dst v, h := h' } := by
  by_cases h1 : c ≤ 1
  · obtain ⟨v, l, h⟩ := shape1 F hcf hs h1; exact ⟨v, _, h⟩
  · have : c = 2 := by omega
    subst this
    rcases hs with ⟨_, hs⟩ | ⟨_, h0, _⟩
    · obtain ⟨v, h', h1, _⟩ := draw_loud (Z := fun _ => False) F (run_step hs (by omega))
      exact ⟨v, h', h1⟩
    · cases h0
theorem Inv.more (H : Inv K Z I J ρ h w) (l : Heap) (hf : ∀ b, h.length ≤ b → ρ b = none) : Inv K Z I J ρ (h ++ l) w := by
  have old : ∀ {b : Nat} {L : Loc} {x : Blk}, ρ b = some L → live (h ++ l) b x → live h b x := by
    intro b L x hb hx
    have hlt : b < h.length := by
      rcases Nat.lt_or_ge b h.length with h1 | h1
      · exact h1
      · rw [hf b h1] at hb; cases hb
    unfold live at hx ⊢
    rwa [List.getElem?_append_left hlt] at hx
  refine ⟨fun b R base len x hb hx => H.rel b R base len x hb (old hb hx), fun b R base len x hb hx => H.own b R base len x hb (old hb hx), fun b b' R base len base' len' x x' h1 h2 h3 h4 => H.inj b b' R base len base' len' x x' h1 h2 (old h1 h3) (old h2 h4), fun b x hb hx => H.virt b x hb (old hb hx), H.zlt, H.ilt, H.jlt, ?_⟩
  intro i Ri bi li b ks vs last R base len hri hi hb
  rcases H.iters i Ri bi li b ks vs last R base len hri (old hri hi) hb with h1 | ⟨pu, kt, ks', vs', h1⟩
  · exact .inl h1
  · exact .inr ⟨pu, kt, ks', vs', live_append h1⟩
theorem Step.more {I₀ : CellP} {J₀ : Nat → Prop} {ρ₀ : Env} {h₀ : Heap} {w₀ : World} (s : Step K Z I₀ J₀ ρ₀ h₀ w₀ I J ρ h w) (l : Heap) : Step K Z I₀ J₀ ρ₀ h₀ w₀ I J ρ (h ++ l) w :=
  ⟨s.inv.more l s.fresh, s.chg, s.i, s.j, s.inew, s.jnew, s.stab.trans (Stab.append l (fun _ _ => rfl)), fun b hb => s.fresh b (by simp at hb; omega)⟩
structure DI (K : Ctx) (Z : Nat → Prop) (ops : Array Oper) (cl : Nat → Nat) (τ : Nat → Fr) (σ : Fr) (I₀ : CellP) (J₀ : Nat → Prop) (ρ₀ : Env) (w₀ : World) (a₀ : Act) (S : Nat → Prop) (m k m' : Nat)
    (I : CellP) (J : Nat → Prop) (ρ : Env) (w : World) (a : Act) : Prop where
  mlk : m ≤ k
  km : k ≤ m'
  mn : m' ≤ ops.size
  low : ∀ j, j < m → S j
  cls : ∀ j, m ≤ j → j < m' → cl j ≤ 2
  top : m' < ops.size → ¬ S m' ∧ cl m' = 3
  done : ∀ j, m ≤ j → j < k → 2 ≤ cl j → S j
  nxt : k < m' → ¬ S k ∧ 2 ≤ cl k
  unl : ∀ j, m ≤ j → j < k → ¬ S j → (τ j).h.length < (τ (j + 1)).h.length → ρ (τ j).h.length = none ∧ σ.h.length ≤ (τ j).h.length
  slots : ∀ d p, m ≤ p → p ≤ m' → (∀ j o, m ≤ j → j < m' → ops[j]? = some o → o.dst = some d → (S j ↔ j < p)) → ∀ v V, (τ p).t[d]? = some v → a.tmps[d]? = some V → VR K I J w ρ v V
  size : ∀ p, m ≤ p → p ≤ m' → (τ p).t.length = a.tmps.size
  fn : ∀ p, m ≤ p → p ≤ m' → (τ p).fn = σ.fn
  step : Step K Z I₀ J₀ ρ₀ σ.h w₀ I J ρ (τ k).h w
  defers : a.defers = a₀.defers
section
variable {cf : CallF} {ops : Array Oper} {cl : Nat → Nat} {τ : Nat → Fr}
theorem grow (F : Fits K P) (hcf : CallOK K P cf) (hτ : ∀ i o, ops[i]? = some o → StepT K cf ops o (τ i) (cl i) (τ (i + 1))) {i : Nat} : ∀ (k : Nat), i ≤ k → k ≤ ops.size → (∀ j, i ≤ j → j < k → cl j ≤ 1) → ∃ l, (τ k).h = (τ i).h ++ l
  | 0, hik, hk, hc => by have : i = 0 := by omega
                         subst this; exact ⟨[], by simp⟩
  | k + 1, hik, hk, hc => by
    by_cases e : i = k + 1
    · subst e; exact ⟨[], by simp⟩
    · obtain ⟨l, hl⟩ := grow F hcf hτ k (by omega) (by omega) (fun j h1 h2 => hc j h1 (by omega))
      obtain ⟨v, l', h'⟩ := shape1 F hcf (hτ k ops[k] (by simp [show k < ops.size by omega])) (hc k (by omega) (by omega))
      exact ⟨l ++ l', by rw [h', ← List.append_assoc, ← hl]⟩
theorem kept (F : Fits K P) (hcf : CallOK K P cf) (hτ : ∀ i o, ops[i]? = some o → StepT K cf ops o (τ i) (cl i) (τ (i + 1))) {i : Nat} : ∀ (k : Nat), i ≤ k → k ≤ ops.size → (∀ j, i ≤ j → j < k → cl j ≤ 2) →
    (τ k).t.length = (τ i).t.length ∧ (τ k).fn = (τ i).fn ∧ ∀ d, (∀ j o, i ≤ j → j < k → ops[j]? = some o → o.dst ≠ some d) → (τ k).t[d]? = (τ i).t[d]?
  | 0, hik, hk, hc => by have : i = 0 := by omega
                         subst this; exact ⟨rfl, rfl, fun _ _ => rfl⟩
  | k + 1, hik, hk, hc => by
    by_cases e : i = k + 1
    · subst e; exact ⟨rfl, rfl, fun _ _ => rfl⟩
    · obtain ⟨h1, h2, h3⟩ := kept F hcf hτ k (by omega) (by omega) (fun j h1 h2 => hc j h1 (by omega))
      have ho : ops[k]? = some ops[k] := by simp [show k < ops.size by omega]
      obtain ⟨v, l', h'⟩ := shape2 F hcf (hτ k ops[k] ho) (hc k (by omega) (by omega))
      refine ⟨by rw [h']; simp [putT_len, h1], by rw [h']; exact h2, fun d hd => ?_⟩
      rw [h']
      simp only
      rw [putT_ne (hd k _ (by omega) (by omega) ho)]
      exact h3 d (fun j o g1 g2 => hd j o g1 (by omega))
end
end
end Go.LH


set_option linter.unusedVariables false
set_option linter.unusedSimpArgs false
namespace Go.LH
open Region
section
variable {K : Ctx} {P : Program} {Z : Nat → Prop} {I I' : CellP} {J J' : Nat → Prop} {w w' : World} {ρ ρ' : Env} {h h' : Heap}
variable {cf : CallF} {ops : Array Oper} {cl : Nat → Nat} {τ : Nat → Fr} {σ : Fr} {I₀ : CellP} {J₀ : Nat → Prop} {ρ₀ : Env} {w₀ : World} {a₀ a : Act} {S : Nat → Prop} {m k m' : Nat}
theorem earlier (hck : Checked ops cl) (hS : Closed ops S) {i j : Nat} {x y : Oper} (hij : i < j) (hx : ops[i]? = some x) (hy : ops[j]? = some y)
    (hc : slotClash ops x y = true ∨ clClash (cl i) (cl j) = true) (hw : S j ∨ Waits ops S j) : S i := by
  refine before_in hS (hck.clash i j x y hij hx hy (by rcases hc with h | h <;> simp [h])) ?_
  rcases hw with h | h
  · exact hS j h
  · exact h
theorem op_at {i : Nat} (h : i < ops.size) : ops[i]? = some ops[i] := by simp [h]
theorem DI.turn (D : DI K Z ops cl τ σ I₀ J₀ ρ₀ w₀ a₀ S m k m' I J ρ w a) (hck : Checked ops cl) (hS : Closed ops S) {i : Nat} (hi : i < ops.size) (hn : ¬ S i) (hw : Waits ops S i) : m ≤ i ∧ i ≤ m' := by
  refine ⟨Nat.le_of_not_lt fun h => hn (D.low i h), Nat.le_of_not_lt fun h => ?_⟩
  have := D.top (by omega)
  refine this.1 (earlier hck hS h (op_at (by omega)) (op_at hi) (.inr ?_) (.inr hw))
  simp [clClash, this.2]
theorem DI.behind (D : DI K Z ops cl τ σ I₀ J₀ ρ₀ w₀ a₀ S m k m' I J ρ w a) (hck : Checked ops cl) (hS : Closed ops S) {j : Nat} (hj : S j) (hlt : j < ops.size) : j < m' := by
  rcases Nat.lt_or_ge j m' with h | h
  · exact h
  · have ht := D.top (by omega)
    rcases Nat.eq_or_lt_of_le h with e | h
    · subst e; exact absurd hj ht.1
    · exact absurd (earlier hck hS h (op_at (by omega)) (op_at hlt) (.inr (by simp [clClash, ht.2])) (.inl hj)) ht.1
theorem DI.reads (D : DI K Z ops cl τ σ I₀ J₀ ρ₀ w₀ a₀ S m k m' I J ρ w a) (hck : Checked ops cl) (hS : Closed ops S) {i : Nat} {o : Oper} (ho : ops[i]? = some o) (hn : ¬ S i) (hw : Waits ops S i) (hge : m ≤ i) (hle : i ≤ m') :
    TmpsR K I J w ρ (mask (readsOf ops o) (τ i).t) a.tmps := by
  refine ⟨by rw [mask_len]; exact D.size i hge hle, fun d v V hv hV => ?_⟩
  rw [mask_get] at hv
  cases hd : (readsOf ops o).contains d with
  | false =>
    rw [hd] at hv
    cases ht : (τ i).t[d]? with
    | none => rw [ht] at hv; cases hv
    | some u => rw [ht] at hv; cases hv; exact .un _ _
  | true =>
    rw [hd] at hv
    have hv' : (τ i).t[d]? = some v := by
      cases ht : (τ i).t[d]? with
      | none => rw [ht] at hv; cases hv
      | some u => rw [ht] at hv; exact hv
    refine D.slots d i hge hle (fun j x hj1 hj2 hx hdst => ?_) v V hv' hV
    rcases Nat.lt_trichotomy j i with h | h | h
    · exact ⟨fun _ => h, fun _ => earlier hck hS h hx ho (.inl (by simp only [slotClash, hdst]; rw [hd]; simp)) (.inr hw)⟩
    · subst h; exact ⟨fun h => absurd h hn, fun h => absurd h (by omega)⟩
    · refine ⟨fun hs => absurd (earlier hck hS h ho hx (.inl ?_) (.inl hs)) hn, fun h' => absurd h' (by omega)⟩
      simp only [slotClash, hdst]
      rw [hd, Bool.or_true]
theorem DI.slots' (D : DI K Z ops cl τ σ I₀ J₀ ρ₀ w₀ a₀ S m k m' I J ρ w a) (F : Fits K P) (hcf : CallOK K P cf) (hτ : ∀ i o, ops[i]? = some o → StepT K cf ops o (τ i) (cl i) (τ (i + 1)))
    (hck : Checked ops cl) (hS : Closed ops S) {i : Nat} {o : Oper} (ho : ops[i]? = some o) (hn : ¬ S i) (hge : m ≤ i) (hlt : i < m') {v : LV} {V : Value}
    (hsh : (τ (i + 1)).t = putT (τ i).t o.dst v) (tr : ∀ u U, VR K I J w ρ u U → VR K I' J' w' ρ' u U) (hv : VR K I' J' w' ρ' v V) :
    ∀ d p, m ≤ p → p ≤ m' → (∀ j x, m ≤ j → j < m' → ops[j]? = some x → x.dst = some d → ((S j ∨ j = i) ↔ j < p)) → ∀ u U, (τ p).t[d]? = some u → (a.put o.dst V).tmps[d]? = some U → VR K I' J' w' ρ' u U := by
  intro d p hp1 hp2 hwr u U hu hU
  by_cases hd : o.dst = some d
  · have hip : i < p := (hwr i o hge hlt ho hd).1 (.inr rfl)
    have hk := (kept F hcf hτ p (Nat.succ_le_of_lt hip) (Nat.le_trans hp2 D.mn) (fun j h1 h2 => D.cls j (by omega) (by omega))).2.2 d (fun j x h1 h2 hx hxd => ?_)
    · rw [hk, hsh, hd] at hu
      simp only [putT] at hu
      rw [hd] at hU
      simp only [Act.put] at hU
      rw [List.getElem?_set] at hu
      rw [if_pos rfl] at hu
      split at hu
      · cases hu
        have hl : d < a.tmps.size := by rw [← D.size i hge (by omega)]; assumption
        rw [Array.getElem?_setIfInBounds_self_of_lt hl] at hU
        cases hU
        exact hv
      · cases hu
    · have hj := (hwr j x (by omega) (by omega) hx hxd).2 h2
      rcases hj with hj | hj
      · refine hn (earlier hck hS (show i < j by omega) ho hx (.inl ?_) (.inl hj))
        simp only [slotClash, hd, hxd]
        simp
      · omega
  · refine tr _ _ (D.slots d p hp1 hp2 (fun j x h1 h2 hx hxd => ?_) u U hu ?_)
    · rw [← hwr j x h1 h2 hx hxd]
      exact ⟨fun h => .inl h, fun h => h.resolve_right (fun e => by subst e; rw [hx] at ho; cases ho; exact hd hxd)⟩
    · rw [← hU]
      cases hod : o.dst with
      | none => rfl
      | some e => simp only [Act.put]; rw [Array.getElem?_setIfInBounds_ne (fun e' => hd (by rw [hod, e']))]
theorem put_size (a : Act) (d : Option Nat) (V : Value) : (a.put d V).tmps.size = a.tmps.size := by cases d <;> simp [Act.put]
theorem DI.skip (D : DI K Z ops cl τ σ I₀ J₀ ρ₀ w₀ a₀ S m k m' I J ρ w a) (F : Fits K P) (hcf : CallOK K P cf) (hτ : ∀ i o, ops[i]? = some o → StepT K cf ops o (τ i) (cl i) (τ (i + 1)))
    (hck : Checked ops cl) (hS : Closed ops S) {i : Nat} {o : Oper} (ho : ops[i]? = some o) (hn : ¬ S i) (hge : m ≤ i) (hlt : i < m') (hc : cl i = 0)
    (hsh : (τ (i + 1)).t = putT (τ i).t o.dst (.tup [])) : DI K Z ops cl τ σ I₀ J₀ ρ₀ w₀ a₀ (fun j => S j ∨ j = i) m k m' I J ρ w (a.put o.dst undef) where
  mlk := D.mlk
  km := D.km
  mn := D.mn
  low := fun j hj => .inl (D.low j hj)
  cls := D.cls
  top := fun h => ⟨fun h' => h'.elim (D.top h).1 (fun e => by omega), (D.top h).2⟩
  done := fun j h1 h2 h3 => .inl (D.done j h1 h2 h3)
  nxt := fun h => ⟨fun h' => h'.elim (D.nxt h).1 (fun e => by subst e; have := (D.nxt h).2; omega), (D.nxt h).2⟩
  unl := fun j h1 h2 h3 h4 => D.unl j h1 h2 (fun h => h3 (.inl h)) h4
  slots := D.slots' F hcf hτ hck hS ho hn hge hlt hsh (fun _ _ h => h) undef_rel
  size := fun p h1 h2 => by rw [put_size]; exact D.size p h1 h2
  fn := D.fn
  step := D.step
  defers := by rw [put_defers]; exact D.defers
end
end Go.LH


set_option linter.unusedVariables false
set_option linter.unusedSimpArgs false
namespace Go.LH
open Region
section
variable {K : Ctx} {P : Program} {Z : Nat → Prop} {I I' : CellP} {J J' : Nat → Prop} {w w' : World} {ρ ρ' : Env} {h h' : Heap}
variable {cf : CallF} {ops : Array Oper} {cl : Nat → Nat} {τ : Nat → Fr} {σ : Fr} {I₀ : CellP} {J₀ : Nat → Prop} {ρ₀ : Env} {w₀ : World} {a₀ a : Act} {S : Nat → Prop} {m k m' : Nat}
theorem DI.calmTo (D : DI K Z ops cl τ σ I₀ J₀ ρ₀ w₀ a₀ S m k m' I J ρ w a) (hck : Checked ops cl) (hS : Closed ops S) {i : Nat} (hn : ¬ S i) (hge : m ≤ i) (hc : 1 ≤ cl i) : ∀ j, i < j → j < k → cl j ≤ 1 := by
  intro j hij hjk
  refine Nat.le_of_not_lt fun h => hn ?_
  have hkm := D.km
  have hmn := D.mn
  refine earlier hck hS hij (op_at (by omega)) (op_at (by omega)) (.inr ?_) (.inl (D.done j (by omega) hjk h))
  have h1 := D.cls j (by omega) (by omega)
  have h2 : cl j = 2 := by omega
  simp [clClash, h2, hc]
theorem DI.below (D : DI K Z ops cl τ σ I₀ J₀ ρ₀ w₀ a₀ S m k m' I J ρ w a) (hck : Checked ops cl) (hS : Closed ops S) {i : Nat} (hn : ¬ S i) (hw : Waits ops S i) (hlt : i < m') (hc : 1 ≤ cl i) : i ≤ k := by
  have hmn := D.mn
  refine Nat.le_of_not_lt fun h => ?_
  have h1 := D.nxt (by omega)
  refine h1.1 (earlier hck hS h (op_at (by omega)) (op_at (by omega)) (.inr ?_) (.inr hw))
  have h2 := D.cls k D.mlk (by omega)
  have h3 : cl k = 2 := by omega
  simp [clClash, h3, hc]
theorem lays_step {x : Blk} {R len id : Nat} (s : Step K Z I₀ J₀ ρ₀ h' w₀ I J ρ h w) (L : Lays I I' J J' w w') (hid : ρ id = none) (hlo : h'.length ≤ id) (hlive : live h id x)
    (h1 : w.heap.size ≤ R) (h2 : R < w'.heap.size) (h3 : ∀ o, ¬ I' R o) (h4 : ¬ J' R) (h6 : BlkRel K I' J' w' (upd ρ id (.at R 0 len)) R 0 len x)
    (h7 : ∀ m, x.iterOf = some m → ∃ pu kt ks vs, live h m (.map pu kt ks vs)) : Step K Z I₀ J₀ ρ₀ h' w₀ I' J' (upd ρ id (.at R 0 len)) h w' := by
  have H := s.inv
  have hzn : ∀ {R}, w.heap.size ≤ R → ¬ Z R := fun h1 h2 => absurd (H.zlt _ h2) (by omega)
  have hI : ∀ R o, I' R o → I R o ∨ ¬ Z R := fun R o h1 => (L.inew R o h1).imp (fun x => x) (fun x => hzn x.1)
  have hJ : ∀ R, J' R → J R ∨ ¬ Z R := fun R h1 => (L.jnew R h1).imp (fun x => x) (fun x => hzn x.1)
  have hlt : id < h.length := live_lt hlive
  refine ⟨?_, s.chg.trans (Chg.of_ext L.ext H.zlt) s.i s.j, fun R o h => L.i R o (s.i R o h), fun R h => L.j R (s.j R h), ?_, ?_, ⟨s.stab.len, s.stab.le, fun b hb => by rw [upd_ne (by omega)]; exact s.stab.env b hb⟩, fun b hb => by rw [upd_ne (by omega)]; exact s.fresh b hb⟩
  · refine (H.lays L).new hid hlive (fun b' y hne hy => hy) (fun b' y hy => .inl hy) h2 (hzn h1) h3 h4 (fun b' base len y g1 g2 => ?_) h6 (fun m hm M base len hM => .inr (h7 m hm))
    exact absurd (H.own _ _ _ _ _ g1 g2).2.2.2 (by omega)
  · exact fun R o h => (hI R o h).elim (fun h => s.inew R o h) .inr
  · exact fun R h => (hJ R h).elim (fun h => s.jnew R h) .inr
theorem DI.quiet (D : DI K Z ops cl τ σ I₀ J₀ ρ₀ w₀ a₀ S m k m' I J ρ w a) (F : Fits K P) (hcf : CallOK K P cf) (hτ : ∀ i o, ops[i]? = some o → StepT K cf ops o (τ i) (cl i) (τ (i + 1)))
    (hck : Checked ops cl) (hS : Closed ops S) (hg : GlobR K I₀ J₀ w₀) {i : Nat} {o : Oper} (ho : ops[i]? = some o) (hn : ¬ S i) (hw : Waits ops S i) (hge : m ≤ i) (hlt : i < m') (hc : cl i ≤ 1)
    (hrun : opStep K cf o (τ i) = .ok (cl i, τ (i + 1))) {ro : Option Nat} {next : Act → World → Prop} {Qx : Exit → Act → World → Prop}
    (hnext : ∀ I' J' ρ' a' w', DI K Z ops cl τ σ I₀ J₀ ρ₀ w₀ a₀ (fun j => S j ∨ j = i) m k m' I' J' ρ' w' a' → next a' w') : o.wpIn (FR ro) 0 P a w next Qx := by
  obtain ⟨v, ob, hsh, hc0, hq⟩ := draw_quiet (Z := Z) F hcf hrun hc
  have hmn := D.mn
  have hkm := D.km
  have hin : i < ops.size := by omega
  have hT := D.reads hck hS ho hn hw hge (by omega)
  have hgl := D.step.glob hg
  have hk1 : cl i = 1 → i < k := fun h1 => by
    have := D.below hck hS hn hw hlt (by omega)
    rcases Nat.eq_or_lt_of_le this with e | h
    · have := (D.nxt (by omega)).2; rw [← e] at this; omega
    · exact h
  have gr : cl i = 1 → ∃ l, (τ k).h = (τ (i + 1)).h ++ l := fun h1 => by
    have hik := hk1 h1
    have hcalm := D.calmTo hck hS hn hge (by omega)
    exact grow F hcf hτ k (by omega) (by omega) (fun j h2 h3 => hcalm j (by omega) h3)
  have hcl1 : ob ≠ none → cl i = 1 := fun h1 => by
    rcases Nat.lt_or_ge (cl i) 1 with h2 | h2
    · exact absurd (hc0 (by omega)) h1
    · omega
  have hlen : ob ≠ none → (τ i).h.length < (τ (i + 1)).h.length := fun h1 => by
    cases ob with
    | none => exact absurd rfl h1
    | some x => rw [hsh]; simp
  have hun : ob ≠ none → ρ (τ i).h.length = none ∧ σ.h.length ≤ (τ i).h.length := fun h1 => D.unl i hge (hk1 (hcl1 h1)) hn (hlen h1)
  have fin : ∀ {I' : CellP} {J' : Nat → Prop} {ρ' : Env} {w' : World} {V : Value}, Step K Z I₀ J₀ ρ₀ σ.h w₀ I' J' ρ' (τ k).h w' → (∀ u U, VR K I J w ρ u U → VR K I' J' w' ρ' u U) → VR K I' J' w' ρ' v V →
      (∀ b, ob = none ∨ b ≠ (τ i).h.length → ρ' b = ρ b) → next (a.put o.dst V) w' := by
    intro I' J' ρ' w' V s tr hv hup
    refine hnext I' J' ρ' _ _ ⟨D.mlk, D.km, D.mn, fun j hj => .inl (D.low j hj), D.cls, fun h => ⟨fun h' => h'.elim (D.top h).1 (fun e => by omega), (D.top h).2⟩,
      fun j h1 h2 h3 => .inl (D.done j h1 h2 h3), fun h => ⟨fun h' => h'.elim (D.nxt h).1 (fun e => by have := (D.nxt h).2; rw [e] at this; omega), (D.nxt h).2⟩, ?_,
      D.slots' F hcf hτ hck hS ho hn hge hlt (by rw [hsh]) tr hv, fun p h1 h2 => by rw [put_size]; exact D.size p h1 h2, D.fn, s, by rw [put_defers]; exact D.defers⟩
    intro j h1 h2 h3 h4
    have hnj : ¬ S j := fun h => h3 (.inl h)
    have hji : j ≠ i := fun h => h3 (.inr h)
    obtain ⟨g1, g2⟩ := D.unl j h1 h2 hnj h4
    refine ⟨?_, g2⟩
    rw [hup _ ?_]
    · exact g1
    cases hob : ob with
    | none => exact .inl rfl
    | some x =>
      have hne : ob ≠ none := by rw [hob]; simp
      have hl := hlen hne
      have h1i := hcl1 hne
      refine .inr fun e => ?_
      have hoj : ops[j]? = some ops[j] := op_at (by omega)
      have hjc : 1 ≤ cl j := by
        refine Nat.le_of_not_lt fun h => ?_
        obtain ⟨v', l', hsj⟩ := shape1 F hcf (hτ j _ hoj) (by omega)
        rcases hτ j _ hoj with ⟨_, hr⟩ | ⟨_, _, hr⟩
        · obtain ⟨v2, ob2, hs2, hc2, _⟩ := draw_quiet (Z := Z) F hcf (run_step hr (by omega)) (by omega)
          have := hc2 (by omega)
          subst this
          rw [hs2] at h4
          simp at h4
        · rw [hr] at h4; simp at h4
      rcases Nat.lt_or_gt_of_ne hji with h | h
      · obtain ⟨l, hl2⟩ := grow F hcf hτ (i := j + 1) i (by omega) (by omega) (fun q h5 h6 => D.calmTo hck hS hnj h1 hjc q (by omega) (by have := hk1 h1i; omega))
        have := congrArg List.length hl2
        simp only [List.length_append] at this
        omega
      · obtain ⟨l, hl2⟩ := grow F hcf hτ (i := i + 1) j (by omega) (by omega) (fun q h5 h6 => D.calmTo hck hS hn hge (by omega) q (by omega) (by omega))
        have := congrArg List.length hl2
        simp at this
        omega
  refine hq (hk := (τ k).h) ?_ D.step.inv D.step.fresh hgl (fun x hx => ?_) (fun h1 => (hun h1).1) (fun V w' q => ?_)
  · rcases Nat.lt_or_ge (cl i) 1 with h1 | h1
    · exact .inl (by omega)
    · obtain ⟨l, hl⟩ := gr (by omega)
      right
      rw [hl, hsh]
      simp only [List.append_assoc]
      exact HLe.append _ _
  · rw [← ev_mask (ops := ops) hx]
    exact ev_rel hgl hT x
  · obtain ⟨I', J', L, hq2⟩ := q
    cases ob with
    | none =>
      refine fin ?_ (fun u U hu => hu.lays L) hq2 (fun b _ => rfl)
      have H := D.step.inv
      have hzn : ∀ {R}, w.heap.size ≤ R → ¬ Z R := fun h1 h2 => absurd (H.zlt _ h2) (by omega)
      have s2 : Step K Z I J ρ (τ k).h w I' J' ρ (τ k).h w' := ⟨H.lays L, Chg.of_ext L.ext H.zlt, L.i, L.j, fun R o h1 => (L.inew R o h1).imp (fun x => x) (fun x => hzn x.1), fun R h1 => (L.jnew R h1).imp (fun x => x) (fun x => hzn x.1), Stab.refl _ _, D.step.fresh⟩
      exact D.step.trans s2
    | some x =>
      obtain ⟨R, len, h1, h2, h3, h4, h5, h6, h7⟩ := hq2
      have hne : some x ≠ none := by simp
      obtain ⟨l, hl⟩ := gr (hcl1 hne)
      have hlive : live (τ k).h (τ i).h.length x := by
        rw [hl, hsh]
        simp only [Option.map_some, Option.toList_some]
        exact live_append live_append_new
      exact fin (lays_step D.step L (hun hne).1 (hun hne).2 hlive h1 h2 h3 h4 h6 h7) (fun u U hu => hu.lay L (hun hne).1) h5 (fun b hb => hb.elim (fun h => by cases h) (fun h => upd_ne h))
theorem DI.loud (D : DI K Z ops cl τ σ I₀ J₀ ρ₀ w₀ a₀ S m k m' I J ρ w a) (F : Fits K P) (hcf : CallOK K P cf) (hτ : ∀ i o, ops[i]? = some o → StepT K cf ops o (τ i) (cl i) (τ (i + 1)))
    (hck : Checked ops cl) (hS : Closed ops S) (hg : GlobR K I₀ J₀ w₀) {i : Nat} {o : Oper} (ho : ops[i]? = some o) (hn : ¬ S i) (hw : Waits ops S i) (hge : m ≤ i) (hlt : i < m') (hc : cl i = 2)
    (hrun : opStep K cf o (τ i) = .ok (2, τ (i + 1))) {ro : Option Nat} {next : Act → World → Prop} {Qx : Exit → Act → World → Prop}
    (hnext : ∀ k' I' J' ρ' a' w', DI K Z ops cl τ σ I₀ J₀ ρ₀ w₀ a₀ (fun j => S j ∨ j = i) m k' m' I' J' ρ' w' a' → next a' w') : o.wpIn (FR ro) 0 P a w next Qx := by
  have hmn := D.mn
  have hkm := D.km
  have hmk := D.mlk
  have hin : i < ops.size := by omega
  have hT := D.reads hck hS ho hn hw hge (by omega)
  have hgl := D.step.glob hg
  have hik : i = k := by
    have h1 := D.below hck hS hn hw hlt (by omega)
    rcases Nat.eq_or_lt_of_le h1 with e | h
    · exact e
    · exact absurd (D.done i hge h (by omega)) hn
  subst hik
  obtain ⟨v, h', hsh, hq⟩ := draw_loud (Z := Z) F hrun
  refine hq D.step.inv hgl (fun x hx => ?_) (fun V w' g1 g2 g3 g4 g5 => ?_)
  · rw [← ev_mask (ops := ops) hx]
    exact ev_rel hgl hT x
  obtain ⟨k2, e1, e2, e3, e4⟩ := first_from (fun j => 2 ≤ cl j) m' _ (i + 1) rfl (by omega)
  have hh : (τ (i + 1)).h = h' := by rw [hsh]
  have s1 : Step K Z I₀ J₀ ρ₀ σ.h w₀ I J ρ h' w' := D.step.trans (Step.of_same g1 g2 g3 g4 D.step.fresh)
  have gk : ∀ j, i + 1 ≤ j → j ≤ k2 → ∃ l, (τ j).h = h' ++ l := fun j h1 h2 => by
    obtain ⟨l, hl⟩ := grow F hcf hτ (i := i + 1) j h1 (by omega) (fun q h5 h6 => by have := e3 q h5 (by omega); omega)
    exact ⟨l, by rw [hl, hh]⟩
  obtain ⟨l, hl⟩ := gk k2 e1 (Nat.le_refl _)
  have s2 : Step K Z I₀ J₀ ρ₀ σ.h w₀ I J ρ (τ k2).h w' := by rw [hl]; exact s1.more l
  have tr : ∀ u U, VR K I J w ρ u U → VR K I J w' ρ u U := fun u U hu => hu.mono (fun _ _ h => h) (fun _ h => h) g2.keep (fun _ _ => rfl)
  refine hnext k2 I J ρ _ _ ⟨by omega, e2, D.mn, fun j hj => .inl (D.low j hj), D.cls, fun h => ⟨fun h' => h'.elim (D.top h).1 (fun e => by omega), (D.top h).2⟩, ?_, ?_, ?_,
    D.slots' F hcf hτ hck hS ho hn hge hlt (by rw [hsh]) tr g5, fun p h1 h2 => by rw [put_size]; exact D.size p h1 h2, D.fn, s2, by rw [put_defers]; exact D.defers⟩
  · intro j h1 h2 h3
    rcases Nat.lt_trichotomy j i with h | h | h
    · exact .inl (D.done j h1 h h3)
    · exact .inr h
    · exact absurd h3 (e3 j (by omega) h2)
  · intro h
    have h2 := e4 h
    refine ⟨fun h3 => ?_, h2⟩
    rcases h3 with h3 | h3
    · refine hn (earlier hck hS (show i < k2 by omega) ho (op_at (by omega)) (.inr ?_) (.inl h3))
      have h4 := D.cls k2 (by omega) h
      have h5 : cl k2 = 2 := by omega
      simp [clClash, h5, hc]
    · omega
  · intro j h1 h2 h3 h4
    have hnj : ¬ S j := fun h => h3 (.inl h)
    have hji : j ≠ i := fun h => h3 (.inr h)
    rcases Nat.lt_or_gt_of_ne hji with h | h
    · exfalso
      have hoj : ops[j]? = some ops[j] := op_at (by omega)
      have hj2 : cl j ≤ 1 := Nat.le_of_not_lt fun h5 => hnj (D.done j h1 h h5)
      have hjc : 1 ≤ cl j := by
        refine Nat.le_of_not_lt fun h => ?_
        rcases hτ j _ hoj with ⟨_, hr⟩ | ⟨_, _, hr⟩
        · obtain ⟨v2, ob2, hs2, hc2, _⟩ := draw_quiet (Z := Z) F hcf (run_step hr (by omega)) (by omega)
          have := hc2 (by omega)
          subst this
          rw [hs2] at h4
          simp at h4
        · rw [hr] at h4; simp at h4
      refine hnj (earlier hck hS h hoj ho (.inr ?_) (.inr hw))
      simp [clClash, hc, hjc]
    · obtain ⟨l', hl'⟩ := gk j (by omega) (by omega)
      have h5 : h'.length ≤ (τ j).h.length := by rw [hl']; simp
      exact ⟨s1.fresh _ h5, Nat.le_trans s1.stab.len h5⟩
theorem DI.over (D : DI K Z ops cl τ σ I₀ J₀ ρ₀ w₀ a₀ S m k m' I J ρ w a) (F : Fits K P) (hcf : CallOK K P cf) (hτ : ∀ i o, ops[i]? = some o → StepT K cf ops o (τ i) (cl i) (τ (i + 1)))
    (hck : Checked ops cl) (hS : Closed ops S) (hlS : ∀ j, S j → j < ops.size) (hg : GlobR K I₀ J₀ w₀) {o : Oper} (ho : ops[m']? = some o) (hw : Waits ops S m') (hlt : m' < ops.size)
    (hrun : runOp K cf o (τ m') = .ok (3, τ (m' + 1))) {ro : Option Nat} {next : Act → World → Prop} {Qx : Exit → Act → World → Prop}
    (hnext : ∀ m₂ k₂ m₂' I' J' ρ' a' w', DI K Z ops cl τ σ I₀ J₀ ρ₀ w₀ a₀ (fun j => S j ∨ j = m') m₂ k₂ m₂' I' J' ρ' w' a' → next a' w') : o.wpIn (FR ro) 0 P a w next Qx := by
  have hmk := D.mlk
  have hkm := D.km
  have hn := (D.top hlt).1
  have h3 := (D.top hlt).2
  have hall : ∀ j, j < m' → S j := fun j hj => earlier hck hS hj (op_at (by omega)) ho (.inr (by simp [clClash, h3])) (.inr hw)
  have hk : k = m' := by
    rcases Nat.eq_or_lt_of_le D.km with e | h
    · exact e
    · exact absurd (hall k h) (D.nxt h).1
  subst hk
  have hT : TmpsR K I J w ρ (τ k).t a.tmps := ⟨D.size k hmk (Nat.le_refl _), fun d v V hv hV => D.slots d k hmk (Nat.le_refl _) (fun j x h1 h2 _ _ => ⟨fun _ => h2, fun _ => hall j h2⟩) v V hv hV⟩
  refine run_sound (Qs := fun x => x = (3, τ (k + 1))) F hcf (by rw [hrun]; rfl) ⟨D.step.inv, hT, D.step.fresh⟩ (D.step.glob hg) (fun c σ' a' w' hQ hO => ?_)
  cases hQ
  obtain ⟨I', J', ρ', s, t, hd, hf⟩ := hO
  have s1 := D.step.trans s
  obtain ⟨m2, b1, b2, b3, b4⟩ := first_from (fun j => ¬ cl j ≤ 2) ops.size _ (k + 1) rfl (by omega)
  obtain ⟨k2, e1, e2, e3, e4⟩ := first_from (fun j => 2 ≤ cl j) m2 _ (k + 1) rfl b1
  have gk : ∀ j, k + 1 ≤ j → j ≤ k2 → ∃ l, (τ j).h = (τ (k + 1)).h ++ l := fun j h1 h2 => grow F hcf hτ (i := k + 1) j h1 (by omega) (fun q h5 h6 => by have := e3 q h5 (by omega); omega)
  obtain ⟨l, hl⟩ := gk k2 e1 (Nat.le_refl _)
  have hnS : ∀ j, k < j → ¬ (S j ∨ j = k) := fun j hj h => by
    rcases h with h | h
    · exact hn (earlier hck hS hj ho (op_at (hlS j h)) (.inr (by simp [clClash, h3])) (.inl h))
    · omega
  have kp : ∀ p, k + 1 ≤ p → p ≤ m2 → (τ p).t.length = (τ (k + 1)).t.length ∧ (τ p).fn = (τ (k + 1)).fn ∧ ∀ d, (∀ j o, k + 1 ≤ j → j < p → ops[j]? = some o → o.dst ≠ some d) → (τ p).t[d]? = (τ (k + 1)).t[d]? :=
    fun p h1 h2 => kept F hcf hτ p h1 (by omega) (fun j h5 h6 => by have := b3 j h5 (by omega); omega)
  refine hnext (k + 1) k2 m2 I' J' ρ' a' w' ⟨e1, e2, b2, ?_, fun j h1 h2 => by have := b3 j h1 h2; omega, ?_, fun j h1 h2 h5 => absurd h5 (e3 j h1 h2), fun h => ⟨hnS k2 (by omega), e4 h⟩, ?_, ?_, ?_, ?_, ?_, hd.trans D.defers⟩
  · intro j hj
    rcases Nat.eq_or_lt_of_le (Nat.le_of_lt_succ hj) with e | h
    · exact .inr e
    · exact .inl (hall j h)
  · intro h
    refine ⟨hnS m2 (by omega), ?_⟩
    have h5 := b4 h
    have h6 := stepT_le (hτ m2 _ (op_at h))
    omega
  · intro j h1 h2 _ _
    obtain ⟨l', hl'⟩ := gk j h1 (by omega)
    have h5 : (τ (k + 1)).h.length ≤ (τ j).h.length := by rw [hl']; simp
    exact ⟨s1.fresh _ h5, Nat.le_trans s1.stab.len h5⟩
  · intro d p h1 h2 hwr v V hv hV
    rw [(kp p h1 h2).2.2 d (fun j x h5 h6 hx hxd => hnS j (by omega) ((hwr j x h5 (by omega) hx hxd).2 h6))] at hv
    exact t.2 d v V hv hV
  · intro p h1 h2
    rw [(kp p h1 h2).1, t.1]
  · intro p h1 h2
    rw [(kp p h1 h2).2.1, hf]
    exact D.fn k hmk (Nat.le_refl _)
  · rw [hl]; exact s1.more l
end
end Go.LH


set_option linter.unusedVariables false
set_option linter.unusedSimpArgs false
namespace Go.LH
open Region
section
variable {K : Ctx} {P : Program} {Z : Nat → Prop} {I I' : CellP} {J J' : Nat → Prop} {w w' : World} {ρ ρ' : Env} {h h' : Heap}
def SL (L : Array Bool) (j : Nat) : Prop := L.getD j false = true
theorem SL_lt {L : Array Bool} {j : Nat} (h : SL L j) : j < L.size := by
  unfold SL at h
  rcases Nat.lt_or_ge j L.size with h1 | h1
  · exact h1
  · rw [Array.getD_eq_getD_getElem?, Array.getElem?_eq_none h1] at h; simp at h
theorem SL_set {L : Array Bool} {i : Nat} (hi : i < L.size) : SL (L.setIfInBounds i true) = fun j => SL L j ∨ j = i := by
  funext j
  simp only [SL, eq_iff_iff]
  by_cases e : i = j
  · subst e
    simp [Array.getD_eq_getD_getElem?, Array.getElem?_setIfInBounds_self_of_lt hi]
  · rw [Array.getD_eq_getD_getElem?, Array.getElem?_setIfInBounds_ne e, ← Array.getD_eq_getD_getElem?]
    exact ⟨.inl, fun h => h.resolve_right (fun e' => e e'.symm)⟩
def left (L : Array Bool) : Nat := L.toList.count false
theorem left_set {L : Array Bool} {i : Nat} (hi : i < L.size) (hn : ¬ SL L i) : left (L.setIfInBounds i true) + 1 = left L := by
  unfold left
  rw [Array.toList_setIfInBounds]
  have hi' : i < L.toList.length := by simpa using hi
  have hf : L.toList[i] = false := by
    unfold SL at hn
    rw [Array.getD_eq_getD_getElem?, Array.getElem?_eq_getElem hi] at hn
    simpa using hn
  have hpos : 0 < L.toList.count false := List.count_pos_iff.2 (hf ▸ List.getElem_mem hi')
  rw [List.count_set hi', hf]
  simp only [beq_self_eq_true, if_true, show (true == false) = false from rfl, Bool.false_eq_true, if_false]
  omega
theorem all_of_ready {ops : Array Oper} {cl : Nat → Nat} (hck : Checked ops cl) {L : Array Bool} (hL : L.size = ops.size) (hr : Region.ready .any ops L = []) : ∀ j, j < ops.size → SL L j := by
  intro j
  induction j using Nat.strongRecOn with
  | ind j ih =>
    intro hj
    refine Classical.byContradiction fun hn => ?_
    have : j ∈ Region.ready .any ops L := by
      rw [mem_ready]
      refine ⟨?_, ops[j], op_at hj, fun e he hb => ?_⟩
      · unfold SL at hn
        rw [Array.getD_eq_getD_getElem?, Array.getElem?_eq_getElem (by omega)] at hn ⊢
        simpa using hn
      · have hlt := hck.lt j _ (op_at hj) e he hb
        exact ih e.on hlt (by omega)
    rw [hr] at this
    cases this
theorem any_sound {cf : CallF} {ops : Array Oper} {cl : Nat → Nat} {τ : Nat → Fr} {σ : Fr} {I₀ : CellP} {J₀ : Nat → Prop} {ρ₀ : Env} {w₀ : World} {a₀ : Act} {Q : Exit → Act → World → Prop} {roL : Option Nat} (F : Fits K P) (hcf : CallOK K P cf)
    (hτ : ∀ i o, ops[i]? = some o → StepT K cf ops o (τ i) (cl i) (τ (i + 1))) (hck : Checked ops cl) (hg : GlobR K I₀ J₀ w₀)
    (hQ : ∀ a w, Out K Z I₀ J₀ ρ₀ σ w₀ a₀ (τ ops.size) a w → Q .normal a w) :
    ∀ (fuel : Nat) (L : Array Bool) (m k m' : Nat) (I : CellP) (J : Nat → Prop) (ρ : Env) (w : World) (a : Act), L.size = ops.size → left L ≤ fuel → Closed ops (SL L) → DI K Z ops cl τ σ I₀ J₀ ρ₀ w₀ a₀ (SL L) m k m' I J ρ w a →
      wpAnyIn (FR roL) 0 P .any ops Q fuel L a w := by
  have fin : ∀ (L : Array Bool) (m k m' : Nat) (I : CellP) (J : Nat → Prop) (ρ : Env) (w : World) (a : Act), L.size = ops.size → DI K Z ops cl τ σ I₀ J₀ ρ₀ w₀ a₀ (SL L) m k m' I J ρ w a → Region.ready .any ops L = [] → Q .normal a w := by
    intro L m k m' I J ρ w a hL D hr
    have hall := all_of_ready hck hL hr
    have hm : m' = ops.size := by
      rcases Nat.eq_or_lt_of_le D.mn with e | h
      · exact e
      · exact absurd (hall m' h) (D.top h).1
    have hk : k = ops.size := by
      rcases Nat.eq_or_lt_of_le D.km with e | h
      · omega
      · exact absurd (hall k (by omega)) (D.nxt h).1
    have hmk := D.mlk
    refine hQ a w ⟨I, J, ρ, by rw [← hk]; exact D.step, ⟨D.size ops.size (by omega) (by omega), fun d v V hv hV => ?_⟩, D.defers, D.fn ops.size (by omega) (by omega)⟩
    exact D.slots d ops.size (by omega) (by omega) (fun j o h1 h2 _ _ => ⟨fun _ => by omega, fun _ => hall j (by omega)⟩) v V hv hV
  intro fuel
  induction fuel with
  | zero =>
    intro L m k m' I J ρ w a hL hl hS D
    have hr : Region.ready .any ops L = [] := by
      rw [List.eq_nil_iff_forall_not_mem]
      intro i hi
      obtain ⟨h1, o, ho, _⟩ := mem_ready.1 hi
      have hlt : i < L.size := by rw [hL]; exact (Array.getElem?_eq_some_iff.1 ho).1
      have hn : ¬ SL L i := fun h => by
        unfold SL at h
        rw [Array.getD_eq_getD_getElem?, Array.getElem?_eq_getElem hlt] at h h1
        simp at h h1
        rw [h] at h1; cases h1
      have := left_set hlt hn
      omega
    exact ⟨hr, fin L m k m' I J ρ w a hL D hr⟩
  | succ fuel ih =>
    intro L m k m' I J ρ w a hL hl hS D
    refine ⟨fun hr => fin L m k m' I J ρ w a hL D hr, fun i hi => ?_⟩
    obtain ⟨h1, o, ho, hwt⟩ := mem_ready.1 hi
    have hin : i < ops.size := (Array.getElem?_eq_some_iff.1 ho).1
    have hlt : i < L.size := by omega
    have hn : ¬ SL L i := fun h => by
      unfold SL at h
      rw [Array.getD_eq_getD_getElem?, Array.getElem?_eq_getElem hlt] at h h1
      simp at h h1
      rw [h] at h1; cases h1
    have hw : Waits ops (SL L) i := fun o' ho' e he hb => by
      rw [ho] at ho'; cases ho'
      exact hwt e he hb
    have hleft := left_set hlt hn
    have hset := SL_set hlt
    have hS' : Closed ops (SL (L.setIfInBounds i true)) := by
      rw [hset]
      intro j hj o' ho' e he hb
      rcases hj with hj | hj
      · exact .inl (hS j hj o' ho' e he hb)
      · subst hj; exact .inl (hw o' ho' e he hb)
    have next : ∀ m k m' I J ρ a w, DI K Z ops cl τ σ I₀ J₀ ρ₀ w₀ a₀ (fun j => SL L j ∨ j = i) m k m' I J ρ w a → wpAnyIn (FR roL) 0 P .any ops Q fuel (L.setIfInBounds i true) a w := fun m k m' I J ρ a w D' =>
      ih _ m k m' I J ρ w a (by simpa using hL) (by omega) hS' (by rw [hset]; exact D')
    obtain ⟨hge, hle⟩ := D.turn hck hS hin hn hw
    have hT := D.reads hck hS ho hn hw hge hle
    unfold wpOpIn
    simp only [ho]
    have hst := hτ i o ho
    rcases Nat.eq_or_lt_of_le hle with e | hlt'
    · subst e
      have h3 := (D.top hin).2
      rcases hst with ⟨hwn, hr⟩ | ⟨_, h0, _⟩
      · rw [← wanted_mask (ops := ops) (o := o)] at hwn
        rw [wanted_rel hT hwn]
        simp only [if_true]
        exact D.over F hcf hτ hck hS (fun j hj => by have := SL_lt hj; omega) hg ho hw hin (by rw [h3] at hr; exact hr) (fun m₂ k₂ m₂' I' J' ρ' a' w' D' => next _ _ _ _ _ _ _ _ D')
      · omega
    · have hc := D.cls i hge hlt'
      rcases hst with ⟨hwn, hr⟩ | ⟨hwn, h0, hs⟩
      · rw [← wanted_mask (ops := ops) (o := o)] at hwn
        rw [wanted_rel hT hwn]
        simp only [if_true]
        have hr' := run_step hr hc
        rcases Nat.lt_or_ge 1 (cl i) with h2 | h2
        · have h2' : cl i = 2 := by omega
          exact D.loud F hcf hτ hck hS hg ho hn hw hge hlt' h2' (by rw [h2'] at hr'; exact hr') (fun k' I' J' ρ' a' w' D' => next _ _ _ _ _ _ _ _ D')
        · exact D.quiet F hcf hτ hck hS hg ho hn hw hge hlt' h2 hr' (fun I' J' ρ' a' w' D' => next _ _ _ _ _ _ _ _ D')
      · rw [← wanted_mask (ops := ops) (o := o)] at hwn
        rw [wanted_rel hT hwn]
        simp only [Bool.false_eq_true, if_false]
        exact ⟨fun _ _ => trivial, next _ _ _ _ _ _ _ _ (D.skip F hcf hτ hck hS ho hn hge hlt' h0 (by rw [hs]))⟩
theorem draw_ok (F : Fits K P) {cf : CallF} (hcf : CallOK K P cf) : DrawOK K P cf := by
  intro id ops σ cs σ' hrun hd Z I J ρ w a roL Q H hg hnext
  obtain ⟨hlen, hck⟩ := checked_of hd
  obtain ⟨τ, t0, tn, _, hτ'⟩ := tr_of ops.toList hrun
  have hτ : ∀ i o, ops[i]? = some o → StepT K cf ops o (τ i) (cs.getD i 0) (τ (i + 1)) := fun i o ho => hτ' i o (by simpa using ho)
  refine wpIn_region_any F.mixed ?_
  have hE : Ext w { w with drawn := w.drawn + 1 } := ⟨Nat.le_refl _, fun _ _ => rfl, ⟨rfl, rfl⟩⟩
  have L := Lays.of_ext I J hE
  obtain ⟨m2, b1, b2, b3, b4⟩ := first_from (fun j => ¬ cs.getD j 0 ≤ 2) ops.size _ 0 rfl (Nat.zero_le _)
  obtain ⟨k2, e1, e2, e3, e4⟩ := first_from (fun j => 2 ≤ cs.getD j 0) m2 _ 0 rfl b1
  have s0 : Step K Z I J ρ σ.h w I J ρ σ.h { w with drawn := w.drawn + 1 } := ⟨H.inv.lays L, Chg.of_ext hE H.inv.zlt, fun _ _ h => h, fun _ h => h, fun _ _ h => .inl h, fun _ h => .inl h, Stab.refl _ _, H.fresh⟩
  have gk : ∀ j, j ≤ k2 → ∃ l, (τ j).h = σ.h ++ l := fun j h2 => by
    obtain ⟨l, hl⟩ := grow F hcf hτ (i := 0) j (Nat.zero_le _) (by omega) (fun q h5 h6 => by have := e3 q h5 (by omega); omega)
    exact ⟨l, by rw [hl, t0]⟩
  obtain ⟨l, hl⟩ := gk k2 (Nat.le_refl _)
  have kp := fun p (h1 : p ≤ m2) => kept F hcf hτ (i := 0) p (Nat.zero_le _) (by omega) (fun j h5 h6 => by have := b3 j h5 (by omega); omega)
  have hnS : ∀ j, ¬ SL (Array.replicate ops.size false) j := fun j h => by
    unfold SL at h
    rw [Array.getD_eq_getD_getElem?, Array.getElem?_replicate] at h
    split at h <;> simp at h
  refine any_sound (Z := Z) (a₀ := a) (ρ₀ := ρ) (σ := σ) F hcf hτ hck hg (fun a' w' hO => hnext a' w' ?_) ops.size _ 0 k2 m2 I J ρ _ a (by simp) ?_ (fun j hj => absurd hj (hnS j)) ?_
  · rw [← tn, Array.length_toList]; exact hO
  · unfold left
    refine Nat.le_trans List.count_le_length (by simp)
  refine ⟨e1, e2, b2, fun j hj => absurd hj (by omega), fun j h1 h2 => by have := b3 j h1 h2; omega, ?_, fun j h1 h2 h5 => absurd h5 (e3 j h1 h2), fun h => ⟨hnS _, e4 h⟩, ?_, ?_, ?_, ?_, ?_, rfl⟩
  · intro h
    refine ⟨hnS m2, ?_⟩
    have h5 := b4 h
    have h6 := stepT_le (hτ m2 _ (op_at h))
    omega
  · intro j h1 h2 _ _
    obtain ⟨l', hl'⟩ := gk j (by omega)
    have h5 : σ.h.length ≤ (τ j).h.length := by rw [hl']; simp
    exact ⟨H.fresh _ h5, h5⟩
  · intro d p h1 h2 hwr v V hv hV
    rw [(kp p h2).2.2 d (fun j x h5 h6 hx hxd => hnS j ((hwr j x h5 (by omega) hx hxd).2 h6)), t0] at hv
    exact (H.tmps.2 d v V hv hV).lays L
  · intro p h1 h2
    rw [(kp p h2).1, t0, H.tmps.1]
  · intro p h1 h2
    rw [(kp p h2).2.1, t0]
  · rw [hl]; exact s0.more l
theorem call_sound (F : Fits K P) (hnm : NamesOK K) (n : Nat) : CallOK K P (callN K n) := callN_sound F hnm (fun cf hcf => draw_ok F hcf) n
end
end Go.LH

