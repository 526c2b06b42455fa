/- FactsRead: whatever the list, read and two times, the law answers true and leaves its arguments as they were. -/
import Derived.Test.YtglhnodmpifjhaaCV9x1
set_option linter.all false
set_option maxRecDepth 100000
set_option linter.unusedSimpArgs false
set_option linter.unusedVariables false
namespace Go.LH.s04
open Go Go.LH
attribute [local irreducible] W ND.all
theorem all_of_w9 {α : Type} {x : ND α} {Q : α → Prop} (h : W false x Q) : x.all Q := by unfold W at h; exact h
theorem main9 (vs : List LV) (h : TyVs K 6 [22, 54, 3, 3] vs) : ∃ N, (callN K N (.fn (.func 9) [] []) vs []).all fun r => r.1 = .bool true := by
  match vs, h with
  | [a, b, c, d], ⟨h1, h2, h3, h4, _⟩ =>
    obtain ⟨nb0, l0, rfl, hb0⟩ := tv22 h1
    obtain ⟨x1, rfl⟩ := tv54 h2
    obtain ⟨x2, rfl⟩ := tv3 h3
    obtain ⟨x3, rfl⟩ := tv3 h4
    exact ⟨_, all_of_w9 (law9 0 nb0 l0 x1 x2 x3 hb0)⟩
end Go.LH.s04
namespace Go.Proofs.Ytglhnodmpifjhaa
open Go.ChangeShapes Go.WideShapes Go.ChangeAt Go.RowKit
theorem own : ownKnob Try.prog.godebug = none := by kernel_rfl
set_option maxRecDepth 100000 in
theorem lifted (os : Os) (started : os.Started) (H : Type) (enc : TypeId × Value → H) :
    ReturnsInHanded {} Try.checked os 9 .any (Rows.factsReadSpec.pre6 enc Try.prog Try.f9 Rows.factsReadRow.domain false) (Rows.factsReadSpec.post enc Try.prog Try.f9 false true false false) := by
  refine returnsInHanded_of_change (C := Try.checked) own started (by kernel_rfl) Try.func9
    (ChangeSpec.witness6 (enc := enc) (C := Try.checked) false ⟨#[], #[.slice none 0 0, .agg ⟨[.int .i64 0, .int .i64 0, .int .i64 0, .int .i64 0, .int .i64 0]⟩, .int .i64 0, .int .i64 0], []⟩ 8 (by kernel_rfl) (by kernel_rfl) (by kernel_rfl) (by kernel_rfl)) ?_
  intro W base args ds gs before hval0 hW hcnd _
  have hval : ∀ (j : Nat) t v, Try.f9.params[j]? = some t → args[j]? = some v → Value.okWide Try.prog W .any base t v := hval0
  have hps : Try.f9.params.toList = [22, 54, 3, 3] := by rw [Try.params9]
  refine Go.LH.law_contract (K := Go.LH.s04.K) (n := 6) (tb := 4) Go.LH.s04.fits Go.LH.s04.names (by kernel_rfl) Try.func9 (Option.some_get (by kernel_rfl : Try.f9.body.isSome = true)).symm (by kernel_rfl) ?_ ?_ (by kernel_rfl) Try.underlying4 rfl ?_ ?_ (fun g cs h => by cases h) hval hW
  · rw [hps]
    intro t ht
    simp only [List.mem_cons, List.not_mem_nil, or_false] at ht
    rcases ht with rfl | rfl | rfl | rfl <;> kernel_rfl
  · rw [hps]
    intro t ht
    simp only [List.mem_cons, List.not_mem_nil, or_false] at ht
    rcases ht with rfl | rfl | rfl | rfl <;> exact ⟨by kernel_rfl, of_decide_eq_true (by kernel_rfl)⟩
  · intro ds hds
    have hsz : Try.f9.params.size = 4 := by rw [Try.params9]; rfl
    rw [hsz] at hds
    match ds, hds with
    | [d1, d2, d3, d4], _ => exact ⟨rfl, rfl, rfl⟩
  · rw [hps]
    exact fun vs h => Go.LH.s04.main9 vs h
theorem facts_read : Rows.FactsReadSaid :=
  OpenClaim.holds_of_wide 9 Try.f9 rfl rfl rfl rfl rfl rfl rfl ⟨rfl, rfl, rfl, rfl, rfl⟩ rfl rfl rfl rfl rfl (by kernel_rfl) Try.func9 (by kernel_rfl)
    (of_decide_eq_true (by kernel_rfl)) (by unfold Func.isWrapper; first | (rw [if_pos (by decide +kernel)]; kernel_rfl) | (rw [if_neg (by decide +kernel)]; exact ⟨rfl, rfl⟩))
    (fun os started H enc _ => lifted os started H enc)
#print axioms facts_read
end Go.Proofs.Ytglhnodmpifjhaa
