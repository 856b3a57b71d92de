/-
  Proved: FnExactGiveBest answers true at every input, and its arguments read behind the call as before.
  Conditions: none.
-/
import Derived.Test.YtenccnpdaldkfaaRows
import Derived.Test.YtenccnpdaldkfaaB4dbb2
import Derived.Test.YtenccnpdaldkfaaB79a77
import Derived.Test.YtenccnpdaldkfaaB11d0f0
import Derived.WalkKit
import Derived.ProofKit
import Derived.OpenShut
import Derived.ChangeOld
import Derived.Below
import Derived.Carry
import Derived.SizedLaws
set_option linter.unusedSimpArgs false
set_option linter.unusedVariables false
namespace Go.Proofs.Ytenccnpdaldkfaa.fnExactGiveBest
open Go.ChangeShapes Go.WideShapes Go.ChangeAt Go.RowKit Go.Abs Go.Proofs.Ytenccnpdaldkfaa.Open
set_option linter.unusedVariables false
set_option maxRecDepth 100000 in
theorem lifted (os : Os) (started : os.Started) (H : Type) (enc : TypeId × Value → H) :
    ReturnsInHanded {} Try.checked os 19 .any (Rows.fnExactGiveBestSpec.pre6 enc Try.prog Try.f19 Rows.fnExactGiveBestRow.domain false) (Rows.fnExactGiveBestSpec.post enc Try.prog Try.f19 false true false false) := by
  refine returnsInHanded_of_change_sized (C := Try.checked) own started (by kernel_rfl) Try.func19
    (ChangeSpec.witness6 (enc := enc) (C := Try.checked) false ⟨#[], #[.agg #[.int .i64 0, .slice none 0 0, .slice none 0 0], .agg #[.string ⟨#[]⟩, .int .i64 0, .int .i64 0, .int .i64 0, .int .i64 0, .int .i64 0, .slice none 0 0, .slice none 0 0]], []⟩ 8 (by kernel_rfl) (by kernel_rfl) (by kernel_rfl) (by kernel_rfl)) ?_
  intro W base args ds gs before hval0 hW hcnd hsz0 _
  have hval : ∀ (j : Nat) t v, Try.f19.params[j]? = some t → args[j]? = some v → Value.okWide Try.prog W .any base t v := hval0
  have hW' := hW
  obtain ⟨p, q, hA0, hV, rfl, hfz, hnd⟩ := hW
  have hA : DataW.TrodAll enc Try.prog W 0 (fun _ => true) true Try.f19.params.toList args.toList ds p := hA0
  rw [Try.params19] at hA hval
  obtain ⟨v0, vs0, d0, ds0, p0, q0, hargs, rfl, rfl, h0, r0⟩ := trodAll_cons hA
  obtain ⟨v1, vs1, d1, ds1, p1, q1, rfl, rfl, rfl, h1, r1⟩ := trodAll_cons r0
  obtain ⟨rfl, rfl, rfl⟩ := trodAll_nil r1
  obtain rfl : args = #[v0, v1] := by cases args; simp_all
  obtain ⟨rfl, rfl⟩ := trodVars_none hV
  have lt0 : ∀ x ∈ p0, x.block < W.heap.size := by obtain ⟨m, hm⟩ := h0; exact DataW.trod_lt m _ _ _ hm
  have lt1 : ∀ x ∈ p1, x.block < W.heap.size := by obtain ⟨m, hm⟩ := h1; exact DataW.trod_lt m _ _ _ hm
  obtain ⟨M, hM⟩ := big_some W
  obtain ⟨c0, l0, x0, z0⟩ := openBook hM (okWide_struct Try.underlying62 (hval 0 62 v0 rfl rfl)) h0
  obtain ⟨c1, l1, x1, z1⟩ := openWish hM (okWide_struct Try.underlying48 (hval 1 48 v1 rfl rfl)) h1
  obtain ⟨h', hF⟩ := laws_FnExactGiveBest (heapOf W M) c0 l0 c1 l1 (heapOf_ok W M) z0 z1
  clear hA0 hval0 hsz0
  refine (law_calls slaws_FnExactGiveBest hM (xs := [.v (.agg c0.ces), .v (.agg c1.ces)]) (vals := [v0, v1]) ⟨x0, x1, trivial⟩ hF).mono fun e W' ⟨he, bel⟩ => ?_
  subst he
  exact ⟨_, rfl, _, _, _, [], _, [], hW', trodAll_mk1 (shut_bool Try.underlying4 _), (trodAll_cons_mk (Below.trod laidOut (by kernel_rfl) (of_decide_eq_true (by kernel_rfl)) h0 bel lt0) (trodAll_cons_mk (Below.trod laidOut (by kernel_rfl) (of_decide_eq_true (by kernel_rfl)) h1 bel lt1) trodAll_mk0)), rfl, bel.frame _, fun h => by cases h⟩
set_option maxRecDepth 100000 in
theorem closed : joinedFacts Try.prog 19 Try.f19 Rows.fnExactGiveBestSpec Rows.fnExactGiveBestRow = true := by
  unfold joinedFacts
  rw [Head.lifts, Head.make, Head.enter]
  kernel_rfl
theorem over : Rows.fnExactGiveBestRow.holds Try.pinned (OpenSpec.ofChange Rows.fnExactGiveBestSpec) :=
  OpenClaim.holds_of_wide 19 Try.f19 rfl rfl rfl rfl rfl rfl rfl ⟨rfl, rfl, rfl, rfl, rfl⟩ rfl rfl rfl rfl rfl (by kernel_rfl) Try.func19 closed
    (of_decide_eq_true (by kernel_rfl)) (by unfold Func.isWrapper; first | (rw [if_pos (by decide +kernel)]; kernel_rfl) | (rw [if_neg (by decide +kernel)]; exact ⟨rfl, rfl⟩))
    (fun os started H enc _ => lifted os started H enc)
theorem proved : Rows.FnExactGiveBestSaid := over
end Go.Proofs.Ytenccnpdaldkfaa.fnExactGiveBest
namespace Go.Proofs.Ytenccnpdaldkfaa
/-- The row, under a short name, for the claim. -/
theorem fnExactGiveBest_holds : Rows.FnExactGiveBestSaid := fnExactGiveBest.proved
#print axioms fnExactGiveBest_holds
end Go.Proofs.Ytenccnpdaldkfaa
