/-
  Proved: FnExactGiveTubeOf answers true at every input, and its arguments read behind the call as before.
  Conditions: none.
-/
import Derived.Test.YtenccnpdaldkfaaRows
import Derived.Test.YtenccnpdaldkfaaB4dbb2
import Derived.Test.YtenccnpdaldkfaaB58efe
import Derived.Test.YtenccnpdaldkfaaB1062e2
import Derived.WalkKit
import Derived.ProofKit
import Derived.OpenShut
import Derived.ChangeOld
import Derived.Below
import Derived.Carry
import Derived.SizedLaws
set_option linter.unusedSimpArgs false
set_option linter.unusedVariables false
namespace Go.Proofs.Ytenccnpdaldkfaa.fnExactGiveTubeOf
open Go.ChangeShapes Go.WideShapes Go.ChangeAt Go.RowKit Go.Abs Go.Proofs.Ytenccnpdaldkfaa.Open
set_option linter.unusedVariables false
set_option maxRecDepth 100000 in
theorem lifted (os : Os) (started : os.Started) (H : Type) (enc : TypeId × Value → H) :
    ReturnsInHanded {} Try.checked os 8 .any (Rows.fnExactGiveTubeOfSpec.pre6 enc Try.prog Try.f8 Rows.fnExactGiveTubeOfRow.domain false) (Rows.fnExactGiveTubeOfSpec.post enc Try.prog Try.f8 false true false false) := by
  refine returnsInHanded_of_change_sized (C := Try.checked) own started (by kernel_rfl) Try.func8
    (ChangeSpec.witness6 (enc := enc) (C := Try.checked) false ⟨#[], #[.agg #[.string ⟨#[]⟩, .int .i64 0, .int .i64 0, .int .i64 0, .int .i64 0, .int .i64 0, .slice none 0 0, .slice none 0 0], .int .i64 0, .int .i64 0, .int .i64 0], []⟩ 8 (by kernel_rfl) (by kernel_rfl) (by kernel_rfl) (by kernel_rfl)) ?_
  intro W base args ds gs before hval0 hW hcnd hsz0 _
  have hval : ∀ (j : Nat) t v, Try.f8.params[j]? = some t → args[j]? = some v → Value.okWide Try.prog W .any base t v := hval0
  have hW' := hW
  obtain ⟨p, q, hA0, hV, rfl, hfz, hnd⟩ := hW
  have hA : DataW.TrodAll enc Try.prog W 0 (fun _ => true) true Try.f8.params.toList args.toList ds p := hA0
  rw [Try.params8] at hA hval
  obtain ⟨v0, vs0, d0, ds0, p0, q0, hargs, rfl, rfl, h0, r0⟩ := trodAll_cons hA
  obtain ⟨v1, vs1, d1, ds1, p1, q1, rfl, rfl, rfl, h1, r1⟩ := trodAll_cons r0
  obtain ⟨v2, vs2, d2, ds2, p2, q2, rfl, rfl, rfl, h2, r2⟩ := trodAll_cons r1
  obtain ⟨v3, vs3, d3, ds3, p3, q3, rfl, rfl, rfl, h3, r3⟩ := trodAll_cons r2
  obtain ⟨rfl, rfl, rfl⟩ := trodAll_nil r3
  obtain rfl : args = #[v0, v1, v2, v3] := by cases args; simp_all
  obtain ⟨rfl, rfl⟩ := trodVars_none hV
  have lt0 : ∀ x ∈ p0, x.block < W.heap.size := by obtain ⟨m, hm⟩ := h0; exact DataW.trod_lt m _ _ _ hm
  have lt1 : ∀ x ∈ p1, x.block < W.heap.size := by obtain ⟨m, hm⟩ := h1; exact DataW.trod_lt m _ _ _ hm
  have lt2 : ∀ x ∈ p2, x.block < W.heap.size := by obtain ⟨m, hm⟩ := h2; exact DataW.trod_lt m _ _ _ hm
  have lt3 : ∀ x ∈ p3, x.block < W.heap.size := by obtain ⟨m, hm⟩ := h3; exact DataW.trod_lt m _ _ _ hm
  obtain ⟨M, hM⟩ := big_some W
  obtain ⟨c0, l0, x0, z0⟩ := openWish hM (okWide_struct Try.underlying48 (hval 0 48 v0 rfl rfl)) h0
  obtain ⟨c1, x1, z1⟩ := openInt hM (okWide_int Try.underlying3 (hval 1 3 v1 rfl rfl)) h1
  obtain ⟨c2, x2, z2⟩ := openInt hM (okWide_int Try.underlying3 (hval 2 3 v2 rfl rfl)) h2
  obtain ⟨c3, x3, z3⟩ := openInt hM (okWide_int Try.underlying3 (hval 3 3 v3 rfl rfl)) h3
  obtain ⟨h', hF⟩ := laws_FnExactGiveTubeOf (heapOf W M) c0 l0 c1 c2 c3 (heapOf_ok W M) z0 z1 z2 z3
  clear hA0 hval0 hsz0
  refine (law_calls slaws_FnExactGiveTubeOf hM (xs := [.v (.agg c0.ces), .v (.c (.int .i64 c1)), .v (.c (.int .i64 c2)), .v (.c (.int .i64 c3))]) (vals := [v0, v1, v2, v3]) ⟨x0, x1, x2, x3, trivial⟩ hF).mono fun e W' ⟨he, bel⟩ => ?_
  subst he
  exact ⟨_, rfl, _, _, _, [], _, [], hW', trodAll_mk1 (shut_bool Try.underlying4 _), (trodAll_cons_mk (Below.trod laidOut (by kernel_rfl) (of_decide_eq_true (by kernel_rfl)) h0 bel lt0) (trodAll_cons_mk (Below.trod laidOut (by kernel_rfl) (of_decide_eq_true (by kernel_rfl)) h1 bel lt1) (trodAll_cons_mk (Below.trod laidOut (by kernel_rfl) (of_decide_eq_true (by kernel_rfl)) h2 bel lt2) (trodAll_cons_mk (Below.trod laidOut (by kernel_rfl) (of_decide_eq_true (by kernel_rfl)) h3 bel lt3) trodAll_mk0)))), rfl, bel.frame _, fun h => by cases h⟩
set_option maxRecDepth 100000 in
theorem closed : joinedFacts Try.prog 8 Try.f8 Rows.fnExactGiveTubeOfSpec Rows.fnExactGiveTubeOfRow = true := by
  unfold joinedFacts
  rw [Head.lifts, Head.make, Head.enter]
  kernel_rfl
theorem over : Rows.fnExactGiveTubeOfRow.holds Try.pinned (OpenSpec.ofChange Rows.fnExactGiveTubeOfSpec) :=
  OpenClaim.holds_of_wide 8 Try.f8 rfl rfl rfl rfl rfl rfl rfl ⟨rfl, rfl, rfl, rfl, rfl⟩ rfl rfl rfl rfl rfl (by kernel_rfl) Try.func8 closed
    (of_decide_eq_true (by kernel_rfl)) (by unfold Func.isWrapper; first | (rw [if_pos (by decide +kernel)]; kernel_rfl) | (rw [if_neg (by decide +kernel)]; exact ⟨rfl, rfl⟩))
    (fun os started H enc _ => lifted os started H enc)
theorem proved : Rows.FnExactGiveTubeOfSaid := over
end Go.Proofs.Ytenccnpdaldkfaa.fnExactGiveTubeOf
namespace Go.Proofs.Ytenccnpdaldkfaa
/-- The row, under a short name, for the claim. -/
theorem fnExactGiveTubeOf_holds : Rows.FnExactGiveTubeOfSaid := fnExactGiveTubeOf.proved
#print axioms fnExactGiveTubeOf_holds
end Go.Proofs.Ytenccnpdaldkfaa
