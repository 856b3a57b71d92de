/-
  Proved: FnExactGiveBookOk answers true at every input, and its arguments read behind the call as before.
  Conditions: none.
-/
import Derived.Test.YtenccnpdaldkfaaRows
import Derived.Test.YtenccnpdaldkfaaB4dbb2
import Derived.Test.YtenccnpdaldkfaaB62b00
import Derived.Test.YtenccnpdaldkfaaB7d8c0
import Derived.WalkKit
import Derived.ProofKit
import Derived.OpenShut
import Derived.ChangeOld
import Derived.Below
import Derived.Carry
import Derived.SizedLaws
set_option linter.unusedSimpArgs false
set_option linter.unusedVariables false
namespace Go.Proofs.Ytenccnpdaldkfaa.fnExactGiveBookOk
open Go.ChangeShapes Go.WideShapes Go.ChangeAt Go.RowKit Go.Abs Go.Proofs.Ytenccnpdaldkfaa.Open
set_option linter.unusedVariables false
set_option maxRecDepth 100000 in
theorem lifted (os : Os) (started : os.Started) (H : Type) (enc : TypeId × Value → H) :
    ReturnsInHanded {} Try.checked os 10 .any (Rows.fnExactGiveBookOkSpec.pre6 enc Try.prog Try.f10 Rows.fnExactGiveBookOkRow.domain false) (Rows.fnExactGiveBookOkSpec.post enc Try.prog Try.f10 false true false false) := by
  refine returnsInHanded_of_change_sized (C := Try.checked) own started (by kernel_rfl) Try.func10
    (ChangeSpec.witness6 (enc := enc) (C := Try.checked) false ⟨#[], #[.agg #[.int .i64 0, .slice none 0 0, .slice none 0 0]], []⟩ 8 (by kernel_rfl) (by kernel_rfl) (by kernel_rfl) (by kernel_rfl)) ?_
  intro W base args ds gs before hval0 hW hcnd hsz0 _
  have hval : ∀ (j : Nat) t v, Try.f10.params[j]? = some t → args[j]? = some v → Value.okWide Try.prog W .any base t v := hval0
  have hW' := hW
  obtain ⟨p, q, hA0, hV, rfl, hfz, hnd⟩ := hW
  have hA : DataW.TrodAll enc Try.prog W 0 (fun _ => true) true Try.f10.params.toList args.toList ds p := hA0
  rw [Try.params10] at hA hval
  obtain ⟨v0, vs0, d0, ds0, p0, q0, hargs, rfl, rfl, h0, r0⟩ := trodAll_cons hA
  obtain ⟨rfl, rfl, rfl⟩ := trodAll_nil r0
  obtain rfl : args = #[v0] := by cases args; simp_all
  obtain ⟨rfl, rfl⟩ := trodVars_none hV
  have lt0 : ∀ x ∈ p0, x.block < W.heap.size := by obtain ⟨m, hm⟩ := h0; exact DataW.trod_lt m _ _ _ hm
  obtain ⟨M, hM⟩ := big_some W
  obtain ⟨c0, l0, x0, z0⟩ := openBook hM (okWide_struct Try.underlying62 (hval 0 62 v0 rfl rfl)) h0
  obtain ⟨h', hF⟩ := laws_FnExactGiveBookOk (heapOf W M) c0 l0 (heapOf_ok W M) z0
  clear hA0 hval0 hsz0
  refine (law_calls slaws_FnExactGiveBookOk hM (xs := [.v (.agg c0.ces)]) (vals := [v0]) ⟨x0, trivial⟩ hF).mono fun e W' ⟨he, bel⟩ => ?_
  subst he
  exact ⟨_, rfl, _, _, _, [], _, [], hW', trodAll_mk1 (shut_bool Try.underlying4 _), (trodAll_cons_mk (Below.trod laidOut (by kernel_rfl) (of_decide_eq_true (by kernel_rfl)) h0 bel lt0) trodAll_mk0), rfl, bel.frame _, fun h => by cases h⟩
set_option maxRecDepth 100000 in
theorem closed : joinedFacts Try.prog 10 Try.f10 Rows.fnExactGiveBookOkSpec Rows.fnExactGiveBookOkRow = true := by
  unfold joinedFacts
  rw [Head.lifts, Head.make, Head.enter]
  kernel_rfl
theorem over : Rows.fnExactGiveBookOkRow.holds Try.pinned (OpenSpec.ofChange Rows.fnExactGiveBookOkSpec) :=
  OpenClaim.holds_of_wide 10 Try.f10 rfl rfl rfl rfl rfl rfl rfl ⟨rfl, rfl, rfl, rfl, rfl⟩ rfl rfl rfl rfl rfl (by kernel_rfl) Try.func10 closed
    (of_decide_eq_true (by kernel_rfl)) (by unfold Func.isWrapper; first | (rw [if_pos (by decide +kernel)]; kernel_rfl) | (rw [if_neg (by decide +kernel)]; exact ⟨rfl, rfl⟩))
    (fun os started H enc _ => lifted os started H enc)
theorem proved : Rows.FnExactGiveBookOkSaid := over
end Go.Proofs.Ytenccnpdaldkfaa.fnExactGiveBookOk
namespace Go.Proofs.Ytenccnpdaldkfaa
/-- The row, under a short name, for the claim. -/
theorem fnExactGiveBookOk_holds : Rows.FnExactGiveBookOkSaid := fnExactGiveBookOk.proved
#print axioms fnExactGiveBookOk_holds
end Go.Proofs.Ytenccnpdaldkfaa
