/-
  Proved: FnExactGiveAmend answers true at every input, and its arguments read behind the call as before.
  Conditions: none.
-/
import Derived.Test.YtenccnpdaldkfaaRows
import Derived.Test.YtenccnpdaldkfaaB4dbb2
import Derived.Test.YtenccnpdaldkfaaB784f1
import Derived.Test.YtenccnpdaldkfaaB105edf
import Derived.WalkKit
import Derived.ProofKit
import Derived.OpenShut
import Derived.ChangeOld
import Derived.Below
import Derived.Carry
import Derived.SizedLaws
set_option linter.unusedSimpArgs false
set_option linter.unusedVariables false
namespace Go.Proofs.Ytenccnpdaldkfaa.fnExactGiveAmend
open Go.ChangeShapes Go.WideShapes Go.ChangeAt Go.RowKit Go.Abs Go.Proofs.Ytenccnpdaldkfaa.Open
set_option linter.unusedVariables false
set_option maxRecDepth 100000 in
theorem lifted (os : Os) (started : os.Started) (H : Type) (enc : TypeId × Value → H) :
    ReturnsInHanded {} Try.checked os 16 .any (Rows.fnExactGiveAmendSpec.pre6 enc Try.prog Try.f16 Rows.fnExactGiveAmendRow.domain false) (Rows.fnExactGiveAmendSpec.post enc Try.prog Try.f16 false true false false) := by
  refine returnsInHanded_of_change_sized (C := Try.checked) own started (by kernel_rfl) Try.func16
    (ChangeSpec.witness6 (enc := enc) (C := Try.checked) false ⟨#[], #[.agg #[.int .i64 0, .slice none 0 0, .slice none 0 0], .string ⟨#[]⟩, .slice none 0 0], []⟩ 8 (by kernel_rfl) (by kernel_rfl) (by kernel_rfl) (by kernel_rfl)) ?_
  intro W base args ds gs before hval0 hW hcnd hsz0 _
  have hval : ∀ (j : Nat) t v, Try.f16.params[j]? = some t → args[j]? = some v → Value.okWide Try.prog W .any base t v := hval0
  have hW' := hW
  obtain ⟨p, q, hA0, hV, rfl, hfz, hnd⟩ := hW
  have hA : DataW.TrodAll enc Try.prog W 0 (fun _ => true) true Try.f16.params.toList args.toList ds p := hA0
  rw [Try.params16] at hA hval
  obtain ⟨v0, vs0, d0, ds0, p0, q0, hargs, rfl, rfl, h0, r0⟩ := trodAll_cons hA
  obtain ⟨v1, vs1, d1, ds1, p1, q1, rfl, rfl, rfl, h1, r1⟩ := trodAll_cons r0
  obtain ⟨v2, vs2, d2, ds2, p2, q2, rfl, rfl, rfl, h2, r2⟩ := trodAll_cons r1
  obtain ⟨rfl, rfl, rfl⟩ := trodAll_nil r2
  obtain rfl : args = #[v0, v1, v2] := by cases args; simp_all
  obtain ⟨rfl, rfl⟩ := trodVars_none hV
  have lt0 : ∀ x ∈ p0, x.block < W.heap.size := by obtain ⟨m, hm⟩ := h0; exact DataW.trod_lt m _ _ _ hm
  have lt1 : ∀ x ∈ p1, x.block < W.heap.size := by obtain ⟨m, hm⟩ := h1; exact DataW.trod_lt m _ _ _ hm
  have lt2 : ∀ x ∈ p2, x.block < W.heap.size := by obtain ⟨m, hm⟩ := h2; exact DataW.trod_lt m _ _ _ hm
  obtain ⟨M, hM⟩ := big_some W
  obtain ⟨c0, l0, x0, z0⟩ := openBook hM (okWide_struct Try.underlying62 (hval 0 62 v0 rfl rfl)) h0
  obtain ⟨c1, x1, z1⟩ := openStr hM (okWide_string Try.underlying9 (hval 1 9 v1 rfl rfl)) h1
  obtain ⟨c2, l2, x2, z2⟩ := openBoxes hM (okWide_slice Try.underlying23 (hval 2 23 v2 rfl rfl)) h2
  obtain ⟨h', hF⟩ := laws_FnExactGiveAmend (heapOf W M) c0 l0 c1 c2 l2 (heapOf_ok W M) z0 z1 z2
  clear hA0 hval0 hsz0
  refine (law_calls slaws_FnExactGiveAmend hM (xs := [.v (.agg c0.ces), .v (.c (.str c1)), .v (.c c2)]) (vals := [v0, v1, v2]) ⟨x0, x1, x2, trivial⟩ hF).mono fun e W' ⟨he, bel⟩ => ?_
  subst he
  exact ⟨_, rfl, _, _, _, [], _, [], hW', trodAll_mk1 (shut_bool Try.underlying4 _), (trodAll_cons_mk (Below.trod laidOut (by kernel_rfl) (of_decide_eq_true (by kernel_rfl)) h0 bel lt0) (trodAll_cons_mk (Below.trod laidOut (by kernel_rfl) (of_decide_eq_true (by kernel_rfl)) h1 bel lt1) (trodAll_cons_mk (Below.trod laidOut (by kernel_rfl) (of_decide_eq_true (by kernel_rfl)) h2 bel lt2) trodAll_mk0))), rfl, bel.frame _, fun h => by cases h⟩
set_option maxRecDepth 100000 in
theorem closed : joinedFacts Try.prog 16 Try.f16 Rows.fnExactGiveAmendSpec Rows.fnExactGiveAmendRow = true := by
  unfold joinedFacts
  rw [Head.lifts, Head.make, Head.enter]
  kernel_rfl
theorem over : Rows.fnExactGiveAmendRow.holds Try.pinned (OpenSpec.ofChange Rows.fnExactGiveAmendSpec) :=
  OpenClaim.holds_of_wide 16 Try.f16 rfl rfl rfl rfl rfl rfl rfl ⟨rfl, rfl, rfl, rfl, rfl⟩ rfl rfl rfl rfl rfl (by kernel_rfl) Try.func16 closed
    (of_decide_eq_true (by kernel_rfl)) (by unfold Func.isWrapper; first | (rw [if_pos (by decide +kernel)]; kernel_rfl) | (rw [if_neg (by decide +kernel)]; exact ⟨rfl, rfl⟩))
    (fun os started H enc _ => lifted os started H enc)
theorem proved : Rows.FnExactGiveAmendSaid := over
end Go.Proofs.Ytenccnpdaldkfaa.fnExactGiveAmend
namespace Go.Proofs.Ytenccnpdaldkfaa
/-- The row, under a short name, for the claim. -/
theorem fnExactGiveAmend_holds : Rows.FnExactGiveAmendSaid := fnExactGiveAmend.proved
#print axioms fnExactGiveAmend_holds
end Go.Proofs.Ytenccnpdaldkfaa
