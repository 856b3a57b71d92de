/-
  Proved: FnExactGiveNear answers true at every input, and its arguments read behind the call as before.
  Conditions: none.
-/
import Derived.Test.YtenccnpdaldkfaaRows
import Derived.Test.YtenccnpdaldkfaaMainHead
import Derived.Test.YtenccnpdaldkfaaNearSound
import Derived.Test.YtenccnpdaldkfaaNearPure
import Derived.WalkKit
import Derived.ProofKit
import Derived.OpenShut
import Derived.ChangeOld
import Derived.Below
import Derived.Carry
import Derived.SizedLaws
namespace Go.Proofs.Ytenccnpdaldkfaa.fnExactGiveNear
open Go.ChangeShapes Go.WideShapes Go.ChangeAt Go.RowKit Go.Abs
set_option linter.unusedVariables false
theorem own : ownKnob Try.prog.godebug = none := by kernel_rfl
theorem laidOut : laidOutB Try.prog = true := by kernel_rfl

def cInt : Cod Try.prog 3 Int := Cod.int Try.underlying3 (by kernel_rfl)
def cBox : Cod Try.prog 114 Box := Cod.struct Try.underlying114 (.cons rfl cInt (.cons rfl cInt (.cons rfl cInt (.cons rfl cInt (.cons rfl cInt (.cons rfl cInt .nil)))))) (by kernel_rfl) (by decide) (fun a => ⟨a.1, a.2.1, a.2.2.1, a.2.2.2.1, a.2.2.2.2.1, a.2.2.2.2.2.1⟩) (fun b => (b.x, b.y, b.low, b.high, b.tin, b.tout, ())) (fun _ => rfl)
def cBoxS : Cod Try.prog 23 (List Box) := Cod.slice Try.underlying23 (by kernel_rfl) cBox
theorem cBox_rel {h : Heap} {l : List Ce} {b : Box} (hr : cBox.rel h l b) : l = b.ces := by
  obtain ⟨x1, y1, rfl, ⟨e1, _⟩, x2, y2, rfl, ⟨e2, _⟩, x3, y3, rfl, ⟨e3, _⟩, x4, y4, rfl, ⟨e4, _⟩, x5, y5, rfl, ⟨e5, _⟩, x6, y6, rfl, ⟨e6, _⟩, e7⟩ := hr
  subst e1 e2 e3 e4 e5 e6 e7
  rfl
theorem cBoxS_rd {h : Heap} {c : Ce} {l : List Box} (hr : RdSl cBox.toElt h c l) : RdSl EBox h c l := by
  rcases hr with h1 | h1 | ⟨b, o, m, r, h1, h2, h3, h4, h5⟩
  · exact .inl h1
  · exact .inr (.inl h1)
  · exact .inr (.inr ⟨b, o, m, r, h1, h2, h3, h4, fun i a ha => cBox_rel (h5 i a ha)⟩)

theorem openBoxes {H : Type} {enc : TypeId × Value → H} {W : World} {base : Nat} {spare : Nat → Bool} {held : Bool} {v : Value} {d : DataW H} {ps : List MemPlace} {M : Nat} (hM : Big W M) (hv : ∃ a n k, v = .slice a n k) (h : DataW.Trod enc Try.prog W base spare held 23 v d ps) :
    ∃ c l, ConA (mapOf M) (.v (.c c)) v ∧ RdSl EBox (heapOf W M) c l := by
  obtain ⟨a, n, k, rfl⟩ := hv
  obtain ⟨x, l, hx, c, rfl, c', hc, hr⟩ := open_one cBoxS rfl hM rfl h
  simp only [List.cons.injEq, and_true] at hc
  subst hc
  exact ⟨c, l, hx, cBoxS_rd hr⟩

theorem heapOf_ok (W : World) (M : Nat) : HOk (heapOf W M) := by
  intro b hb
  simp only [heapOf] at hb ⊢
  rw [if_neg (by omega)]

set_option maxRecDepth 100000 in
theorem lifted (os : Os) (started : os.Started) (H : Type) (enc : TypeId × Value → H) :
    ReturnsInHanded {} Try.checked os 4 .any (Rows.fnExactGiveNearSpec.pre6 enc Try.prog Try.f4 Rows.fnExactGiveNearRow.domain false) (Rows.fnExactGiveNearSpec.post enc Try.prog Try.f4 false true false false) := by
  refine returnsInHanded_of_change_sized (C := Try.checked) own started (by kernel_rfl) Try.func4
    (ChangeSpec.witness6 (enc := enc) (C := Try.checked) false ⟨#[], #[.slice none 0 0, .slice none 0 0], []⟩ 8 (by kernel_rfl) (by kernel_rfl) (by kernel_rfl) (by kernel_rfl)) ?_
  intro W base args ds gs before hval0 hW hcnd hsz0 _
  have hval : ∀ (j : Nat) t v, Try.f4.params[j]? = some t → args[j]? = some v → Value.okWide Try.prog W .any base t v := hval0
  have hW' := hW
  obtain ⟨p, q, hA0, hV, rfl, hfz, hnd⟩ := hW
  have hA : DataW.TrodAll enc Try.prog W 0 (fun _ => true) true Try.f4.params.toList args.toList ds p := hA0
  rw [Try.params4] at hA hval
  obtain ⟨v0, vs0, d0, ds0, p0, q0, hargs, rfl, rfl, h0, r0⟩ := trodAll_cons hA
  obtain ⟨v1, vs1, d1, ds1, p1, q1, rfl, rfl, rfl, h1, r1⟩ := trodAll_cons r0
  obtain ⟨rfl, rfl, rfl⟩ := trodAll_nil r1
  obtain rfl : args = #[v0, v1] := by cases args; simp_all
  obtain ⟨rfl, rfl⟩ := trodVars_none hV
  have lt0 : ∀ x ∈ p0, x.block < W.heap.size := by obtain ⟨m, hm⟩ := h0; exact DataW.trod_lt m _ _ _ hm
  have lt1 : ∀ x ∈ p1, x.block < W.heap.size := by obtain ⟨m, hm⟩ := h1; exact DataW.trod_lt m _ _ _ hm
  obtain ⟨M, hM⟩ := big_some W
  obtain ⟨c0, l0, x0, z0⟩ := openBoxes hM (okWide_slice Try.underlying23 (hval 0 23 v0 rfl rfl)) h0
  obtain ⟨c1, l1, x1, z1⟩ := openBoxes hM (okWide_slice Try.underlying23 (hval 1 23 v1 rfl rfl)) h1
  obtain ⟨h', hF⟩ := laws_FnExactGiveNear (heapOf W M) c0 c1 l0 l1 (heapOf_ok W M) z0 z1
  clear hA0 hval0 hsz0
  refine (law_calls slaws_FnExactGiveNear hM (xs := [.v (.c c0), .v (.c c1)]) (vals := [v0, v1]) ⟨x0, x1, trivial⟩ hF).mono fun e W' ⟨he, bel⟩ => ?_
  subst he
  exact ⟨_, rfl, _, _, _, [], _, [], hW', trodAll_mk1 (shut_bool Try.underlying4 _), (trodAll_cons_mk (Below.trod laidOut (by kernel_rfl) (of_decide_eq_true (by kernel_rfl)) h0 bel lt0) (trodAll_cons_mk (Below.trod laidOut (by kernel_rfl) (of_decide_eq_true (by kernel_rfl)) h1 bel lt1) trodAll_mk0)), rfl, bel.frame _, fun h => by cases h⟩
set_option maxRecDepth 100000 in
theorem closed : joinedFacts Try.prog 4 Try.f4 Rows.fnExactGiveNearSpec Rows.fnExactGiveNearRow = true := by
  unfold joinedFacts
  rw [Head.lifts, Head.make, Head.enter]
  kernel_rfl
theorem over : Rows.fnExactGiveNearRow.holds Try.pinned (OpenSpec.ofChange Rows.fnExactGiveNearSpec) :=
  OpenClaim.holds_of_wide 4 Try.f4 rfl rfl rfl rfl rfl rfl rfl ⟨rfl, rfl, rfl, rfl, rfl⟩ rfl rfl rfl rfl rfl (by kernel_rfl) Try.func4 closed
    (of_decide_eq_true (by kernel_rfl)) (by unfold Func.isWrapper; first | (rw [if_pos (by decide +kernel)]; kernel_rfl) | (rw [if_neg (by decide +kernel)]; exact ⟨rfl, rfl⟩))
    (fun os started H enc _ => lifted os started H enc)
theorem proved : Rows.FnExactGiveNearSaid := over
end Go.Proofs.Ytenccnpdaldkfaa.fnExactGiveNear
namespace Go.Proofs.Ytenccnpdaldkfaa
/-- The row, under a short name, for the claim. -/
theorem fnExactGiveNear_holds : Rows.FnExactGiveNearSaid := fnExactGiveNear.proved
#print axioms fnExactGiveNear_holds
end Go.Proofs.Ytenccnpdaldkfaa
