/-
  What the codes tell is what the program's functions do (printed by wip/tools/gen3.py).
-/
import Derived.Test.YtenccnpdaldkfaaBoxSound
import Derived.Test.YtenccnpdaldkfaaTubCode
namespace Go.Abs
open Go.Proofs
set_option maxRecDepth 100000

theorem slaws_szGiveField : Sound Try.prog 90 Flaws_szGiveField := sound_of (envL_ok (fun p hp => by simp at hp)) mixed [2] Try.func90 (by kernel_rfl) (by kernel_rfl) (by kernel_rfl)
theorem slaws_szGiveFieldS : Sound Try.prog 32 Flaws_szGiveFieldS := sound_of (envL_ok (by simp only [List.forall_mem_cons, List.not_mem_nil, false_implies, implies_true, and_true]; exact slaws_szGiveField)) mixed [] Try.func32 (by kernel_rfl) (by kernel_rfl) (by kernel_rfl)
theorem sspec_l1Next : Sound Try.prog 93 Fspec_l1Next := sound_of (envL_ok (by simp only [List.forall_mem_cons, List.not_mem_nil, false_implies, implies_true, and_true]; exact sspec_l1In)) mixed [2, 3] Try.func93 (by kernel_rfl) (by kernel_rfl) (by kernel_rfl)
theorem sspec_l1Ground : Sound Try.prog 94 Fspec_l1Ground := sound_of (envL_ok (fun p hp => by simp at hp)) mixed [3] Try.func94 (by kernel_rfl) (by kernel_rfl) (by kernel_rfl)
theorem sspec_GiveTubeOk : Sound Try.prog 33 Fspec_GiveTubeOk := sound_of (envL_ok (by simp only [List.forall_mem_cons, List.not_mem_nil, false_implies, implies_true, and_true]; exact ⟨sspec_l1In, sspec_l1BoxOk, sspec_l1Next, sspec_l1Ground⟩)) mixed [] Try.func33 (by kernel_rfl) (by kernel_rfl) (by kernel_rfl)
theorem slaws_toGiveField : Sound Try.prog 95 Flaws_toGiveField := sound_of (envL_ok (fun p hp => by simp at hp)) mixed [1, 2, 3] Try.func95 (by kernel_rfl) (by kernel_rfl) (by kernel_rfl)
theorem slaws_toGiveFieldS : Sound Try.prog 34 Flaws_toGiveFieldS := sound_of (envL_ok (by simp only [List.forall_mem_cons, List.not_mem_nil, false_implies, implies_true, and_true]; exact slaws_toGiveField)) mixed [] Try.func34 (by kernel_rfl) (by kernel_rfl) (by kernel_rfl)
theorem simpl_isField : Sound Try.prog 98 Fimpl_isField := sound_of (envL_ok (fun p hp => by simp at hp)) mixed [8] Try.func98 (by kernel_rfl) (by kernel_rfl) (by kernel_rfl)
theorem simpl_GiveTubeOk : Sound Try.prog 35 Fimpl_GiveTubeOk := sound_of (envL_ok (by simp only [List.forall_mem_cons, List.not_mem_nil, false_implies, implies_true, and_true]; exact ⟨simpl_in, simpl_boxOk, simpl_isField⟩)) mixed [6, 7, 8] Try.func35 (by kernel_rfl) (by kernel_rfl) (by kernel_rfl)
theorem slaws_eqGiveField : Sound Try.prog 99 Flaws_eqGiveField := sound_of (envL_ok (fun p hp => by simp at hp)) mixed [2, 3] Try.func99 (by kernel_rfl) (by kernel_rfl) (by kernel_rfl)
theorem slaws_eqGiveFieldS : Sound Try.prog 36 Flaws_eqGiveFieldS := sound_of (envL_ok (by simp only [List.forall_mem_cons, List.not_mem_nil, false_implies, implies_true, and_true]; exact slaws_eqGiveField)) mixed [] Try.func36 (by kernel_rfl) (by kernel_rfl) (by kernel_rfl)
theorem slaws_FnExactGiveTubeOk : Sound Try.prog 6 Flaws_FnExactGiveTubeOk := sound_of (envL_ok (by simp only [List.forall_mem_cons, List.not_mem_nil, false_implies, implies_true, and_true]; exact ⟨slaws_szGiveBoxS, slaws_toGiveBoxS, slaws_eqGiveBoxS, slaws_szGiveFieldS, sspec_GiveTubeOk, slaws_toGiveFieldS, simpl_GiveTubeOk, slaws_eqGiveFieldS⟩)) mixed [] Try.func6 (by kernel_rfl) (by kernel_rfl) (by kernel_rfl)

end Go.Abs
