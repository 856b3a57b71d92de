/-
  What the codes tell is what the program's functions do (printed by wip/tools/gen3.py).
-/
import Derived.Test.YtenccnpdaldkfaaChecked
import Derived.KernelRfl
import Derived.Eval
import Derived.Test.YtenccnpdaldkfaaBoxCode
namespace Go.Abs
open Go.Proofs
set_option maxRecDepth 100000

theorem mixed : Try.prog.follows .mixedOrders = true := Try.checked.mixed
theorem slaws_szGiveBoxS : Sound Try.prog 23 Flaws_szGiveBoxS := sound_of (envL_ok (fun p hp => by simp at hp)) mixed [] Try.func23 (by kernel_rfl) (by kernel_rfl) (by kernel_rfl)
theorem sspec_l1In : Sound Try.prog 91 Fspec_l1In := sound_of (envL_ok (fun p hp => by simp at hp)) mixed [] Try.func91 (by kernel_rfl) (by kernel_rfl) (by kernel_rfl)
theorem sspec_l1BoxOk : Sound Try.prog 92 Fspec_l1BoxOk := sound_of (envL_ok (by simp only [List.forall_mem_cons, List.not_mem_nil, false_implies, implies_true, and_true]; exact sspec_l1In)) mixed [1] Try.func92 (by kernel_rfl) (by kernel_rfl) (by kernel_rfl)
theorem sspec_l1Close : Sound Try.prog 86 Fspec_l1Close := sound_of (envL_ok (by simp only [List.forall_mem_cons, List.not_mem_nil, false_implies, implies_true, and_true]; exact ⟨sspec_l1In, sspec_l1BoxOk⟩)) mixed [2, 3] Try.func86 (by kernel_rfl) (by kernel_rfl) (by kernel_rfl)
theorem sspec_GiveNear : Sound Try.prog 24 Fspec_GiveNear := sound_of (envL_ok (by simp only [List.forall_mem_cons, List.not_mem_nil, false_implies, implies_true, and_true]; exact sspec_l1Close)) mixed [] Try.func24 (by kernel_rfl) (by kernel_rfl) (by kernel_rfl)
theorem slaws_toGiveBox : Sound Try.prog 87 Flaws_toGiveBox := sound_of (envL_ok (fun p hp => by simp at hp)) mixed [1, 2, 3] Try.func87 (by kernel_rfl) (by kernel_rfl) (by kernel_rfl)
theorem slaws_toGiveBoxS : Sound Try.prog 25 Flaws_toGiveBoxS := sound_of (envL_ok (by simp only [List.forall_mem_cons, List.not_mem_nil, false_implies, implies_true, and_true]; exact slaws_toGiveBox)) mixed [] Try.func25 (by kernel_rfl) (by kernel_rfl) (by kernel_rfl)
theorem simpl_in : Sound Try.prog 96 Fimpl_in := sound_of (envL_ok (fun p hp => by simp at hp)) mixed [] Try.func96 (by kernel_rfl) (by kernel_rfl) (by kernel_rfl)
theorem simpl_boxOk : Sound Try.prog 97 Fimpl_boxOk := sound_of (envL_ok (by simp only [List.forall_mem_cons, List.not_mem_nil, false_implies, implies_true, and_true]; exact simpl_in)) mixed [1] Try.func97 (by kernel_rfl) (by kernel_rfl) (by kernel_rfl)
theorem simpl_beside : Sound Try.prog 88 Fimpl_beside := sound_of (envL_ok (by simp only [List.forall_mem_cons, List.not_mem_nil, false_implies, implies_true, and_true]; exact ⟨simpl_in, simpl_boxOk⟩)) mixed [2, 3] Try.func88 (by kernel_rfl) (by kernel_rfl) (by kernel_rfl)
theorem simpl_GiveNear : Sound Try.prog 26 Fimpl_GiveNear := sound_of (envL_ok (by simp only [List.forall_mem_cons, List.not_mem_nil, false_implies, implies_true, and_true]; exact simpl_beside)) mixed [6, 8] Try.func26 (by kernel_rfl) (by kernel_rfl) (by kernel_rfl)
theorem slaws_eqGiveBox : Sound Try.prog 89 Flaws_eqGiveBox := sound_of (envL_ok (fun p hp => by simp at hp)) mixed [2, 3] Try.func89 (by kernel_rfl) (by kernel_rfl) (by kernel_rfl)
theorem slaws_eqGiveBoxS : Sound Try.prog 27 Flaws_eqGiveBoxS := sound_of (envL_ok (by simp only [List.forall_mem_cons, List.not_mem_nil, false_implies, implies_true, and_true]; exact slaws_eqGiveBox)) mixed [] Try.func27 (by kernel_rfl) (by kernel_rfl) (by kernel_rfl)
theorem slaws_FnExactGiveNear : Sound Try.prog 4 Flaws_FnExactGiveNear := sound_of (envL_ok (by simp only [List.forall_mem_cons, List.not_mem_nil, false_implies, implies_true, and_true]; exact ⟨slaws_szGiveBoxS, sspec_GiveNear, slaws_toGiveBoxS, simpl_GiveNear, slaws_eqGiveBoxS⟩)) mixed [] Try.func4 (by kernel_rfl) (by kernel_rfl) (by kernel_rfl)
theorem sspec_GiveCut : Sound Try.prog 28 Fspec_GiveCut := sound_of (envL_ok (fun p hp => by simp at hp)) mixed [7, 31] Try.func28 (by kernel_rfl) (by kernel_rfl) (by kernel_rfl)
theorem simpl_GiveCut : Sound Try.prog 29 Fimpl_GiveCut := sound_of (envL_ok (fun p hp => by simp at hp)) mixed [7, 26] Try.func29 (by kernel_rfl) (by kernel_rfl) (by kernel_rfl)
theorem slaws_markGiveBoxS : Sound Try.prog 30 Flaws_markGiveBoxS := sound_of (envL_ok (fun p hp => by simp at hp)) mixed [] Try.func30 (by kernel_rfl) (by kernel_rfl) (by kernel_rfl)
theorem slaws_heldGiveBoxS : Sound Try.prog 31 Flaws_heldGiveBoxS := sound_of (envL_ok (fun p hp => by simp at hp)) mixed [] Try.func31 (by kernel_rfl) (by kernel_rfl) (by kernel_rfl)
theorem slaws_FnExactGiveCut : Sound Try.prog 5 Flaws_FnExactGiveCut := sound_of (envL_ok (by simp only [List.forall_mem_cons, List.not_mem_nil, false_implies, implies_true, and_true]; exact ⟨slaws_szGiveBoxS, slaws_toGiveBoxS, slaws_eqGiveBoxS, sspec_GiveCut, simpl_GiveCut, slaws_markGiveBoxS, slaws_heldGiveBoxS⟩)) mixed [] Try.func5 (by kernel_rfl) (by kernel_rfl) (by kernel_rfl)

end Go.Abs
