/-
  Proved: FnExactConstants answers true at every call: each exported constant of the program is the number that the document gives.
  Conditions: none.
-/
import Derived.Test.YtodpikeegdbgcaaPFnExactConstantsx1
namespace Go.Proofs.Ytodpikeegdbgcaa.Pure
open Go.RowKit Go.Proofs.Ytodpikeegdbgcaa.PFnExactConstants Go.Proofs.YtodpikeegdbgcaaW.PrintWords Go.Proofs.YtodpikeegdbgcaaW.PrintLast

/-- YOURS: laws_FnExactConstants.f  = some true
What it reaches (each with k first where it has rounds; `.mono`: more rounds tell the same; `.l0`, ..: its loops, with `.mono_l`): laws_FnExactConstants.f -/
theorem FnExactConstants : laws_FnExactConstants.Pure := by
  rfl

end Go.Proofs.Ytodpikeegdbgcaa.Pure
