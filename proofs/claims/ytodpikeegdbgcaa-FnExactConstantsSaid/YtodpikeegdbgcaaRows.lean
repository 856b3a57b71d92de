/-
  No cell of these rows narrows 'for every input' (looked for: loops, veiled, ifaces, maps, wideKeys, modest, calm, conditions, laid).
  DERIVED. THE GIVEN ROWS OF THIS SEAT. 5 by the template 'for every input the law returns true; each argument reads behind the call as it read before'; 0 by the template 'total and deterministic' (their statements: YtodpikeegdbgcaaTotals.lean).
  GIVEN WITH THE SEED: the statements are not yours to turn. If you find one false, say at which input.
  Laid BY PROGRAM, IN A SANDBOX (cutbox-rows.mjs): the forced cells as the released guide's own fill.sh prints them over the translation e1bbeb36a8e5258c… (all of the seat's roots in one cut). By AI agents, Wed Nov 11 2026. No macro, syntax, notation, axiom, sorry.
-/
import Derived.Test.YtodpikeegdbgcaaChecked
import GoSem.Claim
import GoSem.ClaimJoined
import GoSem.ClaimMapViews
import Derived.JoinedTies
import Derived.KernelRfl
namespace Go.Proofs.Ytodpikeegdbgcaa
/- THE CELL 'sum', in the pinned program and in every row, IS THE sha256 OF THE DUMP (.gsa) THAT YtodpikeegdbgcaaProg.lean LOADS. Nothing in Lean hashes anything: it is a label: what it is worth is what the hold of that sum in a sandbox is worth. -/
noncomputable def Try.pinned : Pinned := { name := "ytodpikeegdbgcaa", sum := "e1bbeb36a8e5258ca9ac1f31586cdd2465dc88e6a85132fa471621e41c970b1d", checked := Try.checked }
namespace Rows
def none {H : Type} : Left H := { results := [], args := [] }

/-- 'laws.FnExactConstants': WHATEVER THE INPUT: true; the input reads as it did. -/
def fnExactConstantsSpec : ChangeSpec := { name := "fnExactConstants", fn := fun _ => fun
  | [] => { results := [.lit (.bool true)], args := [] }
  | _ => none }
def fnExactConstantsRow : OpenClaim := { program := "ytodpikeegdbgcaa", sum := "e1bbeb36a8e5258ca9ac1f31586cdd2465dc88e6a85132fa471621e41c970b1d", func := "loop.example/lapgive/laws.FnExactConstants", spec := "fnExactConstants", apart := false }
def FnExactConstantsSaid : Prop := fnExactConstantsRow.holds Try.pinned (OpenSpec.ofChange fnExactConstantsSpec)

/-- ITS FALSE NEIGHBOUR: 'it returns false'. Refute it at one input. -/
def fnExactConstantsWrong : ChangeSpec := { name := "fnExactConstants", fn := fun _ => fun
  | [] => { results := [.lit (.bool false)], args := [] }
  | _ => none }
def FnExactConstantsWrongFalsely : Prop := fnExactConstantsRow.holds Try.pinned (OpenSpec.ofChange fnExactConstantsWrong)

/-- 'laws.FnExactGiveNear': WHATEVER THE INPUT: true; the input reads as it did. -/
def fnExactGiveNearSpec : ChangeSpec := { name := "fnExactGiveNear", fn := fun _ => fun
  | [d1, d2] => { results := [.lit (.bool true)], args := [d1, d2] }
  | _ => none }
def fnExactGiveNearRow : OpenClaim := { program := "ytodpikeegdbgcaa", sum := "e1bbeb36a8e5258ca9ac1f31586cdd2465dc88e6a85132fa471621e41c970b1d", func := "loop.example/lapgive/laws.FnExactGiveNear", spec := "fnExactGiveNear", apart := false }
def FnExactGiveNearSaid : Prop := fnExactGiveNearRow.holds Try.pinned (OpenSpec.ofChange fnExactGiveNearSpec)

/-- ITS FALSE NEIGHBOUR: 'it returns false'. Refute it at one input. -/
def fnExactGiveNearWrong : ChangeSpec := { name := "fnExactGiveNear", fn := fun _ => fun
  | [d1, d2] => { results := [.lit (.bool false)], args := [d1, d2] }
  | _ => none }
def FnExactGiveNearWrongFalsely : Prop := fnExactGiveNearRow.holds Try.pinned (OpenSpec.ofChange fnExactGiveNearWrong)

/-- 'laws.FnExactGiveCut': WHATEVER THE INPUT: true; the input reads as it did. -/
def fnExactGiveCutSpec : ChangeSpec := { name := "fnExactGiveCut", fn := fun _ => fun
  | [d1, d2] => { results := [.lit (.bool true)], args := [d1, d2] }
  | _ => none }
def fnExactGiveCutRow : OpenClaim := { program := "ytodpikeegdbgcaa", sum := "e1bbeb36a8e5258ca9ac1f31586cdd2465dc88e6a85132fa471621e41c970b1d", func := "loop.example/lapgive/laws.FnExactGiveCut", spec := "fnExactGiveCut", apart := false }
def FnExactGiveCutSaid : Prop := fnExactGiveCutRow.holds Try.pinned (OpenSpec.ofChange fnExactGiveCutSpec)

/-- ITS FALSE NEIGHBOUR: 'it returns false'. Refute it at one input. -/
def fnExactGiveCutWrong : ChangeSpec := { name := "fnExactGiveCut", fn := fun _ => fun
  | [d1, d2] => { results := [.lit (.bool false)], args := [d1, d2] }
  | _ => none }
def FnExactGiveCutWrongFalsely : Prop := fnExactGiveCutRow.holds Try.pinned (OpenSpec.ofChange fnExactGiveCutWrong)

/-- 'laws.FnExactGiveTubeOk': WHATEVER THE INPUT: true; the input reads as it did. -/
def fnExactGiveTubeOkSpec : ChangeSpec := { name := "fnExactGiveTubeOk", fn := fun _ => fun
  | [d1, d2] => { results := [.lit (.bool true)], args := [d1, d2] }
  | _ => none }
def fnExactGiveTubeOkRow : OpenClaim := { program := "ytodpikeegdbgcaa", sum := "e1bbeb36a8e5258ca9ac1f31586cdd2465dc88e6a85132fa471621e41c970b1d", func := "loop.example/lapgive/laws.FnExactGiveTubeOk", spec := "fnExactGiveTubeOk", apart := false }
def FnExactGiveTubeOkSaid : Prop := fnExactGiveTubeOkRow.holds Try.pinned (OpenSpec.ofChange fnExactGiveTubeOkSpec)

/-- ITS FALSE NEIGHBOUR: 'it returns false'. Refute it at one input. -/
def fnExactGiveTubeOkWrong : ChangeSpec := { name := "fnExactGiveTubeOk", fn := fun _ => fun
  | [d1, d2] => { results := [.lit (.bool false)], args := [d1, d2] }
  | _ => none }
def FnExactGiveTubeOkWrongFalsely : Prop := fnExactGiveTubeOkRow.holds Try.pinned (OpenSpec.ofChange fnExactGiveTubeOkWrong)

/-- 'laws.FnCut': WHATEVER THE INPUT: true; the input reads as it did. -/
def fnCutSpec : ChangeSpec := { name := "fnCut", fn := fun _ => fun
  | [d1, d2] => { results := [.lit (.bool true)], args := [d1, d2] }
  | _ => none }
def fnCutRow : OpenClaim := { program := "ytodpikeegdbgcaa", sum := "e1bbeb36a8e5258ca9ac1f31586cdd2465dc88e6a85132fa471621e41c970b1d", func := "loop.example/lapgive/laws.FnCut", spec := "fnCut", apart := false }
def FnCutSaid : Prop := fnCutRow.holds Try.pinned (OpenSpec.ofChange fnCutSpec)

/-- ITS FALSE NEIGHBOUR: 'it returns false'. Refute it at one input. -/
def fnCutWrong : ChangeSpec := { name := "fnCut", fn := fun _ => fun
  | [d1, d2] => { results := [.lit (.bool false)], args := [d1, d2] }
  | _ => none }
def FnCutWrongFalsely : Prop := fnCutRow.holds Try.pinned (OpenSpec.ofChange fnCutWrong)

/- THE SECOND FORM. 'bulk': how many values and letters a reading holds, each counted each time it is reached (what is shared counts as often as it is met; a slice's spare places count too). A statement '..UptoSaid' is the law's where the arguments, and the package variables that the reading takes, are together of bulk at most 1048576: NARROWER than '..Said'. Prove '..Said' where nothing that the law and all that it calls make is longer than what came in: it says more and counts as full. Else prove '..UptoSaid'. A law counts once. -/
mutual
def uptoBulk {H : Type} : DataW H → Nat
  | .lit (.string bytes) => bytes.length + 1
  | .lit _ => 1
  | .nil => 1
  | .ptr d => uptoBulk d + 1
  | .slice elems spare => uptoBulkAll elems + uptoBulkAll spare + 1
  | .agg parts => uptoBulkAll parts + 1
  | .iface _ d => uptoBulk d + 1
  | .map entries => uptoBulkEntries entries + 1
  | .held _ => 1
def uptoBulkAll {H : Type} : List (DataW H) → Nat
  | [] => 0
  | d :: r => uptoBulk d + uptoBulkAll r
def uptoBulkEntries {H : Type} : List (Lit × DataW H) → Nat
  | [] => 0
  | x :: r => uptoBulkEntry x + uptoBulkEntries r
def uptoBulkEntry {H : Type} : Lit × DataW H → Nat
  | (.string bytes, d) => bytes.length + uptoBulk d + 1
  | (_, d) => uptoBulk d + 1
 end
def uptoSmall : (H : Type) → List (DataW H) → Bool := fun _ ds => decide (uptoBulkAll ds ≤ 1048576)
def OpenSpec.upto (s : _root_.Go.ChangeSpec) : _root_.Go.OpenSpec := { _root_.Go.OpenSpec.ofChange s with cond := some uptoSmall }

/-- 'laws.FnExactConstants', WHERE WHAT IT READS IS OF BULK AT MOST 1048576: true; the input reads as it did. -/
def fnExactConstantsUptoRow : OpenClaim := { program := "ytodpikeegdbgcaa", sum := "e1bbeb36a8e5258ca9ac1f31586cdd2465dc88e6a85132fa471621e41c970b1d", func := "loop.example/lapgive/laws.FnExactConstants", spec := "fnExactConstants", apart := false, narrowed := true }
def FnExactConstantsUptoSaid : Prop := fnExactConstantsUptoRow.holds Try.pinned (OpenSpec.upto fnExactConstantsSpec)

/-- 'laws.FnExactGiveNear', WHERE WHAT IT READS IS OF BULK AT MOST 1048576: true; the input reads as it did. -/
def fnExactGiveNearUptoRow : OpenClaim := { program := "ytodpikeegdbgcaa", sum := "e1bbeb36a8e5258ca9ac1f31586cdd2465dc88e6a85132fa471621e41c970b1d", func := "loop.example/lapgive/laws.FnExactGiveNear", spec := "fnExactGiveNear", apart := false, narrowed := true }
def FnExactGiveNearUptoSaid : Prop := fnExactGiveNearUptoRow.holds Try.pinned (OpenSpec.upto fnExactGiveNearSpec)

/-- 'laws.FnExactGiveCut', WHERE WHAT IT READS IS OF BULK AT MOST 1048576: true; the input reads as it did. -/
def fnExactGiveCutUptoRow : OpenClaim := { program := "ytodpikeegdbgcaa", sum := "e1bbeb36a8e5258ca9ac1f31586cdd2465dc88e6a85132fa471621e41c970b1d", func := "loop.example/lapgive/laws.FnExactGiveCut", spec := "fnExactGiveCut", apart := false, narrowed := true }
def FnExactGiveCutUptoSaid : Prop := fnExactGiveCutUptoRow.holds Try.pinned (OpenSpec.upto fnExactGiveCutSpec)

/-- 'laws.FnExactGiveTubeOk', WHERE WHAT IT READS IS OF BULK AT MOST 1048576: true; the input reads as it did. -/
def fnExactGiveTubeOkUptoRow : OpenClaim := { program := "ytodpikeegdbgcaa", sum := "e1bbeb36a8e5258ca9ac1f31586cdd2465dc88e6a85132fa471621e41c970b1d", func := "loop.example/lapgive/laws.FnExactGiveTubeOk", spec := "fnExactGiveTubeOk", apart := false, narrowed := true }
def FnExactGiveTubeOkUptoSaid : Prop := fnExactGiveTubeOkUptoRow.holds Try.pinned (OpenSpec.upto fnExactGiveTubeOkSpec)

/-- 'laws.FnCut', WHERE WHAT IT READS IS OF BULK AT MOST 1048576: true; the input reads as it did. -/
def fnCutUptoRow : OpenClaim := { program := "ytodpikeegdbgcaa", sum := "e1bbeb36a8e5258ca9ac1f31586cdd2465dc88e6a85132fa471621e41c970b1d", func := "loop.example/lapgive/laws.FnCut", spec := "fnCut", apart := false, narrowed := true }
def FnCutUptoSaid : Prop := fnCutUptoRow.holds Try.pinned (OpenSpec.upto fnCutSpec)

end Rows
end Go.Proofs.Ytodpikeegdbgcaa
