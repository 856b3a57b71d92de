/-
  No cell of these rows narrows 'for every input' (looked for: loops, veiled, ifaces, maps, wideKeys, modest, calm, conditions, laid).
  DERIVED. THE GIVEN ROWS OF THIS SEAT. 20 by the template 'for every input the law returns true; each argument reads behind the call as it read before'; 0 by the template 'total and deterministic' (their statements: YtenccnpdaldkfaaTotals.lean).
  GIVEN WITH THE SEED: the statements are not yours to turn. If you find one false, say at which input.
  Laid BY PROGRAM, IN A SANDBOX (cutbox-rows.mjs): the forced cells as the released guide's own fill.sh prints them over the translation 955b0a56ab4b35ce… (all of the seat's roots in one cut). By AI agents, Wed Nov 11 2026. No macro, syntax, notation, axiom, sorry.
-/
import Derived.Test.YtenccnpdaldkfaaChecked
import GoSem.Claim
import GoSem.ClaimJoined
import GoSem.ClaimMapViews
import Derived.JoinedTies
import Derived.KernelRfl
namespace Go.Proofs.Ytenccnpdaldkfaa
/- THE CELL 'sum', in the pinned program and in every row, IS THE sha256 OF THE DUMP (.gsa) THAT YtenccnpdaldkfaaProg.lean LOADS. Nothing in Lean hashes anything: it is a label: what it is worth is what the hold of that sum in a sandbox is worth. -/
noncomputable def Try.pinned : Pinned := { name := "ytenccnpdaldkfaa", sum := "955b0a56ab4b35ce4623b2fcb1645bbbe2860a65a58641e4f4a9d46693cab866", checked := Try.checked }
namespace Rows
def none {H : Type} : Left H := { results := [], args := [] }

/-- 'laws.FnExactConstants': WHATEVER THE INPUT: true; the input reads as it did. -/
def fnExactConstantsSpec : ChangeSpec := { name := "fnExactConstants", fn := fun _ => fun
  | [] => { results := [.lit (.bool true)], args := [] }
  | _ => none }
def fnExactConstantsRow : OpenClaim := { program := "ytenccnpdaldkfaa", sum := "955b0a56ab4b35ce4623b2fcb1645bbbe2860a65a58641e4f4a9d46693cab866", func := "loop.example/lapgive/laws.FnExactConstants", spec := "fnExactConstants", apart := false }
def FnExactConstantsSaid : Prop := fnExactConstantsRow.holds Try.pinned (OpenSpec.ofChange fnExactConstantsSpec)

/-- ITS FALSE NEIGHBOUR: 'it returns false'. Refute it at one input. -/
def fnExactConstantsWrong : ChangeSpec := { name := "fnExactConstants", fn := fun _ => fun
  | [] => { results := [.lit (.bool false)], args := [] }
  | _ => none }
def FnExactConstantsWrongFalsely : Prop := fnExactConstantsRow.holds Try.pinned (OpenSpec.ofChange fnExactConstantsWrong)

/-- 'laws.FnExactGiveNear': WHATEVER THE INPUT: true; the input reads as it did. -/
def fnExactGiveNearSpec : ChangeSpec := { name := "fnExactGiveNear", fn := fun _ => fun
  | [d1, d2] => { results := [.lit (.bool true)], args := [d1, d2] }
  | _ => none }
def fnExactGiveNearRow : OpenClaim := { program := "ytenccnpdaldkfaa", sum := "955b0a56ab4b35ce4623b2fcb1645bbbe2860a65a58641e4f4a9d46693cab866", func := "loop.example/lapgive/laws.FnExactGiveNear", spec := "fnExactGiveNear", apart := false }
def FnExactGiveNearSaid : Prop := fnExactGiveNearRow.holds Try.pinned (OpenSpec.ofChange fnExactGiveNearSpec)

/-- ITS FALSE NEIGHBOUR: 'it returns false'. Refute it at one input. -/
def fnExactGiveNearWrong : ChangeSpec := { name := "fnExactGiveNear", fn := fun _ => fun
  | [d1, d2] => { results := [.lit (.bool false)], args := [d1, d2] }
  | _ => none }
def FnExactGiveNearWrongFalsely : Prop := fnExactGiveNearRow.holds Try.pinned (OpenSpec.ofChange fnExactGiveNearWrong)

/-- 'laws.FnExactGiveCut': WHATEVER THE INPUT: true; the input reads as it did. -/
def fnExactGiveCutSpec : ChangeSpec := { name := "fnExactGiveCut", fn := fun _ => fun
  | [d1, d2] => { results := [.lit (.bool true)], args := [d1, d2] }
  | _ => none }
def fnExactGiveCutRow : OpenClaim := { program := "ytenccnpdaldkfaa", sum := "955b0a56ab4b35ce4623b2fcb1645bbbe2860a65a58641e4f4a9d46693cab866", func := "loop.example/lapgive/laws.FnExactGiveCut", spec := "fnExactGiveCut", apart := false }
def FnExactGiveCutSaid : Prop := fnExactGiveCutRow.holds Try.pinned (OpenSpec.ofChange fnExactGiveCutSpec)

/-- ITS FALSE NEIGHBOUR: 'it returns false'. Refute it at one input. -/
def fnExactGiveCutWrong : ChangeSpec := { name := "fnExactGiveCut", fn := fun _ => fun
  | [d1, d2] => { results := [.lit (.bool false)], args := [d1, d2] }
  | _ => none }
def FnExactGiveCutWrongFalsely : Prop := fnExactGiveCutRow.holds Try.pinned (OpenSpec.ofChange fnExactGiveCutWrong)

/-- 'laws.FnExactGiveTubeOk': WHATEVER THE INPUT: true; the input reads as it did. -/
def fnExactGiveTubeOkSpec : ChangeSpec := { name := "fnExactGiveTubeOk", fn := fun _ => fun
  | [d1, d2] => { results := [.lit (.bool true)], args := [d1, d2] }
  | _ => none }
def fnExactGiveTubeOkRow : OpenClaim := { program := "ytenccnpdaldkfaa", sum := "955b0a56ab4b35ce4623b2fcb1645bbbe2860a65a58641e4f4a9d46693cab866", func := "loop.example/lapgive/laws.FnExactGiveTubeOk", spec := "fnExactGiveTubeOk", apart := false }
def FnExactGiveTubeOkSaid : Prop := fnExactGiveTubeOkRow.holds Try.pinned (OpenSpec.ofChange fnExactGiveTubeOkSpec)

/-- ITS FALSE NEIGHBOUR: 'it returns false'. Refute it at one input. -/
def fnExactGiveTubeOkWrong : ChangeSpec := { name := "fnExactGiveTubeOk", fn := fun _ => fun
  | [d1, d2] => { results := [.lit (.bool false)], args := [d1, d2] }
  | _ => none }
def FnExactGiveTubeOkWrongFalsely : Prop := fnExactGiveTubeOkRow.holds Try.pinned (OpenSpec.ofChange fnExactGiveTubeOkWrong)

/-- 'laws.FnCut': WHATEVER THE INPUT: true; the input reads as it did. -/
def fnCutSpec : ChangeSpec := { name := "fnCut", fn := fun _ => fun
  | [d1, d2] => { results := [.lit (.bool true)], args := [d1, d2] }
  | _ => none }
def fnCutRow : OpenClaim := { program := "ytenccnpdaldkfaa", sum := "955b0a56ab4b35ce4623b2fcb1645bbbe2860a65a58641e4f4a9d46693cab866", func := "loop.example/lapgive/laws.FnCut", spec := "fnCut", apart := false }
def FnCutSaid : Prop := fnCutRow.holds Try.pinned (OpenSpec.ofChange fnCutSpec)

/-- ITS FALSE NEIGHBOUR: 'it returns false'. Refute it at one input. -/
def fnCutWrong : ChangeSpec := { name := "fnCut", fn := fun _ => fun
  | [d1, d2] => { results := [.lit (.bool false)], args := [d1, d2] }
  | _ => none }
def FnCutWrongFalsely : Prop := fnCutRow.holds Try.pinned (OpenSpec.ofChange fnCutWrong)

/-- 'laws.FnExactGiveTubeOf': WHATEVER THE INPUT: true; the input reads as it did. -/
def fnExactGiveTubeOfSpec : ChangeSpec := { name := "fnExactGiveTubeOf", fn := fun _ => fun
  | [d1, d2, d3, d4] => { results := [.lit (.bool true)], args := [d1, d2, d3, d4] }
  | _ => none }
def fnExactGiveTubeOfRow : OpenClaim := { program := "ytenccnpdaldkfaa", sum := "955b0a56ab4b35ce4623b2fcb1645bbbe2860a65a58641e4f4a9d46693cab866", func := "loop.example/lapgive/laws.FnExactGiveTubeOf", spec := "fnExactGiveTubeOf", unfollowed := true, recurses := true, apart := false }
def FnExactGiveTubeOfSaid : Prop := fnExactGiveTubeOfRow.holds Try.pinned (OpenSpec.ofChange fnExactGiveTubeOfSpec)

/-- ITS FALSE NEIGHBOUR: 'it returns false'. Refute it at one input. -/
def fnExactGiveTubeOfWrong : ChangeSpec := { name := "fnExactGiveTubeOf", fn := fun _ => fun
  | [d1, d2, d3, d4] => { results := [.lit (.bool false)], args := [d1, d2, d3, d4] }
  | _ => none }
def FnExactGiveTubeOfWrongFalsely : Prop := fnExactGiveTubeOfRow.holds Try.pinned (OpenSpec.ofChange fnExactGiveTubeOfWrong)

/-- 'laws.FnExactGiveWishOk': WHATEVER THE INPUT: true; the input reads as it did. -/
def fnExactGiveWishOkSpec : ChangeSpec := { name := "fnExactGiveWishOk", fn := fun _ => fun
  | [d1, d2] => { results := [.lit (.bool true)], args := [d1, d2] }
  | _ => none }
def fnExactGiveWishOkRow : OpenClaim := { program := "ytenccnpdaldkfaa", sum := "955b0a56ab4b35ce4623b2fcb1645bbbe2860a65a58641e4f4a9d46693cab866", func := "loop.example/lapgive/laws.FnExactGiveWishOk", spec := "fnExactGiveWishOk", apart := false }
def FnExactGiveWishOkSaid : Prop := fnExactGiveWishOkRow.holds Try.pinned (OpenSpec.ofChange fnExactGiveWishOkSpec)

/-- ITS FALSE NEIGHBOUR: 'it returns false'. Refute it at one input. -/
def fnExactGiveWishOkWrong : ChangeSpec := { name := "fnExactGiveWishOk", fn := fun _ => fun
  | [d1, d2] => { results := [.lit (.bool false)], args := [d1, d2] }
  | _ => none }
def FnExactGiveWishOkWrongFalsely : Prop := fnExactGiveWishOkRow.holds Try.pinned (OpenSpec.ofChange fnExactGiveWishOkWrong)

/-- 'laws.FnExactGiveBookOk': WHATEVER THE INPUT: true; the input reads as it did. -/
def fnExactGiveBookOkSpec : ChangeSpec := { name := "fnExactGiveBookOk", fn := fun _ => fun
  | [d] => { results := [.lit (.bool true)], args := [d] }
  | _ => none }
def fnExactGiveBookOkRow : OpenClaim := { program := "ytenccnpdaldkfaa", sum := "955b0a56ab4b35ce4623b2fcb1645bbbe2860a65a58641e4f4a9d46693cab866", func := "loop.example/lapgive/laws.FnExactGiveBookOk", spec := "fnExactGiveBookOk", apart := false }
def FnExactGiveBookOkSaid : Prop := fnExactGiveBookOkRow.holds Try.pinned (OpenSpec.ofChange fnExactGiveBookOkSpec)

/-- ITS FALSE NEIGHBOUR: 'it returns false'. Refute it at one input. -/
def fnExactGiveBookOkWrong : ChangeSpec := { name := "fnExactGiveBookOk", fn := fun _ => fun
  | [d] => { results := [.lit (.bool false)], args := [d] }
  | _ => none }
def FnExactGiveBookOkWrongFalsely : Prop := fnExactGiveBookOkRow.holds Try.pinned (OpenSpec.ofChange fnExactGiveBookOkWrong)

/-- 'laws.FnExactGiveFree': WHATEVER THE INPUT: true; the input reads as it did. -/
def fnExactGiveFreeSpec : ChangeSpec := { name := "fnExactGiveFree", fn := fun _ => fun
  | [d1, d2, d3] => { results := [.lit (.bool true)], args := [d1, d2, d3] }
  | _ => none }
def fnExactGiveFreeRow : OpenClaim := { program := "ytenccnpdaldkfaa", sum := "955b0a56ab4b35ce4623b2fcb1645bbbe2860a65a58641e4f4a9d46693cab866", func := "loop.example/lapgive/laws.FnExactGiveFree", spec := "fnExactGiveFree", apart := false }
def FnExactGiveFreeSaid : Prop := fnExactGiveFreeRow.holds Try.pinned (OpenSpec.ofChange fnExactGiveFreeSpec)

/-- ITS FALSE NEIGHBOUR: 'it returns false'. Refute it at one input. -/
def fnExactGiveFreeWrong : ChangeSpec := { name := "fnExactGiveFree", fn := fun _ => fun
  | [d1, d2, d3] => { results := [.lit (.bool false)], args := [d1, d2, d3] }
  | _ => none }
def FnExactGiveFreeWrongFalsely : Prop := fnExactGiveFreeRow.holds Try.pinned (OpenSpec.ofChange fnExactGiveFreeWrong)

/-- 'laws.FnExactGiveEarliest': WHATEVER THE INPUT: true; the input reads as it did. -/
def fnExactGiveEarliestSpec : ChangeSpec := { name := "fnExactGiveEarliest", fn := fun _ => fun
  | [d1, d2, d3, d4] => { results := [.lit (.bool true)], args := [d1, d2, d3, d4] }
  | _ => none }
def fnExactGiveEarliestRow : OpenClaim := { program := "ytenccnpdaldkfaa", sum := "955b0a56ab4b35ce4623b2fcb1645bbbe2860a65a58641e4f4a9d46693cab866", func := "loop.example/lapgive/laws.FnExactGiveEarliest", spec := "fnExactGiveEarliest", unfollowed := true, recurses := true, apart := false }
def FnExactGiveEarliestSaid : Prop := fnExactGiveEarliestRow.holds Try.pinned (OpenSpec.ofChange fnExactGiveEarliestSpec)

/-- ITS FALSE NEIGHBOUR: 'it returns false'. Refute it at one input. -/
def fnExactGiveEarliestWrong : ChangeSpec := { name := "fnExactGiveEarliest", fn := fun _ => fun
  | [d1, d2, d3, d4] => { results := [.lit (.bool false)], args := [d1, d2, d3, d4] }
  | _ => none }
def FnExactGiveEarliestWrongFalsely : Prop := fnExactGiveEarliestRow.holds Try.pinned (OpenSpec.ofChange fnExactGiveEarliestWrong)

/-- 'laws.FnExactGiveBars': WHATEVER THE INPUT: true; the input reads as it did. -/
def fnExactGiveBarsSpec : ChangeSpec := { name := "fnExactGiveBars", fn := fun _ => fun
  | [d1, d2, d3, d4] => { results := [.lit (.bool true)], args := [d1, d2, d3, d4] }
  | _ => none }
def fnExactGiveBarsRow : OpenClaim := { program := "ytenccnpdaldkfaa", sum := "955b0a56ab4b35ce4623b2fcb1645bbbe2860a65a58641e4f4a9d46693cab866", func := "loop.example/lapgive/laws.FnExactGiveBars", spec := "fnExactGiveBars", unfollowed := true, recurses := true, apart := false }
def FnExactGiveBarsSaid : Prop := fnExactGiveBarsRow.holds Try.pinned (OpenSpec.ofChange fnExactGiveBarsSpec)

/-- ITS FALSE NEIGHBOUR: 'it returns false'. Refute it at one input. -/
def fnExactGiveBarsWrong : ChangeSpec := { name := "fnExactGiveBars", fn := fun _ => fun
  | [d1, d2, d3, d4] => { results := [.lit (.bool false)], args := [d1, d2, d3, d4] }
  | _ => none }
def FnExactGiveBarsWrongFalsely : Prop := fnExactGiveBarsRow.holds Try.pinned (OpenSpec.ofChange fnExactGiveBarsWrong)

/-- 'laws.FnExactGiveHear': WHATEVER THE INPUT: true; the input reads as it did. -/
def fnExactGiveHearSpec : ChangeSpec := { name := "fnExactGiveHear", fn := fun _ => fun
  | [d1, d2, d3] => { results := [.lit (.bool true)], args := [d1, d2, d3] }
  | _ => none }
def fnExactGiveHearRow : OpenClaim := { program := "ytenccnpdaldkfaa", sum := "955b0a56ab4b35ce4623b2fcb1645bbbe2860a65a58641e4f4a9d46693cab866", func := "loop.example/lapgive/laws.FnExactGiveHear", spec := "fnExactGiveHear", apart := false }
def FnExactGiveHearSaid : Prop := fnExactGiveHearRow.holds Try.pinned (OpenSpec.ofChange fnExactGiveHearSpec)

/-- ITS FALSE NEIGHBOUR: 'it returns false'. Refute it at one input. -/
def fnExactGiveHearWrong : ChangeSpec := { name := "fnExactGiveHear", fn := fun _ => fun
  | [d1, d2, d3] => { results := [.lit (.bool false)], args := [d1, d2, d3] }
  | _ => none }
def FnExactGiveHearWrongFalsely : Prop := fnExactGiveHearRow.holds Try.pinned (OpenSpec.ofChange fnExactGiveHearWrong)

/-- 'laws.FnExactGiveTick': WHATEVER THE INPUT: true; the input reads as it did. -/
def fnExactGiveTickSpec : ChangeSpec := { name := "fnExactGiveTick", fn := fun _ => fun
  | [d1, d2] => { results := [.lit (.bool true)], args := [d1, d2] }
  | _ => none }
def fnExactGiveTickRow : OpenClaim := { program := "ytenccnpdaldkfaa", sum := "955b0a56ab4b35ce4623b2fcb1645bbbe2860a65a58641e4f4a9d46693cab866", func := "loop.example/lapgive/laws.FnExactGiveTick", spec := "fnExactGiveTick", apart := false }
def FnExactGiveTickSaid : Prop := fnExactGiveTickRow.holds Try.pinned (OpenSpec.ofChange fnExactGiveTickSpec)

/-- ITS FALSE NEIGHBOUR: 'it returns false'. Refute it at one input. -/
def fnExactGiveTickWrong : ChangeSpec := { name := "fnExactGiveTick", fn := fun _ => fun
  | [d1, d2] => { results := [.lit (.bool false)], args := [d1, d2] }
  | _ => none }
def FnExactGiveTickWrongFalsely : Prop := fnExactGiveTickRow.holds Try.pinned (OpenSpec.ofChange fnExactGiveTickWrong)

/-- 'laws.FnExactGiveAmend': WHATEVER THE INPUT: true; the input reads as it did. -/
def fnExactGiveAmendSpec : ChangeSpec := { name := "fnExactGiveAmend", fn := fun _ => fun
  | [d1, d2, d3] => { results := [.lit (.bool true)], args := [d1, d2, d3] }
  | _ => none }
def fnExactGiveAmendRow : OpenClaim := { program := "ytenccnpdaldkfaa", sum := "955b0a56ab4b35ce4623b2fcb1645bbbe2860a65a58641e4f4a9d46693cab866", func := "loop.example/lapgive/laws.FnExactGiveAmend", spec := "fnExactGiveAmend", apart := false }
def FnExactGiveAmendSaid : Prop := fnExactGiveAmendRow.holds Try.pinned (OpenSpec.ofChange fnExactGiveAmendSpec)

/-- ITS FALSE NEIGHBOUR: 'it returns false'. Refute it at one input. -/
def fnExactGiveAmendWrong : ChangeSpec := { name := "fnExactGiveAmend", fn := fun _ => fun
  | [d1, d2, d3] => { results := [.lit (.bool false)], args := [d1, d2, d3] }
  | _ => none }
def FnExactGiveAmendWrongFalsely : Prop := fnExactGiveAmendRow.holds Try.pinned (OpenSpec.ofChange fnExactGiveAmendWrong)

/-- 'laws.FnBars': WHATEVER THE INPUT: true; the input reads as it did. -/
def fnBarsSpec : ChangeSpec := { name := "fnBars", fn := fun _ => fun
  | [d] => { results := [.lit (.bool true)], args := [d] }
  | _ => none }
def fnBarsRow : OpenClaim := { program := "ytenccnpdaldkfaa", sum := "955b0a56ab4b35ce4623b2fcb1645bbbe2860a65a58641e4f4a9d46693cab866", func := "loop.example/lapgive/laws.FnBars", spec := "fnBars", unfollowed := true, recurses := true, apart := false }
def FnBarsSaid : Prop := fnBarsRow.holds Try.pinned (OpenSpec.ofChange fnBarsSpec)

/-- ITS FALSE NEIGHBOUR: 'it returns false'. Refute it at one input. -/
def fnBarsWrong : ChangeSpec := { name := "fnBars", fn := fun _ => fun
  | [d] => { results := [.lit (.bool false)], args := [d] }
  | _ => none }
def FnBarsWrongFalsely : Prop := fnBarsRow.holds Try.pinned (OpenSpec.ofChange fnBarsWrong)

/-- 'laws.FnTick': WHATEVER THE INPUT: true; the input reads as it did. -/
def fnTickSpec : ChangeSpec := { name := "fnTick", fn := fun _ => fun
  | [d] => { results := [.lit (.bool true)], args := [d] }
  | _ => none }
def fnTickRow : OpenClaim := { program := "ytenccnpdaldkfaa", sum := "955b0a56ab4b35ce4623b2fcb1645bbbe2860a65a58641e4f4a9d46693cab866", func := "loop.example/lapgive/laws.FnTick", spec := "fnTick", apart := false }
def FnTickSaid : Prop := fnTickRow.holds Try.pinned (OpenSpec.ofChange fnTickSpec)

/-- ITS FALSE NEIGHBOUR: 'it returns false'. Refute it at one input. -/
def fnTickWrong : ChangeSpec := { name := "fnTick", fn := fun _ => fun
  | [d] => { results := [.lit (.bool false)], args := [d] }
  | _ => none }
def FnTickWrongFalsely : Prop := fnTickRow.holds Try.pinned (OpenSpec.ofChange fnTickWrong)

/-- 'laws.FnExactGiveBest': WHATEVER THE INPUT: true; the input reads as it did. -/
def fnExactGiveBestSpec : ChangeSpec := { name := "fnExactGiveBest", fn := fun _ => fun
  | [d1, d2] => { results := [.lit (.bool true)], args := [d1, d2] }
  | _ => none }
def fnExactGiveBestRow : OpenClaim := { program := "ytenccnpdaldkfaa", sum := "955b0a56ab4b35ce4623b2fcb1645bbbe2860a65a58641e4f4a9d46693cab866", func := "loop.example/lapgive/laws.FnExactGiveBest", spec := "fnExactGiveBest", unfollowed := true, recurses := true, apart := false }
def FnExactGiveBestSaid : Prop := fnExactGiveBestRow.holds Try.pinned (OpenSpec.ofChange fnExactGiveBestSpec)

/-- ITS FALSE NEIGHBOUR: 'it returns false'. Refute it at one input. -/
def fnExactGiveBestWrong : ChangeSpec := { name := "fnExactGiveBest", fn := fun _ => fun
  | [d1, d2] => { results := [.lit (.bool false)], args := [d1, d2] }
  | _ => none }
def FnExactGiveBestWrongFalsely : Prop := fnExactGiveBestRow.holds Try.pinned (OpenSpec.ofChange fnExactGiveBestWrong)

/-- 'laws.FnAmend': WHATEVER THE INPUT: true; the input reads as it did. -/
def fnAmendSpec : ChangeSpec := { name := "fnAmend", fn := fun _ => fun
  | [d] => { results := [.lit (.bool true)], args := [d] }
  | _ => none }
def fnAmendRow : OpenClaim := { program := "ytenccnpdaldkfaa", sum := "955b0a56ab4b35ce4623b2fcb1645bbbe2860a65a58641e4f4a9d46693cab866", func := "loop.example/lapgive/laws.FnAmend", spec := "fnAmend", apart := false }
def FnAmendSaid : Prop := fnAmendRow.holds Try.pinned (OpenSpec.ofChange fnAmendSpec)

/-- ITS FALSE NEIGHBOUR: 'it returns false'. Refute it at one input. -/
def fnAmendWrong : ChangeSpec := { name := "fnAmend", fn := fun _ => fun
  | [d] => { results := [.lit (.bool false)], args := [d] }
  | _ => none }
def FnAmendWrongFalsely : Prop := fnAmendRow.holds Try.pinned (OpenSpec.ofChange fnAmendWrong)

/-- 'laws.FnBest': WHATEVER THE INPUT: true; the input reads as it did. -/
def fnBestSpec : ChangeSpec := { name := "fnBest", fn := fun _ => fun
  | [d] => { results := [.lit (.bool true)], args := [d] }
  | _ => none }
def fnBestRow : OpenClaim := { program := "ytenccnpdaldkfaa", sum := "955b0a56ab4b35ce4623b2fcb1645bbbe2860a65a58641e4f4a9d46693cab866", func := "loop.example/lapgive/laws.FnBest", spec := "fnBest", unfollowed := true, recurses := true, apart := false }
def FnBestSaid : Prop := fnBestRow.holds Try.pinned (OpenSpec.ofChange fnBestSpec)

/-- ITS FALSE NEIGHBOUR: 'it returns false'. Refute it at one input. -/
def fnBestWrong : ChangeSpec := { name := "fnBest", fn := fun _ => fun
  | [d] => { results := [.lit (.bool false)], args := [d] }
  | _ => none }
def FnBestWrongFalsely : Prop := fnBestRow.holds Try.pinned (OpenSpec.ofChange fnBestWrong)

/-- 'laws.FnExactGiveChoices': WHATEVER THE INPUT: true; the input reads as it did. -/
def fnExactGiveChoicesSpec : ChangeSpec := { name := "fnExactGiveChoices", fn := fun _ => fun
  | [d1, d2] => { results := [.lit (.bool true)], args := [d1, d2] }
  | _ => none }
def fnExactGiveChoicesRow : OpenClaim := { program := "ytenccnpdaldkfaa", sum := "955b0a56ab4b35ce4623b2fcb1645bbbe2860a65a58641e4f4a9d46693cab866", func := "loop.example/lapgive/laws.FnExactGiveChoices", spec := "fnExactGiveChoices", unfollowed := true, recurses := true, apart := false }
def FnExactGiveChoicesSaid : Prop := fnExactGiveChoicesRow.holds Try.pinned (OpenSpec.ofChange fnExactGiveChoicesSpec)

/-- ITS FALSE NEIGHBOUR: 'it returns false'. Refute it at one input. -/
def fnExactGiveChoicesWrong : ChangeSpec := { name := "fnExactGiveChoices", fn := fun _ => fun
  | [d1, d2] => { results := [.lit (.bool false)], args := [d1, d2] }
  | _ => none }
def FnExactGiveChoicesWrongFalsely : Prop := fnExactGiveChoicesRow.holds Try.pinned (OpenSpec.ofChange fnExactGiveChoicesWrong)

/- THE SECOND FORM. 'bulk': how many values and letters a reading holds, each counted each time it is reached (what is shared counts as often as it is met; a slice's spare places count too). A statement '..UptoSaid' is the law's where the arguments, and the package variables that the reading takes, are together of bulk at most 1048576: NARROWER than '..Said'. Prove '..Said' where nothing that the law and all that it calls make is longer than what came in: it says more and counts as full. Else prove '..UptoSaid'. A law counts once. -/
mutual
def uptoBulk {H : Type} : DataW H → Nat
  | .lit (.string bytes) => bytes.length + 1
  | .lit _ => 1
  | .nil => 1
  | .ptr d => uptoBulk d + 1
  | .slice elems spare => uptoBulkAll elems + uptoBulkAll spare + 1
  | .agg parts => uptoBulkAll parts + 1
  | .iface _ d => uptoBulk d + 1
  | .map entries => uptoBulkEntries entries + 1
  | .held _ => 1
def uptoBulkAll {H : Type} : List (DataW H) → Nat
  | [] => 0
  | d :: r => uptoBulk d + uptoBulkAll r
def uptoBulkEntries {H : Type} : List (Lit × DataW H) → Nat
  | [] => 0
  | x :: r => uptoBulkEntry x + uptoBulkEntries r
def uptoBulkEntry {H : Type} : Lit × DataW H → Nat
  | (.string bytes, d) => bytes.length + uptoBulk d + 1
  | (_, d) => uptoBulk d + 1
 end
def uptoSmall : (H : Type) → List (DataW H) → Bool := fun _ ds => decide (uptoBulkAll ds ≤ 1048576)
def OpenSpec.upto (s : _root_.Go.ChangeSpec) : _root_.Go.OpenSpec := { _root_.Go.OpenSpec.ofChange s with cond := some uptoSmall }

/-- 'laws.FnExactConstants', WHERE WHAT IT READS IS OF BULK AT MOST 1048576: true; the input reads as it did. -/
def fnExactConstantsUptoRow : OpenClaim := { program := "ytenccnpdaldkfaa", sum := "955b0a56ab4b35ce4623b2fcb1645bbbe2860a65a58641e4f4a9d46693cab866", func := "loop.example/lapgive/laws.FnExactConstants", spec := "fnExactConstants", apart := false, narrowed := true }
def FnExactConstantsUptoSaid : Prop := fnExactConstantsUptoRow.holds Try.pinned (OpenSpec.upto fnExactConstantsSpec)

/-- 'laws.FnExactGiveNear', WHERE WHAT IT READS IS OF BULK AT MOST 1048576: true; the input reads as it did. -/
def fnExactGiveNearUptoRow : OpenClaim := { program := "ytenccnpdaldkfaa", sum := "955b0a56ab4b35ce4623b2fcb1645bbbe2860a65a58641e4f4a9d46693cab866", func := "loop.example/lapgive/laws.FnExactGiveNear", spec := "fnExactGiveNear", apart := false, narrowed := true }
def FnExactGiveNearUptoSaid : Prop := fnExactGiveNearUptoRow.holds Try.pinned (OpenSpec.upto fnExactGiveNearSpec)

/-- 'laws.FnExactGiveCut', WHERE WHAT IT READS IS OF BULK AT MOST 1048576: true; the input reads as it did. -/
def fnExactGiveCutUptoRow : OpenClaim := { program := "ytenccnpdaldkfaa", sum := "955b0a56ab4b35ce4623b2fcb1645bbbe2860a65a58641e4f4a9d46693cab866", func := "loop.example/lapgive/laws.FnExactGiveCut", spec := "fnExactGiveCut", apart := false, narrowed := true }
def FnExactGiveCutUptoSaid : Prop := fnExactGiveCutUptoRow.holds Try.pinned (OpenSpec.upto fnExactGiveCutSpec)

/-- 'laws.FnExactGiveTubeOk', WHERE WHAT IT READS IS OF BULK AT MOST 1048576: true; the input reads as it did. -/
def fnExactGiveTubeOkUptoRow : OpenClaim := { program := "ytenccnpdaldkfaa", sum := "955b0a56ab4b35ce4623b2fcb1645bbbe2860a65a58641e4f4a9d46693cab866", func := "loop.example/lapgive/laws.FnExactGiveTubeOk", spec := "fnExactGiveTubeOk", apart := false, narrowed := true }
def FnExactGiveTubeOkUptoSaid : Prop := fnExactGiveTubeOkUptoRow.holds Try.pinned (OpenSpec.upto fnExactGiveTubeOkSpec)

/-- 'laws.FnCut', WHERE WHAT IT READS IS OF BULK AT MOST 1048576: true; the input reads as it did. -/
def fnCutUptoRow : OpenClaim := { program := "ytenccnpdaldkfaa", sum := "955b0a56ab4b35ce4623b2fcb1645bbbe2860a65a58641e4f4a9d46693cab866", func := "loop.example/lapgive/laws.FnCut", spec := "fnCut", apart := false, narrowed := true }
def FnCutUptoSaid : Prop := fnCutUptoRow.holds Try.pinned (OpenSpec.upto fnCutSpec)

/-- 'laws.FnExactGiveTubeOf', WHERE WHAT IT READS IS OF BULK AT MOST 1048576: true; the input reads as it did. -/
def fnExactGiveTubeOfUptoRow : OpenClaim := { program := "ytenccnpdaldkfaa", sum := "955b0a56ab4b35ce4623b2fcb1645bbbe2860a65a58641e4f4a9d46693cab866", func := "loop.example/lapgive/laws.FnExactGiveTubeOf", spec := "fnExactGiveTubeOf", unfollowed := true, recurses := true, apart := false, narrowed := true }
def FnExactGiveTubeOfUptoSaid : Prop := fnExactGiveTubeOfUptoRow.holds Try.pinned (OpenSpec.upto fnExactGiveTubeOfSpec)

/-- 'laws.FnExactGiveWishOk', WHERE WHAT IT READS IS OF BULK AT MOST 1048576: true; the input reads as it did. -/
def fnExactGiveWishOkUptoRow : OpenClaim := { program := "ytenccnpdaldkfaa", sum := "955b0a56ab4b35ce4623b2fcb1645bbbe2860a65a58641e4f4a9d46693cab866", func := "loop.example/lapgive/laws.FnExactGiveWishOk", spec := "fnExactGiveWishOk", apart := false, narrowed := true }
def FnExactGiveWishOkUptoSaid : Prop := fnExactGiveWishOkUptoRow.holds Try.pinned (OpenSpec.upto fnExactGiveWishOkSpec)

/-- 'laws.FnExactGiveBookOk', WHERE WHAT IT READS IS OF BULK AT MOST 1048576: true; the input reads as it did. -/
def fnExactGiveBookOkUptoRow : OpenClaim := { program := "ytenccnpdaldkfaa", sum := "955b0a56ab4b35ce4623b2fcb1645bbbe2860a65a58641e4f4a9d46693cab866", func := "loop.example/lapgive/laws.FnExactGiveBookOk", spec := "fnExactGiveBookOk", apart := false, narrowed := true }
def FnExactGiveBookOkUptoSaid : Prop := fnExactGiveBookOkUptoRow.holds Try.pinned (OpenSpec.upto fnExactGiveBookOkSpec)

/-- 'laws.FnExactGiveFree', WHERE WHAT IT READS IS OF BULK AT MOST 1048576: true; the input reads as it did. -/
def fnExactGiveFreeUptoRow : OpenClaim := { program := "ytenccnpdaldkfaa", sum := "955b0a56ab4b35ce4623b2fcb1645bbbe2860a65a58641e4f4a9d46693cab866", func := "loop.example/lapgive/laws.FnExactGiveFree", spec := "fnExactGiveFree", apart := false, narrowed := true }
def FnExactGiveFreeUptoSaid : Prop := fnExactGiveFreeUptoRow.holds Try.pinned (OpenSpec.upto fnExactGiveFreeSpec)

/-- 'laws.FnExactGiveEarliest', WHERE WHAT IT READS IS OF BULK AT MOST 1048576: true; the input reads as it did. -/
def fnExactGiveEarliestUptoRow : OpenClaim := { program := "ytenccnpdaldkfaa", sum := "955b0a56ab4b35ce4623b2fcb1645bbbe2860a65a58641e4f4a9d46693cab866", func := "loop.example/lapgive/laws.FnExactGiveEarliest", spec := "fnExactGiveEarliest", unfollowed := true, recurses := true, apart := false, narrowed := true }
def FnExactGiveEarliestUptoSaid : Prop := fnExactGiveEarliestUptoRow.holds Try.pinned (OpenSpec.upto fnExactGiveEarliestSpec)

/-- 'laws.FnExactGiveBars', WHERE WHAT IT READS IS OF BULK AT MOST 1048576: true; the input reads as it did. -/
def fnExactGiveBarsUptoRow : OpenClaim := { program := "ytenccnpdaldkfaa", sum := "955b0a56ab4b35ce4623b2fcb1645bbbe2860a65a58641e4f4a9d46693cab866", func := "loop.example/lapgive/laws.FnExactGiveBars", spec := "fnExactGiveBars", unfollowed := true, recurses := true, apart := false, narrowed := true }
def FnExactGiveBarsUptoSaid : Prop := fnExactGiveBarsUptoRow.holds Try.pinned (OpenSpec.upto fnExactGiveBarsSpec)

/-- 'laws.FnExactGiveHear', WHERE WHAT IT READS IS OF BULK AT MOST 1048576: true; the input reads as it did. -/
def fnExactGiveHearUptoRow : OpenClaim := { program := "ytenccnpdaldkfaa", sum := "955b0a56ab4b35ce4623b2fcb1645bbbe2860a65a58641e4f4a9d46693cab866", func := "loop.example/lapgive/laws.FnExactGiveHear", spec := "fnExactGiveHear", apart := false, narrowed := true }
def FnExactGiveHearUptoSaid : Prop := fnExactGiveHearUptoRow.holds Try.pinned (OpenSpec.upto fnExactGiveHearSpec)

/-- 'laws.FnExactGiveTick', WHERE WHAT IT READS IS OF BULK AT MOST 1048576: true; the input reads as it did. -/
def fnExactGiveTickUptoRow : OpenClaim := { program := "ytenccnpdaldkfaa", sum := "955b0a56ab4b35ce4623b2fcb1645bbbe2860a65a58641e4f4a9d46693cab866", func := "loop.example/lapgive/laws.FnExactGiveTick", spec := "fnExactGiveTick", apart := false, narrowed := true }
def FnExactGiveTickUptoSaid : Prop := fnExactGiveTickUptoRow.holds Try.pinned (OpenSpec.upto fnExactGiveTickSpec)

/-- 'laws.FnExactGiveAmend', WHERE WHAT IT READS IS OF BULK AT MOST 1048576: true; the input reads as it did. -/
def fnExactGiveAmendUptoRow : OpenClaim := { program := "ytenccnpdaldkfaa", sum := "955b0a56ab4b35ce4623b2fcb1645bbbe2860a65a58641e4f4a9d46693cab866", func := "loop.example/lapgive/laws.FnExactGiveAmend", spec := "fnExactGiveAmend", apart := false, narrowed := true }
def FnExactGiveAmendUptoSaid : Prop := fnExactGiveAmendUptoRow.holds Try.pinned (OpenSpec.upto fnExactGiveAmendSpec)

/-- 'laws.FnBars', WHERE WHAT IT READS IS OF BULK AT MOST 1048576: true; the input reads as it did. -/
def fnBarsUptoRow : OpenClaim := { program := "ytenccnpdaldkfaa", sum := "955b0a56ab4b35ce4623b2fcb1645bbbe2860a65a58641e4f4a9d46693cab866", func := "loop.example/lapgive/laws.FnBars", spec := "fnBars", unfollowed := true, recurses := true, apart := false, narrowed := true }
def FnBarsUptoSaid : Prop := fnBarsUptoRow.holds Try.pinned (OpenSpec.upto fnBarsSpec)

/-- 'laws.FnTick', WHERE WHAT IT READS IS OF BULK AT MOST 1048576: true; the input reads as it did. -/
def fnTickUptoRow : OpenClaim := { program := "ytenccnpdaldkfaa", sum := "955b0a56ab4b35ce4623b2fcb1645bbbe2860a65a58641e4f4a9d46693cab866", func := "loop.example/lapgive/laws.FnTick", spec := "fnTick", apart := false, narrowed := true }
def FnTickUptoSaid : Prop := fnTickUptoRow.holds Try.pinned (OpenSpec.upto fnTickSpec)

/-- 'laws.FnExactGiveBest', WHERE WHAT IT READS IS OF BULK AT MOST 1048576: true; the input reads as it did. -/
def fnExactGiveBestUptoRow : OpenClaim := { program := "ytenccnpdaldkfaa", sum := "955b0a56ab4b35ce4623b2fcb1645bbbe2860a65a58641e4f4a9d46693cab866", func := "loop.example/lapgive/laws.FnExactGiveBest", spec := "fnExactGiveBest", unfollowed := true, recurses := true, apart := false, narrowed := true }
def FnExactGiveBestUptoSaid : Prop := fnExactGiveBestUptoRow.holds Try.pinned (OpenSpec.upto fnExactGiveBestSpec)

/-- 'laws.FnAmend', WHERE WHAT IT READS IS OF BULK AT MOST 1048576: true; the input reads as it did. -/
def fnAmendUptoRow : OpenClaim := { program := "ytenccnpdaldkfaa", sum := "955b0a56ab4b35ce4623b2fcb1645bbbe2860a65a58641e4f4a9d46693cab866", func := "loop.example/lapgive/laws.FnAmend", spec := "fnAmend", apart := false, narrowed := true }
def FnAmendUptoSaid : Prop := fnAmendUptoRow.holds Try.pinned (OpenSpec.upto fnAmendSpec)

/-- 'laws.FnBest', WHERE WHAT IT READS IS OF BULK AT MOST 1048576: true; the input reads as it did. -/
def fnBestUptoRow : OpenClaim := { program := "ytenccnpdaldkfaa", sum := "955b0a56ab4b35ce4623b2fcb1645bbbe2860a65a58641e4f4a9d46693cab866", func := "loop.example/lapgive/laws.FnBest", spec := "fnBest", unfollowed := true, recurses := true, apart := false, narrowed := true }
def FnBestUptoSaid : Prop := fnBestUptoRow.holds Try.pinned (OpenSpec.upto fnBestSpec)

/-- 'laws.FnExactGiveChoices', WHERE WHAT IT READS IS OF BULK AT MOST 1048576: true; the input reads as it did. -/
def fnExactGiveChoicesUptoRow : OpenClaim := { program := "ytenccnpdaldkfaa", sum := "955b0a56ab4b35ce4623b2fcb1645bbbe2860a65a58641e4f4a9d46693cab866", func := "loop.example/lapgive/laws.FnExactGiveChoices", spec := "fnExactGiveChoices", unfollowed := true, recurses := true, apart := false, narrowed := true }
def FnExactGiveChoicesUptoSaid : Prop := fnExactGiveChoicesUptoRow.holds Try.pinned (OpenSpec.upto fnExactGiveChoicesSpec)

end Rows
end Go.Proofs.Ytenccnpdaldkfaa
