/-
  No cell of these rows narrows 'for every input' (looked for: loops, veiled, ifaces, maps, wideKeys, modest, calm, conditions, laid).
  DERIVED. THE GIVEN ROWS OF THIS SEAT. 19 by the template 'for every input the law returns true; each argument reads behind the call as it read before'; 0 by the template 'total and deterministic' (their statements: YtnkgcegeinemjaaTotals.lean).
  GIVEN WITH THE SEED: the statements are not yours to turn. If you find one false, say at which input.
  Laid BY PROGRAM, IN A SANDBOX (cutbox-rows.mjs): the forced cells as the released guide's own fill.sh prints them over the translation be84d6548ecb7b58… (all of the seat's roots in one cut). By AI agents, Wed Nov 11 2026. No macro, syntax, notation, axiom, sorry.
-/
import Derived.Test.YtnkgcegeinemjaaChecked
import GoSem.Claim
import GoSem.ClaimJoined
import GoSem.ClaimMapViews
import Derived.JoinedTies
import Derived.KernelRfl
namespace Go.Proofs.Ytnkgcegeinemjaa
/- THE CELL 'sum', in the pinned program and in every row, IS THE sha256 OF THE DUMP (.gsa) THAT YtnkgcegeinemjaaProg.lean LOADS. Nothing in Lean hashes anything: it is a label: what it is worth is what the hold of that sum in a sandbox is worth. -/
noncomputable def Try.pinned : Pinned := { name := "ytnkgcegeinemjaa", sum := "be84d6548ecb7b582aa8c58da5ca5fda32bc360a4c1c81ac18f1f8e5385c2af1", checked := Try.checked }
namespace Rows
def none {H : Type} : Left H := { results := [], args := [] }

/-- 'laws.FnExactProbeOk': WHATEVER THE INPUT: true; the input reads as it did. -/
def fnExactProbeOkSpec : ChangeSpec := { name := "fnExactProbeOk", fn := fun _ => fun
  | [d] => { results := [.lit (.bool true)], args := [d] }
  | _ => none }
def fnExactProbeOkRow : OpenClaim := { program := "ytnkgcegeinemjaa", sum := "be84d6548ecb7b582aa8c58da5ca5fda32bc360a4c1c81ac18f1f8e5385c2af1", func := "loop.example/g01277/laws.FnExactProbeOk", spec := "fnExactProbeOk", apart := false }
def FnExactProbeOkSaid : Prop := fnExactProbeOkRow.holds Try.pinned (OpenSpec.ofChange fnExactProbeOkSpec)

/-- ITS FALSE NEIGHBOUR: 'it returns false'. Refute it at one input. -/
def fnExactProbeOkWrong : ChangeSpec := { name := "fnExactProbeOk", fn := fun _ => fun
  | [d] => { results := [.lit (.bool false)], args := [d] }
  | _ => none }
def FnExactProbeOkWrongFalsely : Prop := fnExactProbeOkRow.holds Try.pinned (OpenSpec.ofChange fnExactProbeOkWrong)

/-- 'laws.FnExactProbeNew': WHATEVER THE INPUT: true; the input reads as it did. -/
def fnExactProbeNewSpec : ChangeSpec := { name := "fnExactProbeNew", fn := fun _ => fun
  | [d] => { results := [.lit (.bool true)], args := [d] }
  | _ => none }
def fnExactProbeNewRow : OpenClaim := { program := "ytnkgcegeinemjaa", sum := "be84d6548ecb7b582aa8c58da5ca5fda32bc360a4c1c81ac18f1f8e5385c2af1", func := "loop.example/g01277/laws.FnExactProbeNew", spec := "fnExactProbeNew", apart := false }
def FnExactProbeNewSaid : Prop := fnExactProbeNewRow.holds Try.pinned (OpenSpec.ofChange fnExactProbeNewSpec)

/-- ITS FALSE NEIGHBOUR: 'it returns false'. Refute it at one input. -/
def fnExactProbeNewWrong : ChangeSpec := { name := "fnExactProbeNew", fn := fun _ => fun
  | [d] => { results := [.lit (.bool false)], args := [d] }
  | _ => none }
def FnExactProbeNewWrongFalsely : Prop := fnExactProbeNewRow.holds Try.pinned (OpenSpec.ofChange fnExactProbeNewWrong)

/-- 'laws.FnExactProbeStep': WHATEVER THE INPUT: true; the input reads as it did. -/
def fnExactProbeStepSpec : ChangeSpec := { name := "fnExactProbeStep", fn := fun _ => fun
  | [d1, d2, d3] => { results := [.lit (.bool true)], args := [d1, d2, d3] }
  | _ => none }
def fnExactProbeStepRow : OpenClaim := { program := "ytnkgcegeinemjaa", sum := "be84d6548ecb7b582aa8c58da5ca5fda32bc360a4c1c81ac18f1f8e5385c2af1", func := "loop.example/g01277/laws.FnExactProbeStep", spec := "fnExactProbeStep", apart := false }
def FnExactProbeStepSaid : Prop := fnExactProbeStepRow.holds Try.pinned (OpenSpec.ofChange fnExactProbeStepSpec)

/-- ITS FALSE NEIGHBOUR: 'it returns false'. Refute it at one input. -/
def fnExactProbeStepWrong : ChangeSpec := { name := "fnExactProbeStep", fn := fun _ => fun
  | [d1, d2, d3] => { results := [.lit (.bool false)], args := [d1, d2, d3] }
  | _ => none }
def FnExactProbeStepWrongFalsely : Prop := fnExactProbeStepRow.holds Try.pinned (OpenSpec.ofChange fnExactProbeStepWrong)

/-- 'laws.FnProbe': WHATEVER THE INPUT: true; the input reads as it did. -/
def fnProbeSpec : ChangeSpec := { name := "fnProbe", fn := fun _ => fun
  | [d] => { results := [.lit (.bool true)], args := [d] }
  | _ => none }
def fnProbeRow : OpenClaim := { program := "ytnkgcegeinemjaa", sum := "be84d6548ecb7b582aa8c58da5ca5fda32bc360a4c1c81ac18f1f8e5385c2af1", func := "loop.example/g01277/laws.FnProbe", spec := "fnProbe", apart := false }
def FnProbeSaid : Prop := fnProbeRow.holds Try.pinned (OpenSpec.ofChange fnProbeSpec)

/-- ITS FALSE NEIGHBOUR: 'it returns false'. Refute it at one input. -/
def fnProbeWrong : ChangeSpec := { name := "fnProbe", fn := fun _ => fun
  | [d] => { results := [.lit (.bool false)], args := [d] }
  | _ => none }
def FnProbeWrongFalsely : Prop := fnProbeRow.holds Try.pinned (OpenSpec.ofChange fnProbeWrong)

/-- 'laws.FnExactHoldsOk': WHATEVER THE INPUT: true; the input reads as it did. -/
def fnExactHoldsOkSpec : ChangeSpec := { name := "fnExactHoldsOk", fn := fun _ => fun
  | [d] => { results := [.lit (.bool true)], args := [d] }
  | _ => none }
def fnExactHoldsOkRow : OpenClaim := { program := "ytnkgcegeinemjaa", sum := "be84d6548ecb7b582aa8c58da5ca5fda32bc360a4c1c81ac18f1f8e5385c2af1", func := "loop.example/g01277/laws.FnExactHoldsOk", spec := "fnExactHoldsOk", apart := false }
def FnExactHoldsOkSaid : Prop := fnExactHoldsOkRow.holds Try.pinned (OpenSpec.ofChange fnExactHoldsOkSpec)

/-- ITS FALSE NEIGHBOUR: 'it returns false'. Refute it at one input. -/
def fnExactHoldsOkWrong : ChangeSpec := { name := "fnExactHoldsOk", fn := fun _ => fun
  | [d] => { results := [.lit (.bool false)], args := [d] }
  | _ => none }
def FnExactHoldsOkWrongFalsely : Prop := fnExactHoldsOkRow.holds Try.pinned (OpenSpec.ofChange fnExactHoldsOkWrong)

/-- 'laws.FnExactHoldOf': WHATEVER THE INPUT: true; the input reads as it did. -/
def fnExactHoldOfSpec : ChangeSpec := { name := "fnExactHoldOf", fn := fun _ => fun
  | [d1, d2, d3] => { results := [.lit (.bool true)], args := [d1, d2, d3] }
  | _ => none }
def fnExactHoldOfRow : OpenClaim := { program := "ytnkgcegeinemjaa", sum := "be84d6548ecb7b582aa8c58da5ca5fda32bc360a4c1c81ac18f1f8e5385c2af1", func := "loop.example/g01277/laws.FnExactHoldOf", spec := "fnExactHoldOf", apart := false }
def FnExactHoldOfSaid : Prop := fnExactHoldOfRow.holds Try.pinned (OpenSpec.ofChange fnExactHoldOfSpec)

/-- ITS FALSE NEIGHBOUR: 'it returns false'. Refute it at one input. -/
def fnExactHoldOfWrong : ChangeSpec := { name := "fnExactHoldOf", fn := fun _ => fun
  | [d1, d2, d3] => { results := [.lit (.bool false)], args := [d1, d2, d3] }
  | _ => none }
def FnExactHoldOfWrongFalsely : Prop := fnExactHoldOfRow.holds Try.pinned (OpenSpec.ofChange fnExactHoldOfWrong)

/-- 'laws.FnExactBlocks': WHATEVER THE INPUT: true; the input reads as it did. -/
def fnExactBlocksSpec : ChangeSpec := { name := "fnExactBlocks", fn := fun _ => fun
  | [d1, d2, d3, d4] => { results := [.lit (.bool true)], args := [d1, d2, d3, d4] }
  | _ => none }
def fnExactBlocksRow : OpenClaim := { program := "ytnkgcegeinemjaa", sum := "be84d6548ecb7b582aa8c58da5ca5fda32bc360a4c1c81ac18f1f8e5385c2af1", func := "loop.example/g01277/laws.FnExactBlocks", spec := "fnExactBlocks", apart := false }
def FnExactBlocksSaid : Prop := fnExactBlocksRow.holds Try.pinned (OpenSpec.ofChange fnExactBlocksSpec)

/-- ITS FALSE NEIGHBOUR: 'it returns false'. Refute it at one input. -/
def fnExactBlocksWrong : ChangeSpec := { name := "fnExactBlocks", fn := fun _ => fun
  | [d1, d2, d3, d4] => { results := [.lit (.bool false)], args := [d1, d2, d3, d4] }
  | _ => none }
def FnExactBlocksWrongFalsely : Prop := fnExactBlocksRow.holds Try.pinned (OpenSpec.ofChange fnExactBlocksWrong)

/-- 'laws.FnExactHoldFree': WHATEVER THE INPUT: true; the input reads as it did. -/
def fnExactHoldFreeSpec : ChangeSpec := { name := "fnExactHoldFree", fn := fun _ => fun
  | [d1, d2] => { results := [.lit (.bool true)], args := [d1, d2] }
  | _ => none }
def fnExactHoldFreeRow : OpenClaim := { program := "ytnkgcegeinemjaa", sum := "be84d6548ecb7b582aa8c58da5ca5fda32bc360a4c1c81ac18f1f8e5385c2af1", func := "loop.example/g01277/laws.FnExactHoldFree", spec := "fnExactHoldFree", unfollowed := true, recurses := true, apart := false }
def FnExactHoldFreeSaid : Prop := fnExactHoldFreeRow.holds Try.pinned (OpenSpec.ofChange fnExactHoldFreeSpec)

/-- ITS FALSE NEIGHBOUR: 'it returns false'. Refute it at one input. -/
def fnExactHoldFreeWrong : ChangeSpec := { name := "fnExactHoldFree", fn := fun _ => fun
  | [d1, d2] => { results := [.lit (.bool false)], args := [d1, d2] }
  | _ => none }
def FnExactHoldFreeWrongFalsely : Prop := fnExactHoldFreeRow.holds Try.pinned (OpenSpec.ofChange fnExactHoldFreeWrong)

/-- 'laws.FnExactHoldsBy': WHATEVER THE INPUT: true; the input reads as it did. -/
def fnExactHoldsBySpec : ChangeSpec := { name := "fnExactHoldsBy", fn := fun _ => fun
  | [d1, d2] => { results := [.lit (.bool true)], args := [d1, d2] }
  | _ => none }
def fnExactHoldsByRow : OpenClaim := { program := "ytnkgcegeinemjaa", sum := "be84d6548ecb7b582aa8c58da5ca5fda32bc360a4c1c81ac18f1f8e5385c2af1", func := "loop.example/g01277/laws.FnExactHoldsBy", spec := "fnExactHoldsBy", apart := false }
def FnExactHoldsBySaid : Prop := fnExactHoldsByRow.holds Try.pinned (OpenSpec.ofChange fnExactHoldsBySpec)

/-- ITS FALSE NEIGHBOUR: 'it returns false'. Refute it at one input. -/
def fnExactHoldsByWrong : ChangeSpec := { name := "fnExactHoldsBy", fn := fun _ => fun
  | [d1, d2] => { results := [.lit (.bool false)], args := [d1, d2] }
  | _ => none }
def FnExactHoldsByWrongFalsely : Prop := fnExactHoldsByRow.holds Try.pinned (OpenSpec.ofChange fnExactHoldsByWrong)

/-- 'laws.FnExactHoldAsk': WHATEVER THE INPUT: true; the input reads as it did. -/
def fnExactHoldAskSpec : ChangeSpec := { name := "fnExactHoldAsk", fn := fun _ => fun
  | [d1, d2, d3, d4] => { results := [.lit (.bool true)], args := [d1, d2, d3, d4] }
  | _ => none }
def fnExactHoldAskRow : OpenClaim := { program := "ytnkgcegeinemjaa", sum := "be84d6548ecb7b582aa8c58da5ca5fda32bc360a4c1c81ac18f1f8e5385c2af1", func := "loop.example/g01277/laws.FnExactHoldAsk", spec := "fnExactHoldAsk", unfollowed := true, recurses := true, apart := false }
def FnExactHoldAskSaid : Prop := fnExactHoldAskRow.holds Try.pinned (OpenSpec.ofChange fnExactHoldAskSpec)

/-- ITS FALSE NEIGHBOUR: 'it returns false'. Refute it at one input. -/
def fnExactHoldAskWrong : ChangeSpec := { name := "fnExactHoldAsk", fn := fun _ => fun
  | [d1, d2, d3, d4] => { results := [.lit (.bool false)], args := [d1, d2, d3, d4] }
  | _ => none }
def FnExactHoldAskWrongFalsely : Prop := fnExactHoldAskRow.holds Try.pinned (OpenSpec.ofChange fnExactHoldAskWrong)

/-- 'laws.FnHolds': WHATEVER THE INPUT: true; the input reads as it did. -/
def fnHoldsSpec : ChangeSpec := { name := "fnHolds", fn := fun _ => fun
  | [d] => { results := [.lit (.bool true)], args := [d] }
  | _ => none }
def fnHoldsRow : OpenClaim := { program := "ytnkgcegeinemjaa", sum := "be84d6548ecb7b582aa8c58da5ca5fda32bc360a4c1c81ac18f1f8e5385c2af1", func := "loop.example/g01277/laws.FnHolds", spec := "fnHolds", unfollowed := true, recurses := true, apart := false }
def FnHoldsSaid : Prop := fnHoldsRow.holds Try.pinned (OpenSpec.ofChange fnHoldsSpec)

/-- ITS FALSE NEIGHBOUR: 'it returns false'. Refute it at one input. -/
def fnHoldsWrong : ChangeSpec := { name := "fnHolds", fn := fun _ => fun
  | [d] => { results := [.lit (.bool false)], args := [d] }
  | _ => none }
def FnHoldsWrongFalsely : Prop := fnHoldsRow.holds Try.pinned (OpenSpec.ofChange fnHoldsWrong)

/-- 'laws.FnExactCommitOk': WHATEVER THE INPUT: true; the input reads as it did. -/
def fnExactCommitOkSpec : ChangeSpec := { name := "fnExactCommitOk", fn := fun _ => fun
  | [d] => { results := [.lit (.bool true)], args := [d] }
  | _ => none }
def fnExactCommitOkRow : OpenClaim := { program := "ytnkgcegeinemjaa", sum := "be84d6548ecb7b582aa8c58da5ca5fda32bc360a4c1c81ac18f1f8e5385c2af1", func := "loop.example/g01277/laws.FnExactCommitOk", spec := "fnExactCommitOk", apart := false }
def FnExactCommitOkSaid : Prop := fnExactCommitOkRow.holds Try.pinned (OpenSpec.ofChange fnExactCommitOkSpec)

/-- ITS FALSE NEIGHBOUR: 'it returns false'. Refute it at one input. -/
def fnExactCommitOkWrong : ChangeSpec := { name := "fnExactCommitOk", fn := fun _ => fun
  | [d] => { results := [.lit (.bool false)], args := [d] }
  | _ => none }
def FnExactCommitOkWrongFalsely : Prop := fnExactCommitOkRow.holds Try.pinned (OpenSpec.ofChange fnExactCommitOkWrong)

/-- 'laws.FnExactCommitLeft': WHATEVER THE INPUT: true; the input reads as it did. -/
def fnExactCommitLeftSpec : ChangeSpec := { name := "fnExactCommitLeft", fn := fun _ => fun
  | [d] => { results := [.lit (.bool true)], args := [d] }
  | _ => none }
def fnExactCommitLeftRow : OpenClaim := { program := "ytnkgcegeinemjaa", sum := "be84d6548ecb7b582aa8c58da5ca5fda32bc360a4c1c81ac18f1f8e5385c2af1", func := "loop.example/g01277/laws.FnExactCommitLeft", spec := "fnExactCommitLeft", apart := false }
def FnExactCommitLeftSaid : Prop := fnExactCommitLeftRow.holds Try.pinned (OpenSpec.ofChange fnExactCommitLeftSpec)

/-- ITS FALSE NEIGHBOUR: 'it returns false'. Refute it at one input. -/
def fnExactCommitLeftWrong : ChangeSpec := { name := "fnExactCommitLeft", fn := fun _ => fun
  | [d] => { results := [.lit (.bool false)], args := [d] }
  | _ => none }
def FnExactCommitLeftWrongFalsely : Prop := fnExactCommitLeftRow.holds Try.pinned (OpenSpec.ofChange fnExactCommitLeftWrong)

/-- 'laws.FnExactCommitNew': WHATEVER THE INPUT: true; the input reads as it did. -/
def fnExactCommitNewSpec : ChangeSpec := { name := "fnExactCommitNew", fn := fun _ => fun
  | [d1, d2, d3, d4] => { results := [.lit (.bool true)], args := [d1, d2, d3, d4] }
  | _ => none }
def fnExactCommitNewRow : OpenClaim := { program := "ytnkgcegeinemjaa", sum := "be84d6548ecb7b582aa8c58da5ca5fda32bc360a4c1c81ac18f1f8e5385c2af1", func := "loop.example/g01277/laws.FnExactCommitNew", spec := "fnExactCommitNew", apart := false }
def FnExactCommitNewSaid : Prop := fnExactCommitNewRow.holds Try.pinned (OpenSpec.ofChange fnExactCommitNewSpec)

/-- ITS FALSE NEIGHBOUR: 'it returns false'. Refute it at one input. -/
def fnExactCommitNewWrong : ChangeSpec := { name := "fnExactCommitNew", fn := fun _ => fun
  | [d1, d2, d3, d4] => { results := [.lit (.bool false)], args := [d1, d2, d3, d4] }
  | _ => none }
def FnExactCommitNewWrongFalsely : Prop := fnExactCommitNewRow.holds Try.pinned (OpenSpec.ofChange fnExactCommitNewWrong)

/-- 'laws.FnExactCommitBreak': WHATEVER THE INPUT: true; the input reads as it did. -/
def fnExactCommitBreakSpec : ChangeSpec := { name := "fnExactCommitBreak", fn := fun _ => fun
  | [d] => { results := [.lit (.bool true)], args := [d] }
  | _ => none }
def fnExactCommitBreakRow : OpenClaim := { program := "ytnkgcegeinemjaa", sum := "be84d6548ecb7b582aa8c58da5ca5fda32bc360a4c1c81ac18f1f8e5385c2af1", func := "loop.example/g01277/laws.FnExactCommitBreak", spec := "fnExactCommitBreak", apart := false }
def FnExactCommitBreakSaid : Prop := fnExactCommitBreakRow.holds Try.pinned (OpenSpec.ofChange fnExactCommitBreakSpec)

/-- ITS FALSE NEIGHBOUR: 'it returns false'. Refute it at one input. -/
def fnExactCommitBreakWrong : ChangeSpec := { name := "fnExactCommitBreak", fn := fun _ => fun
  | [d] => { results := [.lit (.bool false)], args := [d] }
  | _ => none }
def FnExactCommitBreakWrongFalsely : Prop := fnExactCommitBreakRow.holds Try.pinned (OpenSpec.ofChange fnExactCommitBreakWrong)

/-- 'laws.FnExactCommitStep': WHATEVER THE INPUT: true; the input reads as it did. -/
def fnExactCommitStepSpec : ChangeSpec := { name := "fnExactCommitStep", fn := fun _ => fun
  | [d1, d2] => { results := [.lit (.bool true)], args := [d1, d2] }
  | _ => none }
def fnExactCommitStepRow : OpenClaim := { program := "ytnkgcegeinemjaa", sum := "be84d6548ecb7b582aa8c58da5ca5fda32bc360a4c1c81ac18f1f8e5385c2af1", func := "loop.example/g01277/laws.FnExactCommitStep", spec := "fnExactCommitStep", apart := false }
def FnExactCommitStepSaid : Prop := fnExactCommitStepRow.holds Try.pinned (OpenSpec.ofChange fnExactCommitStepSpec)

/-- ITS FALSE NEIGHBOUR: 'it returns false'. Refute it at one input. -/
def fnExactCommitStepWrong : ChangeSpec := { name := "fnExactCommitStep", fn := fun _ => fun
  | [d1, d2] => { results := [.lit (.bool false)], args := [d1, d2] }
  | _ => none }
def FnExactCommitStepWrongFalsely : Prop := fnExactCommitStepRow.holds Try.pinned (OpenSpec.ofChange fnExactCommitStepWrong)

/-- 'laws.FnCommits': WHATEVER THE INPUT: true; the input reads as it did. -/
def fnCommitsSpec : ChangeSpec := { name := "fnCommits", fn := fun _ => fun
  | [d] => { results := [.lit (.bool true)], args := [d] }
  | _ => none }
def fnCommitsRow : OpenClaim := { program := "ytnkgcegeinemjaa", sum := "be84d6548ecb7b582aa8c58da5ca5fda32bc360a4c1c81ac18f1f8e5385c2af1", func := "loop.example/g01277/laws.FnCommits", spec := "fnCommits", apart := false }
def FnCommitsSaid : Prop := fnCommitsRow.holds Try.pinned (OpenSpec.ofChange fnCommitsSpec)

/-- ITS FALSE NEIGHBOUR: 'it returns false'. Refute it at one input. -/
def fnCommitsWrong : ChangeSpec := { name := "fnCommits", fn := fun _ => fun
  | [d] => { results := [.lit (.bool false)], args := [d] }
  | _ => none }
def FnCommitsWrongFalsely : Prop := fnCommitsRow.holds Try.pinned (OpenSpec.ofChange fnCommitsWrong)

/-- 'laws.FnBroken': WHATEVER THE INPUT: true; the input reads as it did. -/
def fnBrokenSpec : ChangeSpec := { name := "fnBroken", fn := fun _ => fun
  | [d] => { results := [.lit (.bool true)], args := [d] }
  | _ => none }
def fnBrokenRow : OpenClaim := { program := "ytnkgcegeinemjaa", sum := "be84d6548ecb7b582aa8c58da5ca5fda32bc360a4c1c81ac18f1f8e5385c2af1", func := "loop.example/g01277/laws.FnBroken", spec := "fnBroken", apart := false }
def FnBrokenSaid : Prop := fnBrokenRow.holds Try.pinned (OpenSpec.ofChange fnBrokenSpec)

/-- ITS FALSE NEIGHBOUR: 'it returns false'. Refute it at one input. -/
def fnBrokenWrong : ChangeSpec := { name := "fnBroken", fn := fun _ => fun
  | [d] => { results := [.lit (.bool false)], args := [d] }
  | _ => none }
def FnBrokenWrongFalsely : Prop := fnBrokenRow.holds Try.pinned (OpenSpec.ofChange fnBrokenWrong)

/-- 'laws.FnLogs': WHATEVER THE INPUT: true; the input reads as it did. -/
def fnLogsSpec : ChangeSpec := { name := "fnLogs", fn := fun _ => fun
  | [d] => { results := [.lit (.bool true)], args := [d] }
  | _ => none }
def fnLogsRow : OpenClaim := { program := "ytnkgcegeinemjaa", sum := "be84d6548ecb7b582aa8c58da5ca5fda32bc360a4c1c81ac18f1f8e5385c2af1", func := "loop.example/g01277/laws.FnLogs", spec := "fnLogs", apart := false }
def FnLogsSaid : Prop := fnLogsRow.holds Try.pinned (OpenSpec.ofChange fnLogsSpec)

/-- ITS FALSE NEIGHBOUR: 'it returns false'. Refute it at one input. -/
def fnLogsWrong : ChangeSpec := { name := "fnLogs", fn := fun _ => fun
  | [d] => { results := [.lit (.bool false)], args := [d] }
  | _ => none }
def FnLogsWrongFalsely : Prop := fnLogsRow.holds Try.pinned (OpenSpec.ofChange fnLogsWrong)

/- THE SECOND FORM. 'bulk': how many values and letters a reading holds, each counted each time it is reached (what is shared counts as often as it is met; a slice's spare places count too). A statement '..UptoSaid' is the law's where the arguments, and the package variables that the reading takes, are together of bulk at most 1048576: NARROWER than '..Said'. Prove '..Said' where nothing that the law and all that it calls make is longer than what came in: it says more and counts as full. Else prove '..UptoSaid'. A law counts once. -/
mutual
def uptoBulk {H : Type} : DataW H → Nat
  | .lit (.string bytes) => bytes.length + 1
  | .lit _ => 1
  | .nil => 1
  | .ptr d => uptoBulk d + 1
  | .slice elems spare => uptoBulkAll elems + uptoBulkAll spare + 1
  | .agg parts => uptoBulkAll parts + 1
  | .iface _ d => uptoBulk d + 1
  | .map entries => uptoBulkEntries entries + 1
  | .held _ => 1
def uptoBulkAll {H : Type} : List (DataW H) → Nat
  | [] => 0
  | d :: r => uptoBulk d + uptoBulkAll r
def uptoBulkEntries {H : Type} : List (Lit × DataW H) → Nat
  | [] => 0
  | x :: r => uptoBulkEntry x + uptoBulkEntries r
def uptoBulkEntry {H : Type} : Lit × DataW H → Nat
  | (.string bytes, d) => bytes.length + uptoBulk d + 1
  | (_, d) => uptoBulk d + 1
 end
def uptoSmall : (H : Type) → List (DataW H) → Bool := fun _ ds => decide (uptoBulkAll ds ≤ 1048576)
def OpenSpec.upto (s : _root_.Go.ChangeSpec) : _root_.Go.OpenSpec := { _root_.Go.OpenSpec.ofChange s with cond := some uptoSmall }

/-- 'laws.FnExactProbeOk', WHERE WHAT IT READS IS OF BULK AT MOST 1048576: true; the input reads as it did. -/
def fnExactProbeOkUptoRow : OpenClaim := { program := "ytnkgcegeinemjaa", sum := "be84d6548ecb7b582aa8c58da5ca5fda32bc360a4c1c81ac18f1f8e5385c2af1", func := "loop.example/g01277/laws.FnExactProbeOk", spec := "fnExactProbeOk", apart := false, narrowed := true }
def FnExactProbeOkUptoSaid : Prop := fnExactProbeOkUptoRow.holds Try.pinned (OpenSpec.upto fnExactProbeOkSpec)

/-- 'laws.FnExactProbeNew', WHERE WHAT IT READS IS OF BULK AT MOST 1048576: true; the input reads as it did. -/
def fnExactProbeNewUptoRow : OpenClaim := { program := "ytnkgcegeinemjaa", sum := "be84d6548ecb7b582aa8c58da5ca5fda32bc360a4c1c81ac18f1f8e5385c2af1", func := "loop.example/g01277/laws.FnExactProbeNew", spec := "fnExactProbeNew", apart := false, narrowed := true }
def FnExactProbeNewUptoSaid : Prop := fnExactProbeNewUptoRow.holds Try.pinned (OpenSpec.upto fnExactProbeNewSpec)

/-- 'laws.FnExactProbeStep', WHERE WHAT IT READS IS OF BULK AT MOST 1048576: true; the input reads as it did. -/
def fnExactProbeStepUptoRow : OpenClaim := { program := "ytnkgcegeinemjaa", sum := "be84d6548ecb7b582aa8c58da5ca5fda32bc360a4c1c81ac18f1f8e5385c2af1", func := "loop.example/g01277/laws.FnExactProbeStep", spec := "fnExactProbeStep", apart := false, narrowed := true }
def FnExactProbeStepUptoSaid : Prop := fnExactProbeStepUptoRow.holds Try.pinned (OpenSpec.upto fnExactProbeStepSpec)

/-- 'laws.FnProbe', WHERE WHAT IT READS IS OF BULK AT MOST 1048576: true; the input reads as it did. -/
def fnProbeUptoRow : OpenClaim := { program := "ytnkgcegeinemjaa", sum := "be84d6548ecb7b582aa8c58da5ca5fda32bc360a4c1c81ac18f1f8e5385c2af1", func := "loop.example/g01277/laws.FnProbe", spec := "fnProbe", apart := false, narrowed := true }
def FnProbeUptoSaid : Prop := fnProbeUptoRow.holds Try.pinned (OpenSpec.upto fnProbeSpec)

/-- 'laws.FnExactHoldsOk', WHERE WHAT IT READS IS OF BULK AT MOST 1048576: true; the input reads as it did. -/
def fnExactHoldsOkUptoRow : OpenClaim := { program := "ytnkgcegeinemjaa", sum := "be84d6548ecb7b582aa8c58da5ca5fda32bc360a4c1c81ac18f1f8e5385c2af1", func := "loop.example/g01277/laws.FnExactHoldsOk", spec := "fnExactHoldsOk", apart := false, narrowed := true }
def FnExactHoldsOkUptoSaid : Prop := fnExactHoldsOkUptoRow.holds Try.pinned (OpenSpec.upto fnExactHoldsOkSpec)

/-- 'laws.FnExactHoldOf', WHERE WHAT IT READS IS OF BULK AT MOST 1048576: true; the input reads as it did. -/
def fnExactHoldOfUptoRow : OpenClaim := { program := "ytnkgcegeinemjaa", sum := "be84d6548ecb7b582aa8c58da5ca5fda32bc360a4c1c81ac18f1f8e5385c2af1", func := "loop.example/g01277/laws.FnExactHoldOf", spec := "fnExactHoldOf", apart := false, narrowed := true }
def FnExactHoldOfUptoSaid : Prop := fnExactHoldOfUptoRow.holds Try.pinned (OpenSpec.upto fnExactHoldOfSpec)

/-- 'laws.FnExactBlocks', WHERE WHAT IT READS IS OF BULK AT MOST 1048576: true; the input reads as it did. -/
def fnExactBlocksUptoRow : OpenClaim := { program := "ytnkgcegeinemjaa", sum := "be84d6548ecb7b582aa8c58da5ca5fda32bc360a4c1c81ac18f1f8e5385c2af1", func := "loop.example/g01277/laws.FnExactBlocks", spec := "fnExactBlocks", apart := false, narrowed := true }
def FnExactBlocksUptoSaid : Prop := fnExactBlocksUptoRow.holds Try.pinned (OpenSpec.upto fnExactBlocksSpec)

/-- 'laws.FnExactHoldFree', WHERE WHAT IT READS IS OF BULK AT MOST 1048576: true; the input reads as it did. -/
def fnExactHoldFreeUptoRow : OpenClaim := { program := "ytnkgcegeinemjaa", sum := "be84d6548ecb7b582aa8c58da5ca5fda32bc360a4c1c81ac18f1f8e5385c2af1", func := "loop.example/g01277/laws.FnExactHoldFree", spec := "fnExactHoldFree", unfollowed := true, recurses := true, apart := false, narrowed := true }
def FnExactHoldFreeUptoSaid : Prop := fnExactHoldFreeUptoRow.holds Try.pinned (OpenSpec.upto fnExactHoldFreeSpec)

/-- 'laws.FnExactHoldsBy', WHERE WHAT IT READS IS OF BULK AT MOST 1048576: true; the input reads as it did. -/
def fnExactHoldsByUptoRow : OpenClaim := { program := "ytnkgcegeinemjaa", sum := "be84d6548ecb7b582aa8c58da5ca5fda32bc360a4c1c81ac18f1f8e5385c2af1", func := "loop.example/g01277/laws.FnExactHoldsBy", spec := "fnExactHoldsBy", apart := false, narrowed := true }
def FnExactHoldsByUptoSaid : Prop := fnExactHoldsByUptoRow.holds Try.pinned (OpenSpec.upto fnExactHoldsBySpec)

/-- 'laws.FnExactHoldAsk', WHERE WHAT IT READS IS OF BULK AT MOST 1048576: true; the input reads as it did. -/
def fnExactHoldAskUptoRow : OpenClaim := { program := "ytnkgcegeinemjaa", sum := "be84d6548ecb7b582aa8c58da5ca5fda32bc360a4c1c81ac18f1f8e5385c2af1", func := "loop.example/g01277/laws.FnExactHoldAsk", spec := "fnExactHoldAsk", unfollowed := true, recurses := true, apart := false, narrowed := true }
def FnExactHoldAskUptoSaid : Prop := fnExactHoldAskUptoRow.holds Try.pinned (OpenSpec.upto fnExactHoldAskSpec)

/-- 'laws.FnHolds', WHERE WHAT IT READS IS OF BULK AT MOST 1048576: true; the input reads as it did. -/
def fnHoldsUptoRow : OpenClaim := { program := "ytnkgcegeinemjaa", sum := "be84d6548ecb7b582aa8c58da5ca5fda32bc360a4c1c81ac18f1f8e5385c2af1", func := "loop.example/g01277/laws.FnHolds", spec := "fnHolds", unfollowed := true, recurses := true, apart := false, narrowed := true }
def FnHoldsUptoSaid : Prop := fnHoldsUptoRow.holds Try.pinned (OpenSpec.upto fnHoldsSpec)

/-- 'laws.FnExactCommitOk', WHERE WHAT IT READS IS OF BULK AT MOST 1048576: true; the input reads as it did. -/
def fnExactCommitOkUptoRow : OpenClaim := { program := "ytnkgcegeinemjaa", sum := "be84d6548ecb7b582aa8c58da5ca5fda32bc360a4c1c81ac18f1f8e5385c2af1", func := "loop.example/g01277/laws.FnExactCommitOk", spec := "fnExactCommitOk", apart := false, narrowed := true }
def FnExactCommitOkUptoSaid : Prop := fnExactCommitOkUptoRow.holds Try.pinned (OpenSpec.upto fnExactCommitOkSpec)

/-- 'laws.FnExactCommitLeft', WHERE WHAT IT READS IS OF BULK AT MOST 1048576: true; the input reads as it did. -/
def fnExactCommitLeftUptoRow : OpenClaim := { program := "ytnkgcegeinemjaa", sum := "be84d6548ecb7b582aa8c58da5ca5fda32bc360a4c1c81ac18f1f8e5385c2af1", func := "loop.example/g01277/laws.FnExactCommitLeft", spec := "fnExactCommitLeft", apart := false, narrowed := true }
def FnExactCommitLeftUptoSaid : Prop := fnExactCommitLeftUptoRow.holds Try.pinned (OpenSpec.upto fnExactCommitLeftSpec)

/-- 'laws.FnExactCommitNew', WHERE WHAT IT READS IS OF BULK AT MOST 1048576: true; the input reads as it did. -/
def fnExactCommitNewUptoRow : OpenClaim := { program := "ytnkgcegeinemjaa", sum := "be84d6548ecb7b582aa8c58da5ca5fda32bc360a4c1c81ac18f1f8e5385c2af1", func := "loop.example/g01277/laws.FnExactCommitNew", spec := "fnExactCommitNew", apart := false, narrowed := true }
def FnExactCommitNewUptoSaid : Prop := fnExactCommitNewUptoRow.holds Try.pinned (OpenSpec.upto fnExactCommitNewSpec)

/-- 'laws.FnExactCommitBreak', WHERE WHAT IT READS IS OF BULK AT MOST 1048576: true; the input reads as it did. -/
def fnExactCommitBreakUptoRow : OpenClaim := { program := "ytnkgcegeinemjaa", sum := "be84d6548ecb7b582aa8c58da5ca5fda32bc360a4c1c81ac18f1f8e5385c2af1", func := "loop.example/g01277/laws.FnExactCommitBreak", spec := "fnExactCommitBreak", apart := false, narrowed := true }
def FnExactCommitBreakUptoSaid : Prop := fnExactCommitBreakUptoRow.holds Try.pinned (OpenSpec.upto fnExactCommitBreakSpec)

/-- 'laws.FnExactCommitStep', WHERE WHAT IT READS IS OF BULK AT MOST 1048576: true; the input reads as it did. -/
def fnExactCommitStepUptoRow : OpenClaim := { program := "ytnkgcegeinemjaa", sum := "be84d6548ecb7b582aa8c58da5ca5fda32bc360a4c1c81ac18f1f8e5385c2af1", func := "loop.example/g01277/laws.FnExactCommitStep", spec := "fnExactCommitStep", apart := false, narrowed := true }
def FnExactCommitStepUptoSaid : Prop := fnExactCommitStepUptoRow.holds Try.pinned (OpenSpec.upto fnExactCommitStepSpec)

/-- 'laws.FnCommits', WHERE WHAT IT READS IS OF BULK AT MOST 1048576: true; the input reads as it did. -/
def fnCommitsUptoRow : OpenClaim := { program := "ytnkgcegeinemjaa", sum := "be84d6548ecb7b582aa8c58da5ca5fda32bc360a4c1c81ac18f1f8e5385c2af1", func := "loop.example/g01277/laws.FnCommits", spec := "fnCommits", apart := false, narrowed := true }
def FnCommitsUptoSaid : Prop := fnCommitsUptoRow.holds Try.pinned (OpenSpec.upto fnCommitsSpec)

/-- 'laws.FnBroken', WHERE WHAT IT READS IS OF BULK AT MOST 1048576: true; the input reads as it did. -/
def fnBrokenUptoRow : OpenClaim := { program := "ytnkgcegeinemjaa", sum := "be84d6548ecb7b582aa8c58da5ca5fda32bc360a4c1c81ac18f1f8e5385c2af1", func := "loop.example/g01277/laws.FnBroken", spec := "fnBroken", apart := false, narrowed := true }
def FnBrokenUptoSaid : Prop := fnBrokenUptoRow.holds Try.pinned (OpenSpec.upto fnBrokenSpec)

/-- 'laws.FnLogs', WHERE WHAT IT READS IS OF BULK AT MOST 1048576: true; the input reads as it did. -/
def fnLogsUptoRow : OpenClaim := { program := "ytnkgcegeinemjaa", sum := "be84d6548ecb7b582aa8c58da5ca5fda32bc360a4c1c81ac18f1f8e5385c2af1", func := "loop.example/g01277/laws.FnLogs", spec := "fnLogs", apart := false, narrowed := true }
def FnLogsUptoSaid : Prop := fnLogsUptoRow.holds Try.pinned (OpenSpec.upto fnLogsSpec)

end Rows
end Go.Proofs.Ytnkgcegeinemjaa
