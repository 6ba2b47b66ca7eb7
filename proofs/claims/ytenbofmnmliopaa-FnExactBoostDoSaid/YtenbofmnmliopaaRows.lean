/-
  No cell of these rows narrows 'for every input' (looked for: loops, veiled, ifaces, maps, wideKeys, modest, calm, conditions, laid).
  DERIVED. THE GIVEN ROWS OF THIS SEAT. 17 by the template 'for every input the law returns true; each argument reads behind the call as it read before'; 0 by the template 'total and deterministic' (their statements: YtenbofmnmliopaaTotals.lean).
  GIVEN WITH THE SEED: the statements are not yours to turn. If you find one false, say at which input.
  Laid BY PROGRAM, IN A SANDBOX (cutbox-rows.mjs): the forced cells as the released guide's own fill.sh prints them over the translation 51cab73dce4379ad… (all of the seat's roots in one cut). By AI agents, Wed Nov 11 2026. No macro, syntax, notation, axiom, sorry.
-/
import Derived.Test.YtenbofmnmliopaaChecked
import GoSem.Claim
import GoSem.ClaimJoined
import GoSem.ClaimMapViews
import Derived.JoinedTies
import Derived.KernelRfl
namespace Go.Proofs.Ytenbofmnmliopaa
/- THE CELL 'sum', in the pinned program and in every row, IS THE sha256 OF THE DUMP (.gsa) THAT YtenbofmnmliopaaProg.lean LOADS. Nothing in Lean hashes anything: it is a label: what it is worth is what the hold of that sum in a sandbox is worth. -/
noncomputable def Try.pinned : Pinned := { name := "ytenbofmnmliopaa", sum := "51cab73dce4379ad8a920cdb704c2ee55f352eac6717c33e9724b390c510906a", checked := Try.checked }
namespace Rows
def none {H : Type} : Left H := { results := [], args := [] }

/-- 'laws.FnExactBucketOf': WHATEVER THE INPUT: true; the input reads as it did. -/
def fnExactBucketOfSpec : ChangeSpec := { name := "fnExactBucketOf", fn := fun _ => fun
  | [d] => { results := [.lit (.bool true)], args := [d] }
  | _ => none }
def fnExactBucketOfRow : OpenClaim := { program := "ytenbofmnmliopaa", sum := "51cab73dce4379ad8a920cdb704c2ee55f352eac6717c33e9724b390c510906a", func := "loop.example/g01277/laws.FnExactBucketOf", spec := "fnExactBucketOf", apart := false }
def FnExactBucketOfSaid : Prop := fnExactBucketOfRow.holds Try.pinned (OpenSpec.ofChange fnExactBucketOfSpec)

/-- ITS FALSE NEIGHBOUR: 'it returns false'. Refute it at one input. -/
def fnExactBucketOfWrong : ChangeSpec := { name := "fnExactBucketOf", fn := fun _ => fun
  | [d] => { results := [.lit (.bool false)], args := [d] }
  | _ => none }
def FnExactBucketOfWrongFalsely : Prop := fnExactBucketOfRow.holds Try.pinned (OpenSpec.ofChange fnExactBucketOfWrong)

/-- 'laws.FnExactSlotNew': WHATEVER THE INPUT: true; the input reads as it did. -/
def fnExactSlotNewSpec : ChangeSpec := { name := "fnExactSlotNew", fn := fun _ => fun
  | [] => { results := [.lit (.bool true)], args := [] }
  | _ => none }
def fnExactSlotNewRow : OpenClaim := { program := "ytenbofmnmliopaa", sum := "51cab73dce4379ad8a920cdb704c2ee55f352eac6717c33e9724b390c510906a", func := "loop.example/g01277/laws.FnExactSlotNew", spec := "fnExactSlotNew", apart := false }
def FnExactSlotNewSaid : Prop := fnExactSlotNewRow.holds Try.pinned (OpenSpec.ofChange fnExactSlotNewSpec)

/-- ITS FALSE NEIGHBOUR: 'it returns false'. Refute it at one input. -/
def fnExactSlotNewWrong : ChangeSpec := { name := "fnExactSlotNew", fn := fun _ => fun
  | [] => { results := [.lit (.bool false)], args := [] }
  | _ => none }
def FnExactSlotNewWrongFalsely : Prop := fnExactSlotNewRow.holds Try.pinned (OpenSpec.ofChange fnExactSlotNewWrong)

/-- 'laws.FnExactUndoOk': WHATEVER THE INPUT: true; the input reads as it did. -/
def fnExactUndoOkSpec : ChangeSpec := { name := "fnExactUndoOk", fn := fun _ => fun
  | [d] => { results := [.lit (.bool true)], args := [d] }
  | _ => none }
def fnExactUndoOkRow : OpenClaim := { program := "ytenbofmnmliopaa", sum := "51cab73dce4379ad8a920cdb704c2ee55f352eac6717c33e9724b390c510906a", func := "loop.example/g01277/laws.FnExactUndoOk", spec := "fnExactUndoOk", apart := false }
def FnExactUndoOkSaid : Prop := fnExactUndoOkRow.holds Try.pinned (OpenSpec.ofChange fnExactUndoOkSpec)

/-- ITS FALSE NEIGHBOUR: 'it returns false'. Refute it at one input. -/
def fnExactUndoOkWrong : ChangeSpec := { name := "fnExactUndoOk", fn := fun _ => fun
  | [d] => { results := [.lit (.bool false)], args := [d] }
  | _ => none }
def FnExactUndoOkWrongFalsely : Prop := fnExactUndoOkRow.holds Try.pinned (OpenSpec.ofChange fnExactUndoOkWrong)

/-- 'laws.FnExactSlotsOk': WHATEVER THE INPUT: true; the input reads as it did. -/
def fnExactSlotsOkSpec : ChangeSpec := { name := "fnExactSlotsOk", fn := fun _ => fun
  | [d] => { results := [.lit (.bool true)], args := [d] }
  | _ => none }
def fnExactSlotsOkRow : OpenClaim := { program := "ytenbofmnmliopaa", sum := "51cab73dce4379ad8a920cdb704c2ee55f352eac6717c33e9724b390c510906a", func := "loop.example/g01277/laws.FnExactSlotsOk", spec := "fnExactSlotsOk", apart := false }
def FnExactSlotsOkSaid : Prop := fnExactSlotsOkRow.holds Try.pinned (OpenSpec.ofChange fnExactSlotsOkSpec)

/-- ITS FALSE NEIGHBOUR: 'it returns false'. Refute it at one input. -/
def fnExactSlotsOkWrong : ChangeSpec := { name := "fnExactSlotsOk", fn := fun _ => fun
  | [d] => { results := [.lit (.bool false)], args := [d] }
  | _ => none }
def FnExactSlotsOkWrongFalsely : Prop := fnExactSlotsOkRow.holds Try.pinned (OpenSpec.ofChange fnExactSlotsOkWrong)

/-- 'laws.FnExactSlotGet': WHATEVER THE INPUT: true; the input reads as it did. -/
def fnExactSlotGetSpec : ChangeSpec := { name := "fnExactSlotGet", fn := fun _ => fun
  | [d1, d2] => { results := [.lit (.bool true)], args := [d1, d2] }
  | _ => none }
def fnExactSlotGetRow : OpenClaim := { program := "ytenbofmnmliopaa", sum := "51cab73dce4379ad8a920cdb704c2ee55f352eac6717c33e9724b390c510906a", func := "loop.example/g01277/laws.FnExactSlotGet", spec := "fnExactSlotGet", apart := false }
def FnExactSlotGetSaid : Prop := fnExactSlotGetRow.holds Try.pinned (OpenSpec.ofChange fnExactSlotGetSpec)

/-- ITS FALSE NEIGHBOUR: 'it returns false'. Refute it at one input. -/
def fnExactSlotGetWrong : ChangeSpec := { name := "fnExactSlotGet", fn := fun _ => fun
  | [d1, d2] => { results := [.lit (.bool false)], args := [d1, d2] }
  | _ => none }
def FnExactSlotGetWrongFalsely : Prop := fnExactSlotGetRow.holds Try.pinned (OpenSpec.ofChange fnExactSlotGetWrong)

/-- 'laws.FnExactBoostMode': WHATEVER THE INPUT: true; the input reads as it did. -/
def fnExactBoostModeSpec : ChangeSpec := { name := "fnExactBoostMode", fn := fun _ => fun
  | [d] => { results := [.lit (.bool true)], args := [d] }
  | _ => none }
def fnExactBoostModeRow : OpenClaim := { program := "ytenbofmnmliopaa", sum := "51cab73dce4379ad8a920cdb704c2ee55f352eac6717c33e9724b390c510906a", func := "loop.example/g01277/laws.FnExactBoostMode", spec := "fnExactBoostMode", apart := false }
def FnExactBoostModeSaid : Prop := fnExactBoostModeRow.holds Try.pinned (OpenSpec.ofChange fnExactBoostModeSpec)

/-- ITS FALSE NEIGHBOUR: 'it returns false'. Refute it at one input. -/
def fnExactBoostModeWrong : ChangeSpec := { name := "fnExactBoostMode", fn := fun _ => fun
  | [d] => { results := [.lit (.bool false)], args := [d] }
  | _ => none }
def FnExactBoostModeWrongFalsely : Prop := fnExactBoostModeRow.holds Try.pinned (OpenSpec.ofChange fnExactBoostModeWrong)

/-- 'laws.FnExactShelfOk': WHATEVER THE INPUT: true; the input reads as it did. -/
def fnExactShelfOkSpec : ChangeSpec := { name := "fnExactShelfOk", fn := fun _ => fun
  | [d] => { results := [.lit (.bool true)], args := [d] }
  | _ => none }
def fnExactShelfOkRow : OpenClaim := { program := "ytenbofmnmliopaa", sum := "51cab73dce4379ad8a920cdb704c2ee55f352eac6717c33e9724b390c510906a", func := "loop.example/g01277/laws.FnExactShelfOk", spec := "fnExactShelfOk", apart := false }
def FnExactShelfOkSaid : Prop := fnExactShelfOkRow.holds Try.pinned (OpenSpec.ofChange fnExactShelfOkSpec)

/-- ITS FALSE NEIGHBOUR: 'it returns false'. Refute it at one input. -/
def fnExactShelfOkWrong : ChangeSpec := { name := "fnExactShelfOk", fn := fun _ => fun
  | [d] => { results := [.lit (.bool false)], args := [d] }
  | _ => none }
def FnExactShelfOkWrongFalsely : Prop := fnExactShelfOkRow.holds Try.pinned (OpenSpec.ofChange fnExactShelfOkWrong)

/-- 'laws.FnExactSlotDrop': WHATEVER THE INPUT: true; the input reads as it did. -/
def fnExactSlotDropSpec : ChangeSpec := { name := "fnExactSlotDrop", fn := fun _ => fun
  | [d1, d2] => { results := [.lit (.bool true)], args := [d1, d2] }
  | _ => none }
def fnExactSlotDropRow : OpenClaim := { program := "ytenbofmnmliopaa", sum := "51cab73dce4379ad8a920cdb704c2ee55f352eac6717c33e9724b390c510906a", func := "loop.example/g01277/laws.FnExactSlotDrop", spec := "fnExactSlotDrop", apart := false }
def FnExactSlotDropSaid : Prop := fnExactSlotDropRow.holds Try.pinned (OpenSpec.ofChange fnExactSlotDropSpec)

/-- ITS FALSE NEIGHBOUR: 'it returns false'. Refute it at one input. -/
def fnExactSlotDropWrong : ChangeSpec := { name := "fnExactSlotDrop", fn := fun _ => fun
  | [d1, d2] => { results := [.lit (.bool false)], args := [d1, d2] }
  | _ => none }
def FnExactSlotDropWrongFalsely : Prop := fnExactSlotDropRow.holds Try.pinned (OpenSpec.ofChange fnExactSlotDropWrong)

/-- 'laws.FnExactMapOf': WHATEVER THE INPUT: true; the input reads as it did. -/
def fnExactMapOfSpec : ChangeSpec := { name := "fnExactMapOf", fn := fun _ => fun
  | [d] => { results := [.lit (.bool true)], args := [d] }
  | _ => none }
def fnExactMapOfRow : OpenClaim := { program := "ytenbofmnmliopaa", sum := "51cab73dce4379ad8a920cdb704c2ee55f352eac6717c33e9724b390c510906a", func := "loop.example/g01277/laws.FnExactMapOf", spec := "fnExactMapOf", apart := false }
def FnExactMapOfSaid : Prop := fnExactMapOfRow.holds Try.pinned (OpenSpec.ofChange fnExactMapOfSpec)

/-- ITS FALSE NEIGHBOUR: 'it returns false'. Refute it at one input. -/
def fnExactMapOfWrong : ChangeSpec := { name := "fnExactMapOf", fn := fun _ => fun
  | [d] => { results := [.lit (.bool false)], args := [d] }
  | _ => none }
def FnExactMapOfWrongFalsely : Prop := fnExactMapOfRow.holds Try.pinned (OpenSpec.ofChange fnExactMapOfWrong)

/-- 'laws.FnExactSlotPut': WHATEVER THE INPUT: true; the input reads as it did. -/
def fnExactSlotPutSpec : ChangeSpec := { name := "fnExactSlotPut", fn := fun _ => fun
  | [d1, d2, d3] => { results := [.lit (.bool true)], args := [d1, d2, d3] }
  | _ => none }
def fnExactSlotPutRow : OpenClaim := { program := "ytenbofmnmliopaa", sum := "51cab73dce4379ad8a920cdb704c2ee55f352eac6717c33e9724b390c510906a", func := "loop.example/g01277/laws.FnExactSlotPut", spec := "fnExactSlotPut", apart := false }
def FnExactSlotPutSaid : Prop := fnExactSlotPutRow.holds Try.pinned (OpenSpec.ofChange fnExactSlotPutSpec)

/-- ITS FALSE NEIGHBOUR: 'it returns false'. Refute it at one input. -/
def fnExactSlotPutWrong : ChangeSpec := { name := "fnExactSlotPut", fn := fun _ => fun
  | [d1, d2, d3] => { results := [.lit (.bool false)], args := [d1, d2, d3] }
  | _ => none }
def FnExactSlotPutWrongFalsely : Prop := fnExactSlotPutRow.holds Try.pinned (OpenSpec.ofChange fnExactSlotPutWrong)

/-- 'laws.FnExactSlotsFrom': WHATEVER THE INPUT: true; the input reads as it did. -/
def fnExactSlotsFromSpec : ChangeSpec := { name := "fnExactSlotsFrom", fn := fun _ => fun
  | [d] => { results := [.lit (.bool true)], args := [d] }
  | _ => none }
def fnExactSlotsFromRow : OpenClaim := { program := "ytenbofmnmliopaa", sum := "51cab73dce4379ad8a920cdb704c2ee55f352eac6717c33e9724b390c510906a", func := "loop.example/g01277/laws.FnExactSlotsFrom", spec := "fnExactSlotsFrom", apart := false }
def FnExactSlotsFromSaid : Prop := fnExactSlotsFromRow.holds Try.pinned (OpenSpec.ofChange fnExactSlotsFromSpec)

/-- ITS FALSE NEIGHBOUR: 'it returns false'. Refute it at one input. -/
def fnExactSlotsFromWrong : ChangeSpec := { name := "fnExactSlotsFrom", fn := fun _ => fun
  | [d] => { results := [.lit (.bool false)], args := [d] }
  | _ => none }
def FnExactSlotsFromWrongFalsely : Prop := fnExactSlotsFromRow.holds Try.pinned (OpenSpec.ofChange fnExactSlotsFromWrong)

/-- 'laws.FnSlots': WHATEVER THE INPUT: true; the input reads as it did. -/
def fnSlotsSpec : ChangeSpec := { name := "fnSlots", fn := fun _ => fun
  | [d] => { results := [.lit (.bool true)], args := [d] }
  | _ => none }
def fnSlotsRow : OpenClaim := { program := "ytenbofmnmliopaa", sum := "51cab73dce4379ad8a920cdb704c2ee55f352eac6717c33e9724b390c510906a", func := "loop.example/g01277/laws.FnSlots", spec := "fnSlots", apart := false }
def FnSlotsSaid : Prop := fnSlotsRow.holds Try.pinned (OpenSpec.ofChange fnSlotsSpec)

/-- ITS FALSE NEIGHBOUR: 'it returns false'. Refute it at one input. -/
def fnSlotsWrong : ChangeSpec := { name := "fnSlots", fn := fun _ => fun
  | [d] => { results := [.lit (.bool false)], args := [d] }
  | _ => none }
def FnSlotsWrongFalsely : Prop := fnSlotsRow.holds Try.pinned (OpenSpec.ofChange fnSlotsWrong)

/-- 'laws.FnExactUndoOne': WHATEVER THE INPUT: true; the input reads as it did. -/
def fnExactUndoOneSpec : ChangeSpec := { name := "fnExactUndoOne", fn := fun _ => fun
  | [d1, d2] => { results := [.lit (.bool true)], args := [d1, d2] }
  | _ => none }
def fnExactUndoOneRow : OpenClaim := { program := "ytenbofmnmliopaa", sum := "51cab73dce4379ad8a920cdb704c2ee55f352eac6717c33e9724b390c510906a", func := "loop.example/g01277/laws.FnExactUndoOne", spec := "fnExactUndoOne", apart := false }
def FnExactUndoOneSaid : Prop := fnExactUndoOneRow.holds Try.pinned (OpenSpec.ofChange fnExactUndoOneSpec)

/-- ITS FALSE NEIGHBOUR: 'it returns false'. Refute it at one input. -/
def fnExactUndoOneWrong : ChangeSpec := { name := "fnExactUndoOne", fn := fun _ => fun
  | [d1, d2] => { results := [.lit (.bool false)], args := [d1, d2] }
  | _ => none }
def FnExactUndoOneWrongFalsely : Prop := fnExactUndoOneRow.holds Try.pinned (OpenSpec.ofChange fnExactUndoOneWrong)

/-- 'laws.FnExactUndoAll': WHATEVER THE INPUT: true; the input reads as it did. -/
def fnExactUndoAllSpec : ChangeSpec := { name := "fnExactUndoAll", fn := fun _ => fun
  | [d1, d2] => { results := [.lit (.bool true)], args := [d1, d2] }
  | _ => none }
def fnExactUndoAllRow : OpenClaim := { program := "ytenbofmnmliopaa", sum := "51cab73dce4379ad8a920cdb704c2ee55f352eac6717c33e9724b390c510906a", func := "loop.example/g01277/laws.FnExactUndoAll", spec := "fnExactUndoAll", apart := false }
def FnExactUndoAllSaid : Prop := fnExactUndoAllRow.holds Try.pinned (OpenSpec.ofChange fnExactUndoAllSpec)

/-- ITS FALSE NEIGHBOUR: 'it returns false'. Refute it at one input. -/
def fnExactUndoAllWrong : ChangeSpec := { name := "fnExactUndoAll", fn := fun _ => fun
  | [d1, d2] => { results := [.lit (.bool false)], args := [d1, d2] }
  | _ => none }
def FnExactUndoAllWrongFalsely : Prop := fnExactUndoAllRow.holds Try.pinned (OpenSpec.ofChange fnExactUndoAllWrong)

/-- 'laws.FnExactBoostDo': WHATEVER THE INPUT: true; the input reads as it did. -/
def fnExactBoostDoSpec : ChangeSpec := { name := "fnExactBoostDo", fn := fun _ => fun
  | [d1, d2, d3] => { results := [.lit (.bool true)], args := [d1, d2, d3] }
  | _ => none }
def fnExactBoostDoRow : OpenClaim := { program := "ytenbofmnmliopaa", sum := "51cab73dce4379ad8a920cdb704c2ee55f352eac6717c33e9724b390c510906a", func := "loop.example/g01277/laws.FnExactBoostDo", spec := "fnExactBoostDo", apart := false }
def FnExactBoostDoSaid : Prop := fnExactBoostDoRow.holds Try.pinned (OpenSpec.ofChange fnExactBoostDoSpec)

/-- ITS FALSE NEIGHBOUR: 'it returns false'. Refute it at one input. -/
def fnExactBoostDoWrong : ChangeSpec := { name := "fnExactBoostDo", fn := fun _ => fun
  | [d1, d2, d3] => { results := [.lit (.bool false)], args := [d1, d2, d3] }
  | _ => none }
def FnExactBoostDoWrongFalsely : Prop := fnExactBoostDoRow.holds Try.pinned (OpenSpec.ofChange fnExactBoostDoWrong)

/-- 'laws.FnApart': WHATEVER THE INPUT: true; the input reads as it did. -/
def fnApartSpec : ChangeSpec := { name := "fnApart", fn := fun _ => fun
  | [d] => { results := [.lit (.bool true)], args := [d] }
  | _ => none }
def fnApartRow : OpenClaim := { program := "ytenbofmnmliopaa", sum := "51cab73dce4379ad8a920cdb704c2ee55f352eac6717c33e9724b390c510906a", func := "loop.example/g01277/laws.FnApart", spec := "fnApart", apart := false }
def FnApartSaid : Prop := fnApartRow.holds Try.pinned (OpenSpec.ofChange fnApartSpec)

/-- ITS FALSE NEIGHBOUR: 'it returns false'. Refute it at one input. -/
def fnApartWrong : ChangeSpec := { name := "fnApart", fn := fun _ => fun
  | [d] => { results := [.lit (.bool false)], args := [d] }
  | _ => none }
def FnApartWrongFalsely : Prop := fnApartRow.holds Try.pinned (OpenSpec.ofChange fnApartWrong)

/-- 'laws.FnUndone': WHATEVER THE INPUT: true; the input reads as it did. -/
def fnUndoneSpec : ChangeSpec := { name := "fnUndone", fn := fun _ => fun
  | [d] => { results := [.lit (.bool true)], args := [d] }
  | _ => none }
def fnUndoneRow : OpenClaim := { program := "ytenbofmnmliopaa", sum := "51cab73dce4379ad8a920cdb704c2ee55f352eac6717c33e9724b390c510906a", func := "loop.example/g01277/laws.FnUndone", spec := "fnUndone", apart := false }
def FnUndoneSaid : Prop := fnUndoneRow.holds Try.pinned (OpenSpec.ofChange fnUndoneSpec)

/-- ITS FALSE NEIGHBOUR: 'it returns false'. Refute it at one input. -/
def fnUndoneWrong : ChangeSpec := { name := "fnUndone", fn := fun _ => fun
  | [d] => { results := [.lit (.bool false)], args := [d] }
  | _ => none }
def FnUndoneWrongFalsely : Prop := fnUndoneRow.holds Try.pinned (OpenSpec.ofChange fnUndoneWrong)

/- THE SECOND FORM. 'bulk': how many values and letters a reading holds, each counted each time it is reached (what is shared counts as often as it is met; a slice's spare places count too). A statement '..UptoSaid' is the law's where the arguments, and the package variables that the reading takes, are together of bulk at most 1048576: NARROWER than '..Said'. Prove '..Said' where nothing that the law and all that it calls make is longer than what came in: it says more and counts as full. Else prove '..UptoSaid'. A law counts once. -/
mutual
def uptoBulk {H : Type} : DataW H → Nat
  | .lit (.string bytes) => bytes.length + 1
  | .lit _ => 1
  | .nil => 1
  | .ptr d => uptoBulk d + 1
  | .slice elems spare => uptoBulkAll elems + uptoBulkAll spare + 1
  | .agg parts => uptoBulkAll parts + 1
  | .iface _ d => uptoBulk d + 1
  | .map entries => uptoBulkEntries entries + 1
  | .held _ => 1
def uptoBulkAll {H : Type} : List (DataW H) → Nat
  | [] => 0
  | d :: r => uptoBulk d + uptoBulkAll r
def uptoBulkEntries {H : Type} : List (Lit × DataW H) → Nat
  | [] => 0
  | x :: r => uptoBulkEntry x + uptoBulkEntries r
def uptoBulkEntry {H : Type} : Lit × DataW H → Nat
  | (.string bytes, d) => bytes.length + uptoBulk d + 1
  | (_, d) => uptoBulk d + 1
 end
def uptoSmall : (H : Type) → List (DataW H) → Bool := fun _ ds => decide (uptoBulkAll ds ≤ 1048576)
def OpenSpec.upto (s : _root_.Go.ChangeSpec) : _root_.Go.OpenSpec := { _root_.Go.OpenSpec.ofChange s with cond := some uptoSmall }

/-- 'laws.FnExactBucketOf', WHERE WHAT IT READS IS OF BULK AT MOST 1048576: true; the input reads as it did. -/
def fnExactBucketOfUptoRow : OpenClaim := { program := "ytenbofmnmliopaa", sum := "51cab73dce4379ad8a920cdb704c2ee55f352eac6717c33e9724b390c510906a", func := "loop.example/g01277/laws.FnExactBucketOf", spec := "fnExactBucketOf", apart := false, narrowed := true }
def FnExactBucketOfUptoSaid : Prop := fnExactBucketOfUptoRow.holds Try.pinned (OpenSpec.upto fnExactBucketOfSpec)

/-- 'laws.FnExactSlotNew', WHERE WHAT IT READS IS OF BULK AT MOST 1048576: true; the input reads as it did. -/
def fnExactSlotNewUptoRow : OpenClaim := { program := "ytenbofmnmliopaa", sum := "51cab73dce4379ad8a920cdb704c2ee55f352eac6717c33e9724b390c510906a", func := "loop.example/g01277/laws.FnExactSlotNew", spec := "fnExactSlotNew", apart := false, narrowed := true }
def FnExactSlotNewUptoSaid : Prop := fnExactSlotNewUptoRow.holds Try.pinned (OpenSpec.upto fnExactSlotNewSpec)

/-- 'laws.FnExactUndoOk', WHERE WHAT IT READS IS OF BULK AT MOST 1048576: true; the input reads as it did. -/
def fnExactUndoOkUptoRow : OpenClaim := { program := "ytenbofmnmliopaa", sum := "51cab73dce4379ad8a920cdb704c2ee55f352eac6717c33e9724b390c510906a", func := "loop.example/g01277/laws.FnExactUndoOk", spec := "fnExactUndoOk", apart := false, narrowed := true }
def FnExactUndoOkUptoSaid : Prop := fnExactUndoOkUptoRow.holds Try.pinned (OpenSpec.upto fnExactUndoOkSpec)

/-- 'laws.FnExactSlotsOk', WHERE WHAT IT READS IS OF BULK AT MOST 1048576: true; the input reads as it did. -/
def fnExactSlotsOkUptoRow : OpenClaim := { program := "ytenbofmnmliopaa", sum := "51cab73dce4379ad8a920cdb704c2ee55f352eac6717c33e9724b390c510906a", func := "loop.example/g01277/laws.FnExactSlotsOk", spec := "fnExactSlotsOk", apart := false, narrowed := true }
def FnExactSlotsOkUptoSaid : Prop := fnExactSlotsOkUptoRow.holds Try.pinned (OpenSpec.upto fnExactSlotsOkSpec)

/-- 'laws.FnExactSlotGet', WHERE WHAT IT READS IS OF BULK AT MOST 1048576: true; the input reads as it did. -/
def fnExactSlotGetUptoRow : OpenClaim := { program := "ytenbofmnmliopaa", sum := "51cab73dce4379ad8a920cdb704c2ee55f352eac6717c33e9724b390c510906a", func := "loop.example/g01277/laws.FnExactSlotGet", spec := "fnExactSlotGet", apart := false, narrowed := true }
def FnExactSlotGetUptoSaid : Prop := fnExactSlotGetUptoRow.holds Try.pinned (OpenSpec.upto fnExactSlotGetSpec)

/-- 'laws.FnExactBoostMode', WHERE WHAT IT READS IS OF BULK AT MOST 1048576: true; the input reads as it did. -/
def fnExactBoostModeUptoRow : OpenClaim := { program := "ytenbofmnmliopaa", sum := "51cab73dce4379ad8a920cdb704c2ee55f352eac6717c33e9724b390c510906a", func := "loop.example/g01277/laws.FnExactBoostMode", spec := "fnExactBoostMode", apart := false, narrowed := true }
def FnExactBoostModeUptoSaid : Prop := fnExactBoostModeUptoRow.holds Try.pinned (OpenSpec.upto fnExactBoostModeSpec)

/-- 'laws.FnExactShelfOk', WHERE WHAT IT READS IS OF BULK AT MOST 1048576: true; the input reads as it did. -/
def fnExactShelfOkUptoRow : OpenClaim := { program := "ytenbofmnmliopaa", sum := "51cab73dce4379ad8a920cdb704c2ee55f352eac6717c33e9724b390c510906a", func := "loop.example/g01277/laws.FnExactShelfOk", spec := "fnExactShelfOk", apart := false, narrowed := true }
def FnExactShelfOkUptoSaid : Prop := fnExactShelfOkUptoRow.holds Try.pinned (OpenSpec.upto fnExactShelfOkSpec)

/-- 'laws.FnExactSlotDrop', WHERE WHAT IT READS IS OF BULK AT MOST 1048576: true; the input reads as it did. -/
def fnExactSlotDropUptoRow : OpenClaim := { program := "ytenbofmnmliopaa", sum := "51cab73dce4379ad8a920cdb704c2ee55f352eac6717c33e9724b390c510906a", func := "loop.example/g01277/laws.FnExactSlotDrop", spec := "fnExactSlotDrop", apart := false, narrowed := true }
def FnExactSlotDropUptoSaid : Prop := fnExactSlotDropUptoRow.holds Try.pinned (OpenSpec.upto fnExactSlotDropSpec)

/-- 'laws.FnExactMapOf', WHERE WHAT IT READS IS OF BULK AT MOST 1048576: true; the input reads as it did. -/
def fnExactMapOfUptoRow : OpenClaim := { program := "ytenbofmnmliopaa", sum := "51cab73dce4379ad8a920cdb704c2ee55f352eac6717c33e9724b390c510906a", func := "loop.example/g01277/laws.FnExactMapOf", spec := "fnExactMapOf", apart := false, narrowed := true }
def FnExactMapOfUptoSaid : Prop := fnExactMapOfUptoRow.holds Try.pinned (OpenSpec.upto fnExactMapOfSpec)

/-- 'laws.FnExactSlotPut', WHERE WHAT IT READS IS OF BULK AT MOST 1048576: true; the input reads as it did. -/
def fnExactSlotPutUptoRow : OpenClaim := { program := "ytenbofmnmliopaa", sum := "51cab73dce4379ad8a920cdb704c2ee55f352eac6717c33e9724b390c510906a", func := "loop.example/g01277/laws.FnExactSlotPut", spec := "fnExactSlotPut", apart := false, narrowed := true }
def FnExactSlotPutUptoSaid : Prop := fnExactSlotPutUptoRow.holds Try.pinned (OpenSpec.upto fnExactSlotPutSpec)

/-- 'laws.FnExactSlotsFrom', WHERE WHAT IT READS IS OF BULK AT MOST 1048576: true; the input reads as it did. -/
def fnExactSlotsFromUptoRow : OpenClaim := { program := "ytenbofmnmliopaa", sum := "51cab73dce4379ad8a920cdb704c2ee55f352eac6717c33e9724b390c510906a", func := "loop.example/g01277/laws.FnExactSlotsFrom", spec := "fnExactSlotsFrom", apart := false, narrowed := true }
def FnExactSlotsFromUptoSaid : Prop := fnExactSlotsFromUptoRow.holds Try.pinned (OpenSpec.upto fnExactSlotsFromSpec)

/-- 'laws.FnSlots', WHERE WHAT IT READS IS OF BULK AT MOST 1048576: true; the input reads as it did. -/
def fnSlotsUptoRow : OpenClaim := { program := "ytenbofmnmliopaa", sum := "51cab73dce4379ad8a920cdb704c2ee55f352eac6717c33e9724b390c510906a", func := "loop.example/g01277/laws.FnSlots", spec := "fnSlots", apart := false, narrowed := true }
def FnSlotsUptoSaid : Prop := fnSlotsUptoRow.holds Try.pinned (OpenSpec.upto fnSlotsSpec)

/-- 'laws.FnExactUndoOne', WHERE WHAT IT READS IS OF BULK AT MOST 1048576: true; the input reads as it did. -/
def fnExactUndoOneUptoRow : OpenClaim := { program := "ytenbofmnmliopaa", sum := "51cab73dce4379ad8a920cdb704c2ee55f352eac6717c33e9724b390c510906a", func := "loop.example/g01277/laws.FnExactUndoOne", spec := "fnExactUndoOne", apart := false, narrowed := true }
def FnExactUndoOneUptoSaid : Prop := fnExactUndoOneUptoRow.holds Try.pinned (OpenSpec.upto fnExactUndoOneSpec)

/-- 'laws.FnExactUndoAll', WHERE WHAT IT READS IS OF BULK AT MOST 1048576: true; the input reads as it did. -/
def fnExactUndoAllUptoRow : OpenClaim := { program := "ytenbofmnmliopaa", sum := "51cab73dce4379ad8a920cdb704c2ee55f352eac6717c33e9724b390c510906a", func := "loop.example/g01277/laws.FnExactUndoAll", spec := "fnExactUndoAll", apart := false, narrowed := true }
def FnExactUndoAllUptoSaid : Prop := fnExactUndoAllUptoRow.holds Try.pinned (OpenSpec.upto fnExactUndoAllSpec)

/-- 'laws.FnExactBoostDo', WHERE WHAT IT READS IS OF BULK AT MOST 1048576: true; the input reads as it did. -/
def fnExactBoostDoUptoRow : OpenClaim := { program := "ytenbofmnmliopaa", sum := "51cab73dce4379ad8a920cdb704c2ee55f352eac6717c33e9724b390c510906a", func := "loop.example/g01277/laws.FnExactBoostDo", spec := "fnExactBoostDo", apart := false, narrowed := true }
def FnExactBoostDoUptoSaid : Prop := fnExactBoostDoUptoRow.holds Try.pinned (OpenSpec.upto fnExactBoostDoSpec)

/-- 'laws.FnApart', WHERE WHAT IT READS IS OF BULK AT MOST 1048576: true; the input reads as it did. -/
def fnApartUptoRow : OpenClaim := { program := "ytenbofmnmliopaa", sum := "51cab73dce4379ad8a920cdb704c2ee55f352eac6717c33e9724b390c510906a", func := "loop.example/g01277/laws.FnApart", spec := "fnApart", apart := false, narrowed := true }
def FnApartUptoSaid : Prop := fnApartUptoRow.holds Try.pinned (OpenSpec.upto fnApartSpec)

/-- 'laws.FnUndone', WHERE WHAT IT READS IS OF BULK AT MOST 1048576: true; the input reads as it did. -/
def fnUndoneUptoRow : OpenClaim := { program := "ytenbofmnmliopaa", sum := "51cab73dce4379ad8a920cdb704c2ee55f352eac6717c33e9724b390c510906a", func := "loop.example/g01277/laws.FnUndone", spec := "fnUndone", apart := false, narrowed := true }
def FnUndoneUptoSaid : Prop := fnUndoneUptoRow.holds Try.pinned (OpenSpec.upto fnUndoneSpec)

end Rows
end Go.Proofs.Ytenbofmnmliopaa
