/-
  No cell of these rows narrows 'for every input' (looked for: loops, veiled, ifaces, maps, wideKeys, modest, calm, conditions, laid).
  DERIVED. THE GIVEN ROWS OF THIS SEAT. 18 by the template 'for every input the law returns true; each argument reads behind the call as it read before'; 0 by the template 'total and deterministic' (their statements: YtlcgddghildedaaTotals.lean).
  GIVEN WITH THE SEED: the statements are not yours to turn. If you find one false, say at which input.
  Laid BY PROGRAM, IN A SANDBOX (cutbox-rows.mjs): the forced cells as the released guide's own fill.sh prints them over the translation db538da7919a2fa9… (all of the seat's roots in one cut). By AI agents, Wed Nov 11 2026. No macro, syntax, notation, axiom, sorry.
-/
import Derived.Test.YtlcgddghildedaaChecked
import GoSem.Claim
import GoSem.ClaimJoined
import GoSem.ClaimMapViews
import Derived.JoinedTies
import Derived.KernelRfl
namespace Go.Proofs.Ytlcgddghildedaa
/- THE CELL 'sum', in the pinned program and in every row, IS THE sha256 OF THE DUMP (.gsa) THAT YtlcgddghildedaaProg.lean LOADS. Nothing in Lean hashes anything: it is a label: what it is worth is what the hold of that sum in a sandbox is worth. -/
noncomputable def Try.pinned : Pinned := { name := "ytlcgddghildedaa", sum := "db538da7919a2fa98edd8729bf0191877263af9430ca56c05469ac1a94163788", checked := Try.checked }
namespace Rows
def none {H : Type} : Left H := { results := [], args := [] }

/-- 'laws.FnStates': WHATEVER THE INPUT: true; the input reads as it did. -/
def fnStatesSpec : ChangeSpec := { name := "fnStates", fn := fun _ => fun
  | [d] => { results := [.lit (.bool true)], args := [d] }
  | _ => none }
def fnStatesRow : OpenClaim := { program := "ytlcgddghildedaa", sum := "db538da7919a2fa98edd8729bf0191877263af9430ca56c05469ac1a94163788", func := "loop.example/g01277/laws.FnStates", spec := "fnStates", unfollowed := true, recurses := true, apart := false }
def FnStatesSaid : Prop := fnStatesRow.holds Try.pinned (OpenSpec.ofChange fnStatesSpec)

/-- ITS FALSE NEIGHBOUR: 'it returns false'. Refute it at one input. -/
def fnStatesWrong : ChangeSpec := { name := "fnStates", fn := fun _ => fun
  | [d] => { results := [.lit (.bool false)], args := [d] }
  | _ => none }
def FnStatesWrongFalsely : Prop := fnStatesRow.holds Try.pinned (OpenSpec.ofChange fnStatesWrong)

/-- 'laws.FnExactOver': WHATEVER THE INPUT: true; the input reads as it did. -/
def fnExactOverSpec : ChangeSpec := { name := "fnExactOver", fn := fun _ => fun
  | [d] => { results := [.lit (.bool true)], args := [d] }
  | _ => none }
def fnExactOverRow : OpenClaim := { program := "ytlcgddghildedaa", sum := "db538da7919a2fa98edd8729bf0191877263af9430ca56c05469ac1a94163788", func := "loop.example/g01277/laws.FnExactOver", spec := "fnExactOver", unfollowed := true, recurses := true, apart := false }
def FnExactOverSaid : Prop := fnExactOverRow.holds Try.pinned (OpenSpec.ofChange fnExactOverSpec)

/-- ITS FALSE NEIGHBOUR: 'it returns false'. Refute it at one input. -/
def fnExactOverWrong : ChangeSpec := { name := "fnExactOver", fn := fun _ => fun
  | [d] => { results := [.lit (.bool false)], args := [d] }
  | _ => none }
def FnExactOverWrongFalsely : Prop := fnExactOverRow.holds Try.pinned (OpenSpec.ofChange fnExactOverWrong)

/-- 'laws.FnExactDuelTrue': WHATEVER THE INPUT: true; the input reads as it did. -/
def fnExactDuelTrueSpec : ChangeSpec := { name := "fnExactDuelTrue", fn := fun _ => fun
  | [d1, d2] => { results := [.lit (.bool true)], args := [d1, d2] }
  | _ => none }
def fnExactDuelTrueRow : OpenClaim := { program := "ytlcgddghildedaa", sum := "db538da7919a2fa98edd8729bf0191877263af9430ca56c05469ac1a94163788", func := "loop.example/g01277/laws.FnExactDuelTrue", spec := "fnExactDuelTrue", unfollowed := true, recurses := true, apart := false }
def FnExactDuelTrueSaid : Prop := fnExactDuelTrueRow.holds Try.pinned (OpenSpec.ofChange fnExactDuelTrueSpec)

/-- ITS FALSE NEIGHBOUR: 'it returns false'. Refute it at one input. -/
def fnExactDuelTrueWrong : ChangeSpec := { name := "fnExactDuelTrue", fn := fun _ => fun
  | [d1, d2] => { results := [.lit (.bool false)], args := [d1, d2] }
  | _ => none }
def FnExactDuelTrueWrongFalsely : Prop := fnExactDuelTrueRow.holds Try.pinned (OpenSpec.ofChange fnExactDuelTrueWrong)

/-- 'laws.FnExactHistOk': WHATEVER THE INPUT: true; the input reads as it did. -/
def fnExactHistOkSpec : ChangeSpec := { name := "fnExactHistOk", fn := fun _ => fun
  | [d] => { results := [.lit (.bool true)], args := [d] }
  | _ => none }
def fnExactHistOkRow : OpenClaim := { program := "ytlcgddghildedaa", sum := "db538da7919a2fa98edd8729bf0191877263af9430ca56c05469ac1a94163788", func := "loop.example/g01277/laws.FnExactHistOk", spec := "fnExactHistOk", unfollowed := true, recurses := true, apart := false }
def FnExactHistOkSaid : Prop := fnExactHistOkRow.holds Try.pinned (OpenSpec.ofChange fnExactHistOkSpec)

/-- ITS FALSE NEIGHBOUR: 'it returns false'. Refute it at one input. -/
def fnExactHistOkWrong : ChangeSpec := { name := "fnExactHistOk", fn := fun _ => fun
  | [d] => { results := [.lit (.bool false)], args := [d] }
  | _ => none }
def FnExactHistOkWrongFalsely : Prop := fnExactHistOkRow.holds Try.pinned (OpenSpec.ofChange fnExactHistOkWrong)

/-- 'laws.FnExactJobsOk': WHATEVER THE INPUT: true; the input reads as it did. -/
def fnExactJobsOkSpec : ChangeSpec := { name := "fnExactJobsOk", fn := fun _ => fun
  | [d1, d2] => { results := [.lit (.bool true)], args := [d1, d2] }
  | _ => none }
def fnExactJobsOkRow : OpenClaim := { program := "ytlcgddghildedaa", sum := "db538da7919a2fa98edd8729bf0191877263af9430ca56c05469ac1a94163788", func := "loop.example/g01277/laws.FnExactJobsOk", spec := "fnExactJobsOk", unfollowed := true, recurses := true, apart := false }
def FnExactJobsOkSaid : Prop := fnExactJobsOkRow.holds Try.pinned (OpenSpec.ofChange fnExactJobsOkSpec)

/-- ITS FALSE NEIGHBOUR: 'it returns false'. Refute it at one input. -/
def fnExactJobsOkWrong : ChangeSpec := { name := "fnExactJobsOk", fn := fun _ => fun
  | [d1, d2] => { results := [.lit (.bool false)], args := [d1, d2] }
  | _ => none }
def FnExactJobsOkWrongFalsely : Prop := fnExactJobsOkRow.holds Try.pinned (OpenSpec.ofChange fnExactJobsOkWrong)

/-- 'laws.FnExactLastWriter': WHATEVER THE INPUT: true; the input reads as it did. -/
def fnExactLastWriterSpec : ChangeSpec := { name := "fnExactLastWriter", fn := fun _ => fun
  | [d1, d2, d3] => { results := [.lit (.bool true)], args := [d1, d2, d3] }
  | _ => none }
def fnExactLastWriterRow : OpenClaim := { program := "ytlcgddghildedaa", sum := "db538da7919a2fa98edd8729bf0191877263af9430ca56c05469ac1a94163788", func := "loop.example/g01277/laws.FnExactLastWriter", spec := "fnExactLastWriter", unfollowed := true, recurses := true, apart := false }
def FnExactLastWriterSaid : Prop := fnExactLastWriterRow.holds Try.pinned (OpenSpec.ofChange fnExactLastWriterSpec)

/-- ITS FALSE NEIGHBOUR: 'it returns false'. Refute it at one input. -/
def fnExactLastWriterWrong : ChangeSpec := { name := "fnExactLastWriter", fn := fun _ => fun
  | [d1, d2, d3] => { results := [.lit (.bool false)], args := [d1, d2, d3] }
  | _ => none }
def FnExactLastWriterWrongFalsely : Prop := fnExactLastWriterRow.holds Try.pinned (OpenSpec.ofChange fnExactLastWriterWrong)

/-- 'laws.FnExactJobsInTurn': WHATEVER THE INPUT: true; the input reads as it did. -/
def fnExactJobsInTurnSpec : ChangeSpec := { name := "fnExactJobsInTurn", fn := fun _ => fun
  | [d1, d2, d3] => { results := [.lit (.bool true)], args := [d1, d2, d3] }
  | _ => none }
def fnExactJobsInTurnRow : OpenClaim := { program := "ytlcgddghildedaa", sum := "db538da7919a2fa98edd8729bf0191877263af9430ca56c05469ac1a94163788", func := "loop.example/g01277/laws.FnExactJobsInTurn", spec := "fnExactJobsInTurn", unfollowed := true, recurses := true, apart := false }
def FnExactJobsInTurnSaid : Prop := fnExactJobsInTurnRow.holds Try.pinned (OpenSpec.ofChange fnExactJobsInTurnSpec)

/-- ITS FALSE NEIGHBOUR: 'it returns false'. Refute it at one input. -/
def fnExactJobsInTurnWrong : ChangeSpec := { name := "fnExactJobsInTurn", fn := fun _ => fun
  | [d1, d2, d3] => { results := [.lit (.bool false)], args := [d1, d2, d3] }
  | _ => none }
def FnExactJobsInTurnWrongFalsely : Prop := fnExactJobsInTurnRow.holds Try.pinned (OpenSpec.ofChange fnExactJobsInTurnWrong)

/-- 'laws.FnExactFamOver': WHATEVER THE INPUT: true; the input reads as it did. -/
def fnExactFamOverSpec : ChangeSpec := { name := "fnExactFamOver", fn := fun _ => fun
  | [d] => { results := [.lit (.bool true)], args := [d] }
  | _ => none }
def fnExactFamOverRow : OpenClaim := { program := "ytlcgddghildedaa", sum := "db538da7919a2fa98edd8729bf0191877263af9430ca56c05469ac1a94163788", func := "loop.example/g01277/laws.FnExactFamOver", spec := "fnExactFamOver", unfollowed := true, recurses := true, apart := false }
def FnExactFamOverSaid : Prop := fnExactFamOverRow.holds Try.pinned (OpenSpec.ofChange fnExactFamOverSpec)

/-- ITS FALSE NEIGHBOUR: 'it returns false'. Refute it at one input. -/
def fnExactFamOverWrong : ChangeSpec := { name := "fnExactFamOver", fn := fun _ => fun
  | [d] => { results := [.lit (.bool false)], args := [d] }
  | _ => none }
def FnExactFamOverWrongFalsely : Prop := fnExactFamOverRow.holds Try.pinned (OpenSpec.ofChange fnExactFamOverWrong)

/-- 'laws.FnExactDuelOver': WHATEVER THE INPUT: true; the input reads as it did. -/
def fnExactDuelOverSpec : ChangeSpec := { name := "fnExactDuelOver", fn := fun _ => fun
  | [d] => { results := [.lit (.bool true)], args := [d] }
  | _ => none }
def fnExactDuelOverRow : OpenClaim := { program := "ytlcgddghildedaa", sum := "db538da7919a2fa98edd8729bf0191877263af9430ca56c05469ac1a94163788", func := "loop.example/g01277/laws.FnExactDuelOver", spec := "fnExactDuelOver", unfollowed := true, recurses := true, apart := false }
def FnExactDuelOverSaid : Prop := fnExactDuelOverRow.holds Try.pinned (OpenSpec.ofChange fnExactDuelOverSpec)

/-- ITS FALSE NEIGHBOUR: 'it returns false'. Refute it at one input. -/
def fnExactDuelOverWrong : ChangeSpec := { name := "fnExactDuelOver", fn := fun _ => fun
  | [d] => { results := [.lit (.bool false)], args := [d] }
  | _ => none }
def FnExactDuelOverWrongFalsely : Prop := fnExactDuelOverRow.holds Try.pinned (OpenSpec.ofChange fnExactDuelOverWrong)

/-- 'laws.FnExactFamPuts': WHATEVER THE INPUT: true; the input reads as it did. -/
def fnExactFamPutsSpec : ChangeSpec := { name := "fnExactFamPuts", fn := fun _ => fun
  | [d] => { results := [.lit (.bool true)], args := [d] }
  | _ => none }
def fnExactFamPutsRow : OpenClaim := { program := "ytlcgddghildedaa", sum := "db538da7919a2fa98edd8729bf0191877263af9430ca56c05469ac1a94163788", func := "loop.example/g01277/laws.FnExactFamPuts", spec := "fnExactFamPuts", apart := false }
def FnExactFamPutsSaid : Prop := fnExactFamPutsRow.holds Try.pinned (OpenSpec.ofChange fnExactFamPutsSpec)

/-- ITS FALSE NEIGHBOUR: 'it returns false'. Refute it at one input. -/
def fnExactFamPutsWrong : ChangeSpec := { name := "fnExactFamPuts", fn := fun _ => fun
  | [d] => { results := [.lit (.bool false)], args := [d] }
  | _ => none }
def FnExactFamPutsWrongFalsely : Prop := fnExactFamPutsRow.holds Try.pinned (OpenSpec.ofChange fnExactFamPutsWrong)

/-- 'laws.FnExactFamTrue': WHATEVER THE INPUT: true; the input reads as it did. -/
def fnExactFamTrueSpec : ChangeSpec := { name := "fnExactFamTrue", fn := fun _ => fun
  | [d1, d2] => { results := [.lit (.bool true)], args := [d1, d2] }
  | _ => none }
def fnExactFamTrueRow : OpenClaim := { program := "ytlcgddghildedaa", sum := "db538da7919a2fa98edd8729bf0191877263af9430ca56c05469ac1a94163788", func := "loop.example/g01277/laws.FnExactFamTrue", spec := "fnExactFamTrue", apart := false }
def FnExactFamTrueSaid : Prop := fnExactFamTrueRow.holds Try.pinned (OpenSpec.ofChange fnExactFamTrueSpec)

/-- ITS FALSE NEIGHBOUR: 'it returns false'. Refute it at one input. -/
def fnExactFamTrueWrong : ChangeSpec := { name := "fnExactFamTrue", fn := fun _ => fun
  | [d1, d2] => { results := [.lit (.bool false)], args := [d1, d2] }
  | _ => none }
def FnExactFamTrueWrongFalsely : Prop := fnExactFamTrueRow.holds Try.pinned (OpenSpec.ofChange fnExactFamTrueWrong)

/-- 'laws.FnExactFamOk': WHATEVER THE INPUT: true; the input reads as it did. -/
def fnExactFamOkSpec : ChangeSpec := { name := "fnExactFamOk", fn := fun _ => fun
  | [d] => { results := [.lit (.bool true)], args := [d] }
  | _ => none }
def fnExactFamOkRow : OpenClaim := { program := "ytlcgddghildedaa", sum := "db538da7919a2fa98edd8729bf0191877263af9430ca56c05469ac1a94163788", func := "loop.example/g01277/laws.FnExactFamOk", spec := "fnExactFamOk", apart := false }
def FnExactFamOkSaid : Prop := fnExactFamOkRow.holds Try.pinned (OpenSpec.ofChange fnExactFamOkSpec)

/-- ITS FALSE NEIGHBOUR: 'it returns false'. Refute it at one input. -/
def fnExactFamOkWrong : ChangeSpec := { name := "fnExactFamOk", fn := fun _ => fun
  | [d] => { results := [.lit (.bool false)], args := [d] }
  | _ => none }
def FnExactFamOkWrongFalsely : Prop := fnExactFamOkRow.holds Try.pinned (OpenSpec.ofChange fnExactFamOkWrong)

/-- 'laws.FnExactFamRegs': WHATEVER THE INPUT: true; the input reads as it did. -/
def fnExactFamRegsSpec : ChangeSpec := { name := "fnExactFamRegs", fn := fun _ => fun
  | [d] => { results := [.lit (.bool true)], args := [d] }
  | _ => none }
def fnExactFamRegsRow : OpenClaim := { program := "ytlcgddghildedaa", sum := "db538da7919a2fa98edd8729bf0191877263af9430ca56c05469ac1a94163788", func := "loop.example/g01277/laws.FnExactFamRegs", spec := "fnExactFamRegs", apart := false }
def FnExactFamRegsSaid : Prop := fnExactFamRegsRow.holds Try.pinned (OpenSpec.ofChange fnExactFamRegsSpec)

/-- ITS FALSE NEIGHBOUR: 'it returns false'. Refute it at one input. -/
def fnExactFamRegsWrong : ChangeSpec := { name := "fnExactFamRegs", fn := fun _ => fun
  | [d] => { results := [.lit (.bool false)], args := [d] }
  | _ => none }
def FnExactFamRegsWrongFalsely : Prop := fnExactFamRegsRow.holds Try.pinned (OpenSpec.ofChange fnExactFamRegsWrong)

/-- 'laws.FnExactFamAt': WHATEVER THE INPUT: true; the input reads as it did. -/
def fnExactFamAtSpec : ChangeSpec := { name := "fnExactFamAt", fn := fun _ => fun
  | [d1, d2, d3] => { results := [.lit (.bool true)], args := [d1, d2, d3] }
  | _ => none }
def fnExactFamAtRow : OpenClaim := { program := "ytlcgddghildedaa", sum := "db538da7919a2fa98edd8729bf0191877263af9430ca56c05469ac1a94163788", func := "loop.example/g01277/laws.FnExactFamAt", spec := "fnExactFamAt", apart := false }
def FnExactFamAtSaid : Prop := fnExactFamAtRow.holds Try.pinned (OpenSpec.ofChange fnExactFamAtSpec)

/-- ITS FALSE NEIGHBOUR: 'it returns false'. Refute it at one input. -/
def fnExactFamAtWrong : ChangeSpec := { name := "fnExactFamAt", fn := fun _ => fun
  | [d1, d2, d3] => { results := [.lit (.bool false)], args := [d1, d2, d3] }
  | _ => none }
def FnExactFamAtWrongFalsely : Prop := fnExactFamAtRow.holds Try.pinned (OpenSpec.ofChange fnExactFamAtWrong)

/-- 'laws.FnExactStamps': WHATEVER THE INPUT: true; the input reads as it did. -/
def fnExactStampsSpec : ChangeSpec := { name := "fnExactStamps", fn := fun _ => fun
  | [d] => { results := [.lit (.bool true)], args := [d] }
  | _ => none }
def fnExactStampsRow : OpenClaim := { program := "ytlcgddghildedaa", sum := "db538da7919a2fa98edd8729bf0191877263af9430ca56c05469ac1a94163788", func := "loop.example/g01277/laws.FnExactStamps", spec := "fnExactStamps", unfollowed := true, recurses := true, apart := false }
def FnExactStampsSaid : Prop := fnExactStampsRow.holds Try.pinned (OpenSpec.ofChange fnExactStampsSpec)

/-- ITS FALSE NEIGHBOUR: 'it returns false'. Refute it at one input. -/
def fnExactStampsWrong : ChangeSpec := { name := "fnExactStamps", fn := fun _ => fun
  | [d] => { results := [.lit (.bool false)], args := [d] }
  | _ => none }
def FnExactStampsWrongFalsely : Prop := fnExactStampsRow.holds Try.pinned (OpenSpec.ofChange fnExactStampsWrong)

/-- 'laws.FnExactScriptOk': WHATEVER THE INPUT: true; the input reads as it did. -/
def fnExactScriptOkSpec : ChangeSpec := { name := "fnExactScriptOk", fn := fun _ => fun
  | [d] => { results := [.lit (.bool true)], args := [d] }
  | _ => none }
def fnExactScriptOkRow : OpenClaim := { program := "ytlcgddghildedaa", sum := "db538da7919a2fa98edd8729bf0191877263af9430ca56c05469ac1a94163788", func := "loop.example/g01277/laws.FnExactScriptOk", spec := "fnExactScriptOk", unfollowed := true, recurses := true, apart := false }
def FnExactScriptOkSaid : Prop := fnExactScriptOkRow.holds Try.pinned (OpenSpec.ofChange fnExactScriptOkSpec)

/-- ITS FALSE NEIGHBOUR: 'it returns false'. Refute it at one input. -/
def fnExactScriptOkWrong : ChangeSpec := { name := "fnExactScriptOk", fn := fun _ => fun
  | [d] => { results := [.lit (.bool false)], args := [d] }
  | _ => none }
def FnExactScriptOkWrongFalsely : Prop := fnExactScriptOkRow.holds Try.pinned (OpenSpec.ofChange fnExactScriptOkWrong)

/-- 'laws.FnExactStateAt': WHATEVER THE INPUT: true; the input reads as it did. -/
def fnExactStateAtSpec : ChangeSpec := { name := "fnExactStateAt", fn := fun _ => fun
  | [d1, d2, d3] => { results := [.lit (.bool true)], args := [d1, d2, d3] }
  | _ => none }
def fnExactStateAtRow : OpenClaim := { program := "ytlcgddghildedaa", sum := "db538da7919a2fa98edd8729bf0191877263af9430ca56c05469ac1a94163788", func := "loop.example/g01277/laws.FnExactStateAt", spec := "fnExactStateAt", unfollowed := true, recurses := true, apart := false }
def FnExactStateAtSaid : Prop := fnExactStateAtRow.holds Try.pinned (OpenSpec.ofChange fnExactStateAtSpec)

/-- ITS FALSE NEIGHBOUR: 'it returns false'. Refute it at one input. -/
def fnExactStateAtWrong : ChangeSpec := { name := "fnExactStateAt", fn := fun _ => fun
  | [d1, d2, d3] => { results := [.lit (.bool false)], args := [d1, d2, d3] }
  | _ => none }
def FnExactStateAtWrongFalsely : Prop := fnExactStateAtRow.holds Try.pinned (OpenSpec.ofChange fnExactStateAtWrong)

/-- 'laws.FnExactFamSerial': WHATEVER THE INPUT: true; the input reads as it did. -/
def fnExactFamSerialSpec : ChangeSpec := { name := "fnExactFamSerial", fn := fun _ => fun
  | [d1, d2] => { results := [.lit (.bool true)], args := [d1, d2] }
  | _ => none }
def fnExactFamSerialRow : OpenClaim := { program := "ytlcgddghildedaa", sum := "db538da7919a2fa98edd8729bf0191877263af9430ca56c05469ac1a94163788", func := "loop.example/g01277/laws.FnExactFamSerial", spec := "fnExactFamSerial", recurses := true, apart := false }
def FnExactFamSerialSaid : Prop := fnExactFamSerialRow.holds Try.pinned (OpenSpec.ofChange fnExactFamSerialSpec)

/-- ITS FALSE NEIGHBOUR: 'it returns false'. Refute it at one input. -/
def fnExactFamSerialWrong : ChangeSpec := { name := "fnExactFamSerial", fn := fun _ => fun
  | [d1, d2] => { results := [.lit (.bool false)], args := [d1, d2] }
  | _ => none }
def FnExactFamSerialWrongFalsely : Prop := fnExactFamSerialRow.holds Try.pinned (OpenSpec.ofChange fnExactFamSerialWrong)

/- THE SECOND FORM. 'bulk': how many values and letters a reading holds, each counted each time it is reached (what is shared counts as often as it is met; a slice's spare places count too). A statement '..UptoSaid' is the law's where the arguments, and the package variables that the reading takes, are together of bulk at most 1048576: NARROWER than '..Said'. Prove '..Said' where nothing that the law and all that it calls make is longer than what came in: it says more and counts as full. Else prove '..UptoSaid'. A law counts once. -/
mutual
def uptoBulk {H : Type} : DataW H → Nat
  | .lit (.string bytes) => bytes.length + 1
  | .lit _ => 1
  | .nil => 1
  | .ptr d => uptoBulk d + 1
  | .slice elems spare => uptoBulkAll elems + uptoBulkAll spare + 1
  | .agg parts => uptoBulkAll parts + 1
  | .iface _ d => uptoBulk d + 1
  | .map entries => uptoBulkEntries entries + 1
  | .held _ => 1
def uptoBulkAll {H : Type} : List (DataW H) → Nat
  | [] => 0
  | d :: r => uptoBulk d + uptoBulkAll r
def uptoBulkEntries {H : Type} : List (Lit × DataW H) → Nat
  | [] => 0
  | x :: r => uptoBulkEntry x + uptoBulkEntries r
def uptoBulkEntry {H : Type} : Lit × DataW H → Nat
  | (.string bytes, d) => bytes.length + uptoBulk d + 1
  | (_, d) => uptoBulk d + 1
 end
def uptoSmall : (H : Type) → List (DataW H) → Bool := fun _ ds => decide (uptoBulkAll ds ≤ 1048576)
def OpenSpec.upto (s : _root_.Go.ChangeSpec) : _root_.Go.OpenSpec := { _root_.Go.OpenSpec.ofChange s with cond := some uptoSmall }

/-- 'laws.FnStates', WHERE WHAT IT READS IS OF BULK AT MOST 1048576: true; the input reads as it did. -/
def fnStatesUptoRow : OpenClaim := { program := "ytlcgddghildedaa", sum := "db538da7919a2fa98edd8729bf0191877263af9430ca56c05469ac1a94163788", func := "loop.example/g01277/laws.FnStates", spec := "fnStates", unfollowed := true, recurses := true, apart := false, narrowed := true }
def FnStatesUptoSaid : Prop := fnStatesUptoRow.holds Try.pinned (OpenSpec.upto fnStatesSpec)

/-- 'laws.FnExactOver', WHERE WHAT IT READS IS OF BULK AT MOST 1048576: true; the input reads as it did. -/
def fnExactOverUptoRow : OpenClaim := { program := "ytlcgddghildedaa", sum := "db538da7919a2fa98edd8729bf0191877263af9430ca56c05469ac1a94163788", func := "loop.example/g01277/laws.FnExactOver", spec := "fnExactOver", unfollowed := true, recurses := true, apart := false, narrowed := true }
def FnExactOverUptoSaid : Prop := fnExactOverUptoRow.holds Try.pinned (OpenSpec.upto fnExactOverSpec)

/-- 'laws.FnExactDuelTrue', WHERE WHAT IT READS IS OF BULK AT MOST 1048576: true; the input reads as it did. -/
def fnExactDuelTrueUptoRow : OpenClaim := { program := "ytlcgddghildedaa", sum := "db538da7919a2fa98edd8729bf0191877263af9430ca56c05469ac1a94163788", func := "loop.example/g01277/laws.FnExactDuelTrue", spec := "fnExactDuelTrue", unfollowed := true, recurses := true, apart := false, narrowed := true }
def FnExactDuelTrueUptoSaid : Prop := fnExactDuelTrueUptoRow.holds Try.pinned (OpenSpec.upto fnExactDuelTrueSpec)

/-- 'laws.FnExactHistOk', WHERE WHAT IT READS IS OF BULK AT MOST 1048576: true; the input reads as it did. -/
def fnExactHistOkUptoRow : OpenClaim := { program := "ytlcgddghildedaa", sum := "db538da7919a2fa98edd8729bf0191877263af9430ca56c05469ac1a94163788", func := "loop.example/g01277/laws.FnExactHistOk", spec := "fnExactHistOk", unfollowed := true, recurses := true, apart := false, narrowed := true }
def FnExactHistOkUptoSaid : Prop := fnExactHistOkUptoRow.holds Try.pinned (OpenSpec.upto fnExactHistOkSpec)

/-- 'laws.FnExactJobsOk', WHERE WHAT IT READS IS OF BULK AT MOST 1048576: true; the input reads as it did. -/
def fnExactJobsOkUptoRow : OpenClaim := { program := "ytlcgddghildedaa", sum := "db538da7919a2fa98edd8729bf0191877263af9430ca56c05469ac1a94163788", func := "loop.example/g01277/laws.FnExactJobsOk", spec := "fnExactJobsOk", unfollowed := true, recurses := true, apart := false, narrowed := true }
def FnExactJobsOkUptoSaid : Prop := fnExactJobsOkUptoRow.holds Try.pinned (OpenSpec.upto fnExactJobsOkSpec)

/-- 'laws.FnExactLastWriter', WHERE WHAT IT READS IS OF BULK AT MOST 1048576: true; the input reads as it did. -/
def fnExactLastWriterUptoRow : OpenClaim := { program := "ytlcgddghildedaa", sum := "db538da7919a2fa98edd8729bf0191877263af9430ca56c05469ac1a94163788", func := "loop.example/g01277/laws.FnExactLastWriter", spec := "fnExactLastWriter", unfollowed := true, recurses := true, apart := false, narrowed := true }
def FnExactLastWriterUptoSaid : Prop := fnExactLastWriterUptoRow.holds Try.pinned (OpenSpec.upto fnExactLastWriterSpec)

/-- 'laws.FnExactJobsInTurn', WHERE WHAT IT READS IS OF BULK AT MOST 1048576: true; the input reads as it did. -/
def fnExactJobsInTurnUptoRow : OpenClaim := { program := "ytlcgddghildedaa", sum := "db538da7919a2fa98edd8729bf0191877263af9430ca56c05469ac1a94163788", func := "loop.example/g01277/laws.FnExactJobsInTurn", spec := "fnExactJobsInTurn", unfollowed := true, recurses := true, apart := false, narrowed := true }
def FnExactJobsInTurnUptoSaid : Prop := fnExactJobsInTurnUptoRow.holds Try.pinned (OpenSpec.upto fnExactJobsInTurnSpec)

/-- 'laws.FnExactFamOver', WHERE WHAT IT READS IS OF BULK AT MOST 1048576: true; the input reads as it did. -/
def fnExactFamOverUptoRow : OpenClaim := { program := "ytlcgddghildedaa", sum := "db538da7919a2fa98edd8729bf0191877263af9430ca56c05469ac1a94163788", func := "loop.example/g01277/laws.FnExactFamOver", spec := "fnExactFamOver", unfollowed := true, recurses := true, apart := false, narrowed := true }
def FnExactFamOverUptoSaid : Prop := fnExactFamOverUptoRow.holds Try.pinned (OpenSpec.upto fnExactFamOverSpec)

/-- 'laws.FnExactDuelOver', WHERE WHAT IT READS IS OF BULK AT MOST 1048576: true; the input reads as it did. -/
def fnExactDuelOverUptoRow : OpenClaim := { program := "ytlcgddghildedaa", sum := "db538da7919a2fa98edd8729bf0191877263af9430ca56c05469ac1a94163788", func := "loop.example/g01277/laws.FnExactDuelOver", spec := "fnExactDuelOver", unfollowed := true, recurses := true, apart := false, narrowed := true }
def FnExactDuelOverUptoSaid : Prop := fnExactDuelOverUptoRow.holds Try.pinned (OpenSpec.upto fnExactDuelOverSpec)

/-- 'laws.FnExactFamPuts', WHERE WHAT IT READS IS OF BULK AT MOST 1048576: true; the input reads as it did. -/
def fnExactFamPutsUptoRow : OpenClaim := { program := "ytlcgddghildedaa", sum := "db538da7919a2fa98edd8729bf0191877263af9430ca56c05469ac1a94163788", func := "loop.example/g01277/laws.FnExactFamPuts", spec := "fnExactFamPuts", apart := false, narrowed := true }
def FnExactFamPutsUptoSaid : Prop := fnExactFamPutsUptoRow.holds Try.pinned (OpenSpec.upto fnExactFamPutsSpec)

/-- 'laws.FnExactFamTrue', WHERE WHAT IT READS IS OF BULK AT MOST 1048576: true; the input reads as it did. -/
def fnExactFamTrueUptoRow : OpenClaim := { program := "ytlcgddghildedaa", sum := "db538da7919a2fa98edd8729bf0191877263af9430ca56c05469ac1a94163788", func := "loop.example/g01277/laws.FnExactFamTrue", spec := "fnExactFamTrue", apart := false, narrowed := true }
def FnExactFamTrueUptoSaid : Prop := fnExactFamTrueUptoRow.holds Try.pinned (OpenSpec.upto fnExactFamTrueSpec)

/-- 'laws.FnExactFamOk', WHERE WHAT IT READS IS OF BULK AT MOST 1048576: true; the input reads as it did. -/
def fnExactFamOkUptoRow : OpenClaim := { program := "ytlcgddghildedaa", sum := "db538da7919a2fa98edd8729bf0191877263af9430ca56c05469ac1a94163788", func := "loop.example/g01277/laws.FnExactFamOk", spec := "fnExactFamOk", apart := false, narrowed := true }
def FnExactFamOkUptoSaid : Prop := fnExactFamOkUptoRow.holds Try.pinned (OpenSpec.upto fnExactFamOkSpec)

/-- 'laws.FnExactFamRegs', WHERE WHAT IT READS IS OF BULK AT MOST 1048576: true; the input reads as it did. -/
def fnExactFamRegsUptoRow : OpenClaim := { program := "ytlcgddghildedaa", sum := "db538da7919a2fa98edd8729bf0191877263af9430ca56c05469ac1a94163788", func := "loop.example/g01277/laws.FnExactFamRegs", spec := "fnExactFamRegs", apart := false, narrowed := true }
def FnExactFamRegsUptoSaid : Prop := fnExactFamRegsUptoRow.holds Try.pinned (OpenSpec.upto fnExactFamRegsSpec)

/-- 'laws.FnExactFamAt', WHERE WHAT IT READS IS OF BULK AT MOST 1048576: true; the input reads as it did. -/
def fnExactFamAtUptoRow : OpenClaim := { program := "ytlcgddghildedaa", sum := "db538da7919a2fa98edd8729bf0191877263af9430ca56c05469ac1a94163788", func := "loop.example/g01277/laws.FnExactFamAt", spec := "fnExactFamAt", apart := false, narrowed := true }
def FnExactFamAtUptoSaid : Prop := fnExactFamAtUptoRow.holds Try.pinned (OpenSpec.upto fnExactFamAtSpec)

/-- 'laws.FnExactStamps', WHERE WHAT IT READS IS OF BULK AT MOST 1048576: true; the input reads as it did. -/
def fnExactStampsUptoRow : OpenClaim := { program := "ytlcgddghildedaa", sum := "db538da7919a2fa98edd8729bf0191877263af9430ca56c05469ac1a94163788", func := "loop.example/g01277/laws.FnExactStamps", spec := "fnExactStamps", unfollowed := true, recurses := true, apart := false, narrowed := true }
def FnExactStampsUptoSaid : Prop := fnExactStampsUptoRow.holds Try.pinned (OpenSpec.upto fnExactStampsSpec)

/-- 'laws.FnExactScriptOk', WHERE WHAT IT READS IS OF BULK AT MOST 1048576: true; the input reads as it did. -/
def fnExactScriptOkUptoRow : OpenClaim := { program := "ytlcgddghildedaa", sum := "db538da7919a2fa98edd8729bf0191877263af9430ca56c05469ac1a94163788", func := "loop.example/g01277/laws.FnExactScriptOk", spec := "fnExactScriptOk", unfollowed := true, recurses := true, apart := false, narrowed := true }
def FnExactScriptOkUptoSaid : Prop := fnExactScriptOkUptoRow.holds Try.pinned (OpenSpec.upto fnExactScriptOkSpec)

/-- 'laws.FnExactStateAt', WHERE WHAT IT READS IS OF BULK AT MOST 1048576: true; the input reads as it did. -/
def fnExactStateAtUptoRow : OpenClaim := { program := "ytlcgddghildedaa", sum := "db538da7919a2fa98edd8729bf0191877263af9430ca56c05469ac1a94163788", func := "loop.example/g01277/laws.FnExactStateAt", spec := "fnExactStateAt", unfollowed := true, recurses := true, apart := false, narrowed := true }
def FnExactStateAtUptoSaid : Prop := fnExactStateAtUptoRow.holds Try.pinned (OpenSpec.upto fnExactStateAtSpec)

/-- 'laws.FnExactFamSerial', WHERE WHAT IT READS IS OF BULK AT MOST 1048576: true; the input reads as it did. -/
def fnExactFamSerialUptoRow : OpenClaim := { program := "ytlcgddghildedaa", sum := "db538da7919a2fa98edd8729bf0191877263af9430ca56c05469ac1a94163788", func := "loop.example/g01277/laws.FnExactFamSerial", spec := "fnExactFamSerial", recurses := true, apart := false, narrowed := true }
def FnExactFamSerialUptoSaid : Prop := fnExactFamSerialUptoRow.holds Try.pinned (OpenSpec.upto fnExactFamSerialSpec)

end Rows
end Go.Proofs.Ytlcgddghildedaa
