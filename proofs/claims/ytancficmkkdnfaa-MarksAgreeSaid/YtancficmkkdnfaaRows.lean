/-
  No cell of these rows narrows 'for every input' (looked for: loops, veiled, ifaces, maps, wideKeys, modest, calm, conditions, laid).
  DERIVED. THE GIVEN ROWS OF THIS SEAT. 16 by the template 'for every input the law returns true; each argument reads behind the call as it read before'; 0 by the template 'total and deterministic' (their statements: YtancficmkkdnfaaTotals.lean).
  GIVEN WITH THE SEED: the statements are not yours to turn. If you find one false, say at which input.
  Laid BY PROGRAM, IN A SANDBOX (cutbox-rows.mjs): the forced cells as the released guide's own fill.sh prints them over the translation f4c72892cc81d65e… (all of the seat's roots in one cut). By AI agents, Wed Nov 11 2026. No macro, syntax, notation, axiom, sorry.
-/
import Derived.Test.YtancficmkkdnfaaChecked
import GoSem.Claim
import GoSem.ClaimJoined
import GoSem.ClaimMapViews
import Derived.JoinedTies
import Derived.KernelRfl
namespace Go.Proofs.Ytancficmkkdnfaa
/- THE CELL 'sum', in the pinned program and in every row, IS THE sha256 OF THE DUMP (.gsa) THAT YtancficmkkdnfaaProg.lean LOADS. Nothing in Lean hashes anything: it is a label: what it is worth is what the hold of that sum in a sandbox is worth. -/
noncomputable def Try.pinned : Pinned := { name := "ytancficmkkdnfaa", sum := "f4c72892cc81d65e5afbb87d33d2c8eaec093e67a3d28a17bb3232aa1424a3e1", checked := Try.checked }
namespace Rows
def none {H : Type} : Left H := { results := [], args := [] }

/-- 'lampboxlaw11.MarksExponents': WHATEVER THE INPUT: true; the input reads as it did. -/
def marksExponentsSpec : ChangeSpec := { name := "marksExponents", fn := fun _ => fun
  | [d] => { results := [.lit (.bool true)], args := [d] }
  | _ => none }
def marksExponentsRow : OpenClaim := { program := "ytancficmkkdnfaa", sum := "f4c72892cc81d65e5afbb87d33d2c8eaec093e67a3d28a17bb3232aa1424a3e1", func := "lampbox/lampboxlaw11.MarksExponents", spec := "marksExponents", inPlace := ["internal/abi.NoEscape"], unfollowed := true, recurses := true, apart := false }
def MarksExponentsSaid : Prop := marksExponentsRow.holds Try.pinned (OpenSpec.ofChange marksExponentsSpec)

/-- ITS FALSE NEIGHBOUR: 'it returns false'. Refute it at one input. -/
def marksExponentsWrong : ChangeSpec := { name := "marksExponents", fn := fun _ => fun
  | [d] => { results := [.lit (.bool false)], args := [d] }
  | _ => none }
def MarksExponentsWrongFalsely : Prop := marksExponentsRow.holds Try.pinned (OpenSpec.ofChange marksExponentsWrong)

/-- 'lampboxlaw11.MarksGreatest': WHATEVER THE INPUT: true; the input reads as it did. -/
def marksGreatestSpec : ChangeSpec := { name := "marksGreatest", fn := fun _ => fun
  | [d1, d2] => { results := [.lit (.bool true)], args := [d1, d2] }
  | _ => none }
def marksGreatestRow : OpenClaim := { program := "ytancficmkkdnfaa", sum := "f4c72892cc81d65e5afbb87d33d2c8eaec093e67a3d28a17bb3232aa1424a3e1", func := "lampbox/lampboxlaw11.MarksGreatest", spec := "marksGreatest", inPlace := ["internal/abi.NoEscape"], unfollowed := true, recurses := true, apart := false }
def MarksGreatestSaid : Prop := marksGreatestRow.holds Try.pinned (OpenSpec.ofChange marksGreatestSpec)

/-- ITS FALSE NEIGHBOUR: 'it returns false'. Refute it at one input. -/
def marksGreatestWrong : ChangeSpec := { name := "marksGreatest", fn := fun _ => fun
  | [d1, d2] => { results := [.lit (.bool false)], args := [d1, d2] }
  | _ => none }
def MarksGreatestWrongFalsely : Prop := marksGreatestRow.holds Try.pinned (OpenSpec.ofChange marksGreatestWrong)

/-- 'lampboxlaw11.MarksCounted': WHATEVER THE INPUT: true; the input reads as it did. -/
def marksCountedSpec : ChangeSpec := { name := "marksCounted", fn := fun _ => fun
  | [d1, d2] => { results := [.lit (.bool true)], args := [d1, d2] }
  | _ => none }
def marksCountedRow : OpenClaim := { program := "ytancficmkkdnfaa", sum := "f4c72892cc81d65e5afbb87d33d2c8eaec093e67a3d28a17bb3232aa1424a3e1", func := "lampbox/lampboxlaw11.MarksCounted", spec := "marksCounted", inPlace := ["internal/abi.NoEscape"], unfollowed := true, recurses := true, apart := false }
def MarksCountedSaid : Prop := marksCountedRow.holds Try.pinned (OpenSpec.ofChange marksCountedSpec)

/-- ITS FALSE NEIGHBOUR: 'it returns false'. Refute it at one input. -/
def marksCountedWrong : ChangeSpec := { name := "marksCounted", fn := fun _ => fun
  | [d1, d2] => { results := [.lit (.bool false)], args := [d1, d2] }
  | _ => none }
def MarksCountedWrongFalsely : Prop := marksCountedRow.holds Try.pinned (OpenSpec.ofChange marksCountedWrong)

/-- 'lampboxlaw11.MarksImages': WHATEVER THE INPUT: true; the input reads as it did. -/
def marksImagesSpec : ChangeSpec := { name := "marksImages", fn := fun _ => fun
  | [d1, d2] => { results := [.lit (.bool true)], args := [d1, d2] }
  | _ => none }
def marksImagesRow : OpenClaim := { program := "ytancficmkkdnfaa", sum := "f4c72892cc81d65e5afbb87d33d2c8eaec093e67a3d28a17bb3232aa1424a3e1", func := "lampbox/lampboxlaw11.MarksImages", spec := "marksImages", inPlace := ["internal/abi.NoEscape"], unfollowed := true, recurses := true, apart := false }
def MarksImagesSaid : Prop := marksImagesRow.holds Try.pinned (OpenSpec.ofChange marksImagesSpec)

/-- ITS FALSE NEIGHBOUR: 'it returns false'. Refute it at one input. -/
def marksImagesWrong : ChangeSpec := { name := "marksImages", fn := fun _ => fun
  | [d1, d2] => { results := [.lit (.bool false)], args := [d1, d2] }
  | _ => none }
def MarksImagesWrongFalsely : Prop := marksImagesRow.holds Try.pinned (OpenSpec.ofChange marksImagesWrong)

/-- 'lampboxlaw11.MarksKept': WHATEVER THE INPUT: true; the input reads as it did. -/
def marksKeptSpec : ChangeSpec := { name := "marksKept", fn := fun _ => fun
  | [d1, d2] => { results := [.lit (.bool true)], args := [d1, d2] }
  | _ => none }
def marksKeptRow : OpenClaim := { program := "ytancficmkkdnfaa", sum := "f4c72892cc81d65e5afbb87d33d2c8eaec093e67a3d28a17bb3232aa1424a3e1", func := "lampbox/lampboxlaw11.MarksKept", spec := "marksKept", inPlace := ["internal/abi.NoEscape"], unfollowed := true, recurses := true, apart := false }
def MarksKeptSaid : Prop := marksKeptRow.holds Try.pinned (OpenSpec.ofChange marksKeptSpec)

/-- ITS FALSE NEIGHBOUR: 'it returns false'. Refute it at one input. -/
def marksKeptWrong : ChangeSpec := { name := "marksKept", fn := fun _ => fun
  | [d1, d2] => { results := [.lit (.bool false)], args := [d1, d2] }
  | _ => none }
def MarksKeptWrongFalsely : Prop := marksKeptRow.holds Try.pinned (OpenSpec.ofChange marksKeptWrong)

/-- 'lampboxlaw11.MarksCounts': WHATEVER THE INPUT: true; the input reads as it did. -/
def marksCountsSpec : ChangeSpec := { name := "marksCounts", fn := fun _ => fun
  | [d1, d2] => { results := [.lit (.bool true)], args := [d1, d2] }
  | _ => none }
def marksCountsRow : OpenClaim := { program := "ytancficmkkdnfaa", sum := "f4c72892cc81d65e5afbb87d33d2c8eaec093e67a3d28a17bb3232aa1424a3e1", func := "lampbox/lampboxlaw11.MarksCounts", spec := "marksCounts", inPlace := ["internal/abi.NoEscape"], unfollowed := true, recurses := true, apart := false }
def MarksCountsSaid : Prop := marksCountsRow.holds Try.pinned (OpenSpec.ofChange marksCountsSpec)

/-- ITS FALSE NEIGHBOUR: 'it returns false'. Refute it at one input. -/
def marksCountsWrong : ChangeSpec := { name := "marksCounts", fn := fun _ => fun
  | [d1, d2] => { results := [.lit (.bool false)], args := [d1, d2] }
  | _ => none }
def MarksCountsWrongFalsely : Prop := marksCountsRow.holds Try.pinned (OpenSpec.ofChange marksCountsWrong)

/-- 'lampboxlaw11.MarksFirst': WHATEVER THE INPUT: true; the input reads as it did. -/
def marksFirstSpec : ChangeSpec := { name := "marksFirst", fn := fun _ => fun
  | [d1, d2] => { results := [.lit (.bool true)], args := [d1, d2] }
  | _ => none }
def marksFirstRow : OpenClaim := { program := "ytancficmkkdnfaa", sum := "f4c72892cc81d65e5afbb87d33d2c8eaec093e67a3d28a17bb3232aa1424a3e1", func := "lampbox/lampboxlaw11.MarksFirst", spec := "marksFirst", inPlace := ["internal/abi.NoEscape"], unfollowed := true, recurses := true, apart := false }
def MarksFirstSaid : Prop := marksFirstRow.holds Try.pinned (OpenSpec.ofChange marksFirstSpec)

/-- ITS FALSE NEIGHBOUR: 'it returns false'. Refute it at one input. -/
def marksFirstWrong : ChangeSpec := { name := "marksFirst", fn := fun _ => fun
  | [d1, d2] => { results := [.lit (.bool false)], args := [d1, d2] }
  | _ => none }
def MarksFirstWrongFalsely : Prop := marksFirstRow.holds Try.pinned (OpenSpec.ofChange marksFirstWrong)

/-- 'lampboxlaw11.MarksExtends': WHATEVER THE INPUT: true; the input reads as it did. -/
def marksExtendsSpec : ChangeSpec := { name := "marksExtends", fn := fun _ => fun
  | [d1, d2] => { results := [.lit (.bool true)], args := [d1, d2] }
  | _ => none }
def marksExtendsRow : OpenClaim := { program := "ytancficmkkdnfaa", sum := "f4c72892cc81d65e5afbb87d33d2c8eaec093e67a3d28a17bb3232aa1424a3e1", func := "lampbox/lampboxlaw11.MarksExtends", spec := "marksExtends", inPlace := ["internal/abi.NoEscape"], unfollowed := true, recurses := true, apart := false }
def MarksExtendsSaid : Prop := marksExtendsRow.holds Try.pinned (OpenSpec.ofChange marksExtendsSpec)

/-- ITS FALSE NEIGHBOUR: 'it returns false'. Refute it at one input. -/
def marksExtendsWrong : ChangeSpec := { name := "marksExtends", fn := fun _ => fun
  | [d1, d2] => { results := [.lit (.bool false)], args := [d1, d2] }
  | _ => none }
def MarksExtendsWrongFalsely : Prop := marksExtendsRow.holds Try.pinned (OpenSpec.ofChange marksExtendsWrong)

/-- 'lampboxlaw11.MarksPeriods': WHATEVER THE INPUT: true; the input reads as it did. -/
def marksPeriodsSpec : ChangeSpec := { name := "marksPeriods", fn := fun _ => fun
  | [d] => { results := [.lit (.bool true)], args := [d] }
  | _ => none }
def marksPeriodsRow : OpenClaim := { program := "ytancficmkkdnfaa", sum := "f4c72892cc81d65e5afbb87d33d2c8eaec093e67a3d28a17bb3232aa1424a3e1", func := "lampbox/lampboxlaw11.MarksPeriods", spec := "marksPeriods", inPlace := ["internal/abi.NoEscape"], unfollowed := true, recurses := true, apart := false }
def MarksPeriodsSaid : Prop := marksPeriodsRow.holds Try.pinned (OpenSpec.ofChange marksPeriodsSpec)

/-- ITS FALSE NEIGHBOUR: 'it returns false'. Refute it at one input. -/
def marksPeriodsWrong : ChangeSpec := { name := "marksPeriods", fn := fun _ => fun
  | [d] => { results := [.lit (.bool false)], args := [d] }
  | _ => none }
def MarksPeriodsWrongFalsely : Prop := marksPeriodsRow.holds Try.pinned (OpenSpec.ofChange marksPeriodsWrong)

/-- 'lampboxlaw11.MarksGrows': WHATEVER THE INPUT: true; the input reads as it did. -/
def marksGrowsSpec : ChangeSpec := { name := "marksGrows", fn := fun _ => fun
  | [d1, d2] => { results := [.lit (.bool true)], args := [d1, d2] }
  | _ => none }
def marksGrowsRow : OpenClaim := { program := "ytancficmkkdnfaa", sum := "f4c72892cc81d65e5afbb87d33d2c8eaec093e67a3d28a17bb3232aa1424a3e1", func := "lampbox/lampboxlaw11.MarksGrows", spec := "marksGrows", inPlace := ["internal/abi.NoEscape"], unfollowed := true, recurses := true, apart := false }
def MarksGrowsSaid : Prop := marksGrowsRow.holds Try.pinned (OpenSpec.ofChange marksGrowsSpec)

/-- ITS FALSE NEIGHBOUR: 'it returns false'. Refute it at one input. -/
def marksGrowsWrong : ChangeSpec := { name := "marksGrows", fn := fun _ => fun
  | [d1, d2] => { results := [.lit (.bool false)], args := [d1, d2] }
  | _ => none }
def MarksGrowsWrongFalsely : Prop := marksGrowsRow.holds Try.pinned (OpenSpec.ofChange marksGrowsWrong)

/-- 'lampboxlaw11.MarksOwn': WHATEVER THE INPUT: true; the input reads as it did. -/
def marksOwnSpec : ChangeSpec := { name := "marksOwn", fn := fun _ => fun
  | [d1, d2] => { results := [.lit (.bool true)], args := [d1, d2] }
  | _ => none }
def marksOwnRow : OpenClaim := { program := "ytancficmkkdnfaa", sum := "f4c72892cc81d65e5afbb87d33d2c8eaec093e67a3d28a17bb3232aa1424a3e1", func := "lampbox/lampboxlaw11.MarksOwn", spec := "marksOwn", inPlace := ["internal/abi.NoEscape"], unfollowed := true, recurses := true, apart := false }
def MarksOwnSaid : Prop := marksOwnRow.holds Try.pinned (OpenSpec.ofChange marksOwnSpec)

/-- ITS FALSE NEIGHBOUR: 'it returns false'. Refute it at one input. -/
def marksOwnWrong : ChangeSpec := { name := "marksOwn", fn := fun _ => fun
  | [d1, d2] => { results := [.lit (.bool false)], args := [d1, d2] }
  | _ => none }
def MarksOwnWrongFalsely : Prop := marksOwnRow.holds Try.pinned (OpenSpec.ofChange marksOwnWrong)

/-- 'lampboxlaw11.MarksAgree': WHATEVER THE INPUT: true; the input reads as it did. -/
def marksAgreeSpec : ChangeSpec := { name := "marksAgree", fn := fun _ => fun
  | [d1, d2] => { results := [.lit (.bool true)], args := [d1, d2] }
  | _ => none }
def marksAgreeRow : OpenClaim := { program := "ytancficmkkdnfaa", sum := "f4c72892cc81d65e5afbb87d33d2c8eaec093e67a3d28a17bb3232aa1424a3e1", func := "lampbox/lampboxlaw11.MarksAgree", spec := "marksAgree", inPlace := ["internal/abi.NoEscape"], unfollowed := true, recurses := true, apart := false }
def MarksAgreeSaid : Prop := marksAgreeRow.holds Try.pinned (OpenSpec.ofChange marksAgreeSpec)

/-- ITS FALSE NEIGHBOUR: 'it returns false'. Refute it at one input. -/
def marksAgreeWrong : ChangeSpec := { name := "marksAgree", fn := fun _ => fun
  | [d1, d2] => { results := [.lit (.bool false)], args := [d1, d2] }
  | _ => none }
def MarksAgreeWrongFalsely : Prop := marksAgreeRow.holds Try.pinned (OpenSpec.ofChange marksAgreeWrong)

/-- 'lampboxlaw11.MarksSquares': WHATEVER THE INPUT: true; the input reads as it did. -/
def marksSquaresSpec : ChangeSpec := { name := "marksSquares", fn := fun _ => fun
  | [d] => { results := [.lit (.bool true)], args := [d] }
  | _ => none }
def marksSquaresRow : OpenClaim := { program := "ytancficmkkdnfaa", sum := "f4c72892cc81d65e5afbb87d33d2c8eaec093e67a3d28a17bb3232aa1424a3e1", func := "lampbox/lampboxlaw11.MarksSquares", spec := "marksSquares", inPlace := ["internal/abi.NoEscape"], unfollowed := true, recurses := true, apart := false }
def MarksSquaresSaid : Prop := marksSquaresRow.holds Try.pinned (OpenSpec.ofChange marksSquaresSpec)

/-- ITS FALSE NEIGHBOUR: 'it returns false'. Refute it at one input. -/
def marksSquaresWrong : ChangeSpec := { name := "marksSquares", fn := fun _ => fun
  | [d] => { results := [.lit (.bool false)], args := [d] }
  | _ => none }
def MarksSquaresWrongFalsely : Prop := marksSquaresRow.holds Try.pinned (OpenSpec.ofChange marksSquaresWrong)

/-- 'lampboxlaw11.MarksPowers': WHATEVER THE INPUT: true; the input reads as it did. -/
def marksPowersSpec : ChangeSpec := { name := "marksPowers", fn := fun _ => fun
  | [d1, d2, d3] => { results := [.lit (.bool true)], args := [d1, d2, d3] }
  | _ => none }
def marksPowersRow : OpenClaim := { program := "ytancficmkkdnfaa", sum := "f4c72892cc81d65e5afbb87d33d2c8eaec093e67a3d28a17bb3232aa1424a3e1", func := "lampbox/lampboxlaw11.MarksPowers", spec := "marksPowers", inPlace := ["internal/abi.NoEscape", "internal/bytealg.MakeNoZero"], unfollowed := true, recurses := true, apart := false }
def MarksPowersSaid : Prop := marksPowersRow.holds Try.pinned (OpenSpec.ofChange marksPowersSpec)

/-- ITS FALSE NEIGHBOUR: 'it returns false'. Refute it at one input. -/
def marksPowersWrong : ChangeSpec := { name := "marksPowers", fn := fun _ => fun
  | [d1, d2, d3] => { results := [.lit (.bool false)], args := [d1, d2, d3] }
  | _ => none }
def MarksPowersWrongFalsely : Prop := marksPowersRow.holds Try.pinned (OpenSpec.ofChange marksPowersWrong)

/-- 'lampboxlaw11.MarksWhole': WHATEVER THE INPUT: true; the input reads as it did. -/
def marksWholeSpec : ChangeSpec := { name := "marksWhole", fn := fun _ => fun
  | [d1, d2] => { results := [.lit (.bool true)], args := [d1, d2] }
  | _ => none }
def marksWholeRow : OpenClaim := { program := "ytancficmkkdnfaa", sum := "f4c72892cc81d65e5afbb87d33d2c8eaec093e67a3d28a17bb3232aa1424a3e1", func := "lampbox/lampboxlaw11.MarksWhole", spec := "marksWhole", inPlace := ["internal/abi.NoEscape", "internal/bytealg.MakeNoZero"], unfollowed := true, recurses := true, apart := false }
def MarksWholeSaid : Prop := marksWholeRow.holds Try.pinned (OpenSpec.ofChange marksWholeSpec)

/-- ITS FALSE NEIGHBOUR: 'it returns false'. Refute it at one input. -/
def marksWholeWrong : ChangeSpec := { name := "marksWhole", fn := fun _ => fun
  | [d1, d2] => { results := [.lit (.bool false)], args := [d1, d2] }
  | _ => none }
def MarksWholeWrongFalsely : Prop := marksWholeRow.holds Try.pinned (OpenSpec.ofChange marksWholeWrong)

/-- 'lampboxlaw11.MarksSteps': WHATEVER THE INPUT: true; the input reads as it did. -/
def marksStepsSpec : ChangeSpec := { name := "marksSteps", fn := fun _ => fun
  | [d1, d2, d3] => { results := [.lit (.bool true)], args := [d1, d2, d3] }
  | _ => none }
def marksStepsRow : OpenClaim := { program := "ytancficmkkdnfaa", sum := "f4c72892cc81d65e5afbb87d33d2c8eaec093e67a3d28a17bb3232aa1424a3e1", func := "lampbox/lampboxlaw11.MarksSteps", spec := "marksSteps", inPlace := ["internal/abi.NoEscape", "internal/bytealg.MakeNoZero"], unfollowed := true, recurses := true, apart := false }
def MarksStepsSaid : Prop := marksStepsRow.holds Try.pinned (OpenSpec.ofChange marksStepsSpec)

/-- ITS FALSE NEIGHBOUR: 'it returns false'. Refute it at one input. -/
def marksStepsWrong : ChangeSpec := { name := "marksSteps", fn := fun _ => fun
  | [d1, d2, d3] => { results := [.lit (.bool false)], args := [d1, d2, d3] }
  | _ => none }
def MarksStepsWrongFalsely : Prop := marksStepsRow.holds Try.pinned (OpenSpec.ofChange marksStepsWrong)

/- THE SECOND FORM. 'bulk': how many values and letters a reading holds, each counted each time it is reached (what is shared counts as often as it is met; a slice's spare places count too). A statement '..UptoSaid' is the law's where the arguments, and the package variables that the reading takes, are together of bulk at most 1048576: NARROWER than '..Said'. Prove '..Said' where nothing that the law and all that it calls make is longer than what came in: it says more and counts as full. Else prove '..UptoSaid'. A law counts once. -/
mutual
def uptoBulk {H : Type} : DataW H → Nat
  | .lit (.string bytes) => bytes.length + 1
  | .lit _ => 1
  | .nil => 1
  | .ptr d => uptoBulk d + 1
  | .slice elems spare => uptoBulkAll elems + uptoBulkAll spare + 1
  | .agg parts => uptoBulkAll parts + 1
  | .iface _ d => uptoBulk d + 1
  | .map entries => uptoBulkEntries entries + 1
  | .held _ => 1
def uptoBulkAll {H : Type} : List (DataW H) → Nat
  | [] => 0
  | d :: r => uptoBulk d + uptoBulkAll r
def uptoBulkEntries {H : Type} : List (Lit × DataW H) → Nat
  | [] => 0
  | x :: r => uptoBulkEntry x + uptoBulkEntries r
def uptoBulkEntry {H : Type} : Lit × DataW H → Nat
  | (.string bytes, d) => bytes.length + uptoBulk d + 1
  | (_, d) => uptoBulk d + 1
 end
def uptoSmall : (H : Type) → List (DataW H) → Bool := fun _ ds => decide (uptoBulkAll ds ≤ 1048576)
def OpenSpec.upto (s : _root_.Go.ChangeSpec) : _root_.Go.OpenSpec := { _root_.Go.OpenSpec.ofChange s with cond := some uptoSmall }

/-- 'lampboxlaw11.MarksExponents', WHERE WHAT IT READS IS OF BULK AT MOST 1048576: true; the input reads as it did. -/
def marksExponentsUptoRow : OpenClaim := { program := "ytancficmkkdnfaa", sum := "f4c72892cc81d65e5afbb87d33d2c8eaec093e67a3d28a17bb3232aa1424a3e1", func := "lampbox/lampboxlaw11.MarksExponents", spec := "marksExponents", inPlace := ["internal/abi.NoEscape"], unfollowed := true, recurses := true, apart := false, narrowed := true }
def MarksExponentsUptoSaid : Prop := marksExponentsUptoRow.holds Try.pinned (OpenSpec.upto marksExponentsSpec)

/-- 'lampboxlaw11.MarksGreatest', WHERE WHAT IT READS IS OF BULK AT MOST 1048576: true; the input reads as it did. -/
def marksGreatestUptoRow : OpenClaim := { program := "ytancficmkkdnfaa", sum := "f4c72892cc81d65e5afbb87d33d2c8eaec093e67a3d28a17bb3232aa1424a3e1", func := "lampbox/lampboxlaw11.MarksGreatest", spec := "marksGreatest", inPlace := ["internal/abi.NoEscape"], unfollowed := true, recurses := true, apart := false, narrowed := true }
def MarksGreatestUptoSaid : Prop := marksGreatestUptoRow.holds Try.pinned (OpenSpec.upto marksGreatestSpec)

/-- 'lampboxlaw11.MarksCounted', WHERE WHAT IT READS IS OF BULK AT MOST 1048576: true; the input reads as it did. -/
def marksCountedUptoRow : OpenClaim := { program := "ytancficmkkdnfaa", sum := "f4c72892cc81d65e5afbb87d33d2c8eaec093e67a3d28a17bb3232aa1424a3e1", func := "lampbox/lampboxlaw11.MarksCounted", spec := "marksCounted", inPlace := ["internal/abi.NoEscape"], unfollowed := true, recurses := true, apart := false, narrowed := true }
def MarksCountedUptoSaid : Prop := marksCountedUptoRow.holds Try.pinned (OpenSpec.upto marksCountedSpec)

/-- 'lampboxlaw11.MarksImages', WHERE WHAT IT READS IS OF BULK AT MOST 1048576: true; the input reads as it did. -/
def marksImagesUptoRow : OpenClaim := { program := "ytancficmkkdnfaa", sum := "f4c72892cc81d65e5afbb87d33d2c8eaec093e67a3d28a17bb3232aa1424a3e1", func := "lampbox/lampboxlaw11.MarksImages", spec := "marksImages", inPlace := ["internal/abi.NoEscape"], unfollowed := true, recurses := true, apart := false, narrowed := true }
def MarksImagesUptoSaid : Prop := marksImagesUptoRow.holds Try.pinned (OpenSpec.upto marksImagesSpec)

/-- 'lampboxlaw11.MarksKept', WHERE WHAT IT READS IS OF BULK AT MOST 1048576: true; the input reads as it did. -/
def marksKeptUptoRow : OpenClaim := { program := "ytancficmkkdnfaa", sum := "f4c72892cc81d65e5afbb87d33d2c8eaec093e67a3d28a17bb3232aa1424a3e1", func := "lampbox/lampboxlaw11.MarksKept", spec := "marksKept", inPlace := ["internal/abi.NoEscape"], unfollowed := true, recurses := true, apart := false, narrowed := true }
def MarksKeptUptoSaid : Prop := marksKeptUptoRow.holds Try.pinned (OpenSpec.upto marksKeptSpec)

/-- 'lampboxlaw11.MarksCounts', WHERE WHAT IT READS IS OF BULK AT MOST 1048576: true; the input reads as it did. -/
def marksCountsUptoRow : OpenClaim := { program := "ytancficmkkdnfaa", sum := "f4c72892cc81d65e5afbb87d33d2c8eaec093e67a3d28a17bb3232aa1424a3e1", func := "lampbox/lampboxlaw11.MarksCounts", spec := "marksCounts", inPlace := ["internal/abi.NoEscape"], unfollowed := true, recurses := true, apart := false, narrowed := true }
def MarksCountsUptoSaid : Prop := marksCountsUptoRow.holds Try.pinned (OpenSpec.upto marksCountsSpec)

/-- 'lampboxlaw11.MarksFirst', WHERE WHAT IT READS IS OF BULK AT MOST 1048576: true; the input reads as it did. -/
def marksFirstUptoRow : OpenClaim := { program := "ytancficmkkdnfaa", sum := "f4c72892cc81d65e5afbb87d33d2c8eaec093e67a3d28a17bb3232aa1424a3e1", func := "lampbox/lampboxlaw11.MarksFirst", spec := "marksFirst", inPlace := ["internal/abi.NoEscape"], unfollowed := true, recurses := true, apart := false, narrowed := true }
def MarksFirstUptoSaid : Prop := marksFirstUptoRow.holds Try.pinned (OpenSpec.upto marksFirstSpec)

/-- 'lampboxlaw11.MarksExtends', WHERE WHAT IT READS IS OF BULK AT MOST 1048576: true; the input reads as it did. -/
def marksExtendsUptoRow : OpenClaim := { program := "ytancficmkkdnfaa", sum := "f4c72892cc81d65e5afbb87d33d2c8eaec093e67a3d28a17bb3232aa1424a3e1", func := "lampbox/lampboxlaw11.MarksExtends", spec := "marksExtends", inPlace := ["internal/abi.NoEscape"], unfollowed := true, recurses := true, apart := false, narrowed := true }
def MarksExtendsUptoSaid : Prop := marksExtendsUptoRow.holds Try.pinned (OpenSpec.upto marksExtendsSpec)

/-- 'lampboxlaw11.MarksPeriods', WHERE WHAT IT READS IS OF BULK AT MOST 1048576: true; the input reads as it did. -/
def marksPeriodsUptoRow : OpenClaim := { program := "ytancficmkkdnfaa", sum := "f4c72892cc81d65e5afbb87d33d2c8eaec093e67a3d28a17bb3232aa1424a3e1", func := "lampbox/lampboxlaw11.MarksPeriods", spec := "marksPeriods", inPlace := ["internal/abi.NoEscape"], unfollowed := true, recurses := true, apart := false, narrowed := true }
def MarksPeriodsUptoSaid : Prop := marksPeriodsUptoRow.holds Try.pinned (OpenSpec.upto marksPeriodsSpec)

/-- 'lampboxlaw11.MarksGrows', WHERE WHAT IT READS IS OF BULK AT MOST 1048576: true; the input reads as it did. -/
def marksGrowsUptoRow : OpenClaim := { program := "ytancficmkkdnfaa", sum := "f4c72892cc81d65e5afbb87d33d2c8eaec093e67a3d28a17bb3232aa1424a3e1", func := "lampbox/lampboxlaw11.MarksGrows", spec := "marksGrows", inPlace := ["internal/abi.NoEscape"], unfollowed := true, recurses := true, apart := false, narrowed := true }
def MarksGrowsUptoSaid : Prop := marksGrowsUptoRow.holds Try.pinned (OpenSpec.upto marksGrowsSpec)

/-- 'lampboxlaw11.MarksOwn', WHERE WHAT IT READS IS OF BULK AT MOST 1048576: true; the input reads as it did. -/
def marksOwnUptoRow : OpenClaim := { program := "ytancficmkkdnfaa", sum := "f4c72892cc81d65e5afbb87d33d2c8eaec093e67a3d28a17bb3232aa1424a3e1", func := "lampbox/lampboxlaw11.MarksOwn", spec := "marksOwn", inPlace := ["internal/abi.NoEscape"], unfollowed := true, recurses := true, apart := false, narrowed := true }
def MarksOwnUptoSaid : Prop := marksOwnUptoRow.holds Try.pinned (OpenSpec.upto marksOwnSpec)

/-- 'lampboxlaw11.MarksAgree', WHERE WHAT IT READS IS OF BULK AT MOST 1048576: true; the input reads as it did. -/
def marksAgreeUptoRow : OpenClaim := { program := "ytancficmkkdnfaa", sum := "f4c72892cc81d65e5afbb87d33d2c8eaec093e67a3d28a17bb3232aa1424a3e1", func := "lampbox/lampboxlaw11.MarksAgree", spec := "marksAgree", inPlace := ["internal/abi.NoEscape"], unfollowed := true, recurses := true, apart := false, narrowed := true }
def MarksAgreeUptoSaid : Prop := marksAgreeUptoRow.holds Try.pinned (OpenSpec.upto marksAgreeSpec)

/-- 'lampboxlaw11.MarksSquares', WHERE WHAT IT READS IS OF BULK AT MOST 1048576: true; the input reads as it did. -/
def marksSquaresUptoRow : OpenClaim := { program := "ytancficmkkdnfaa", sum := "f4c72892cc81d65e5afbb87d33d2c8eaec093e67a3d28a17bb3232aa1424a3e1", func := "lampbox/lampboxlaw11.MarksSquares", spec := "marksSquares", inPlace := ["internal/abi.NoEscape"], unfollowed := true, recurses := true, apart := false, narrowed := true }
def MarksSquaresUptoSaid : Prop := marksSquaresUptoRow.holds Try.pinned (OpenSpec.upto marksSquaresSpec)

/-- 'lampboxlaw11.MarksPowers', WHERE WHAT IT READS IS OF BULK AT MOST 1048576: true; the input reads as it did. -/
def marksPowersUptoRow : OpenClaim := { program := "ytancficmkkdnfaa", sum := "f4c72892cc81d65e5afbb87d33d2c8eaec093e67a3d28a17bb3232aa1424a3e1", func := "lampbox/lampboxlaw11.MarksPowers", spec := "marksPowers", inPlace := ["internal/abi.NoEscape", "internal/bytealg.MakeNoZero"], unfollowed := true, recurses := true, apart := false, narrowed := true }
def MarksPowersUptoSaid : Prop := marksPowersUptoRow.holds Try.pinned (OpenSpec.upto marksPowersSpec)

/-- 'lampboxlaw11.MarksWhole', WHERE WHAT IT READS IS OF BULK AT MOST 1048576: true; the input reads as it did. -/
def marksWholeUptoRow : OpenClaim := { program := "ytancficmkkdnfaa", sum := "f4c72892cc81d65e5afbb87d33d2c8eaec093e67a3d28a17bb3232aa1424a3e1", func := "lampbox/lampboxlaw11.MarksWhole", spec := "marksWhole", inPlace := ["internal/abi.NoEscape", "internal/bytealg.MakeNoZero"], unfollowed := true, recurses := true, apart := false, narrowed := true }
def MarksWholeUptoSaid : Prop := marksWholeUptoRow.holds Try.pinned (OpenSpec.upto marksWholeSpec)

/-- 'lampboxlaw11.MarksSteps', WHERE WHAT IT READS IS OF BULK AT MOST 1048576: true; the input reads as it did. -/
def marksStepsUptoRow : OpenClaim := { program := "ytancficmkkdnfaa", sum := "f4c72892cc81d65e5afbb87d33d2c8eaec093e67a3d28a17bb3232aa1424a3e1", func := "lampbox/lampboxlaw11.MarksSteps", spec := "marksSteps", inPlace := ["internal/abi.NoEscape", "internal/bytealg.MakeNoZero"], unfollowed := true, recurses := true, apart := false, narrowed := true }
def MarksStepsUptoSaid : Prop := marksStepsUptoRow.holds Try.pinned (OpenSpec.upto marksStepsSpec)

end Rows
end Go.Proofs.Ytancficmkkdnfaa
