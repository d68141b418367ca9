/-
  No cell of these rows narrows 'for every input' (looked for: loops, veiled, ifaces, maps, wideKeys, modest, calm, conditions, laid).
  DERIVED. THE GIVEN ROWS OF THIS SEAT. 11 by the template 'for every input the law returns true; each argument reads behind the call as it read before'; 0 by the template 'total and deterministic' (their statements: YthelnggbcgjbcaaTotals.lean).
  GIVEN WITH THE SEED: the statements are not yours to turn. If you find one false, say at which input.
  Laid BY PROGRAM, IN A SANDBOX (cutbox-rows.mjs): the forced cells as the released guide's own fill.sh prints them over the translation b72e2a474d791359… (all of the seat's roots in one cut). By AI agents, Wed Nov 11 2026. No macro, syntax, notation, axiom, sorry.
-/
import Derived.Test.YthelnggbcgjbcaaChecked
import GoSem.Claim
import GoSem.ClaimJoined
import GoSem.ClaimMapViews
import Derived.JoinedTies
import Derived.KernelRfl
namespace Go.Proofs.Ythelnggbcgjbcaa
/- THE CELL 'sum', in the pinned program and in every row, IS THE sha256 OF THE DUMP (.gsa) THAT YthelnggbcgjbcaaProg.lean LOADS. Nothing in Lean hashes anything: it is a label: what it is worth is what the hold of that sum in a sandbox is worth. -/
noncomputable def Try.pinned : Pinned := { name := "ythelnggbcgjbcaa", sum := "b72e2a474d791359f8b51ecde77dee93492f62227f5c88fb101b5d9eda1a0ad0", checked := Try.checked }
namespace Rows
def none {H : Type} : Left H := { results := [], args := [] }

/-- 'lampboxlaw04.SealsGrouped': WHATEVER THE INPUT: true; the input reads as it did. -/
def sealsGroupedSpec : ChangeSpec := { name := "sealsGrouped", fn := fun _ => fun
  | [d] => { results := [.lit (.bool true)], args := [d] }
  | _ => none }
def sealsGroupedRow : OpenClaim := { program := "ythelnggbcgjbcaa", sum := "b72e2a474d791359f8b51ecde77dee93492f62227f5c88fb101b5d9eda1a0ad0", func := "lampbox/lampboxlaw04.SealsGrouped", spec := "sealsGrouped", unfollowed := true, recurses := true, plainKeys := false, apart := false }
def SealsGroupedSaid : Prop := sealsGroupedRow.holds Try.pinned (OpenSpec.ofChange sealsGroupedSpec)

/-- ITS FALSE NEIGHBOUR: 'it returns false'. Refute it at one input. -/
def sealsGroupedWrong : ChangeSpec := { name := "sealsGrouped", fn := fun _ => fun
  | [d] => { results := [.lit (.bool false)], args := [d] }
  | _ => none }
def SealsGroupedWrongFalsely : Prop := sealsGroupedRow.holds Try.pinned (OpenSpec.ofChange sealsGroupedWrong)

/-- 'lampboxlaw04.SealsChecks': WHATEVER THE INPUT: true; the input reads as it did. -/
def sealsChecksSpec : ChangeSpec := { name := "sealsChecks", fn := fun _ => fun
  | [d1, d2] => { results := [.lit (.bool true)], args := [d1, d2] }
  | _ => none }
def sealsChecksRow : OpenClaim := { program := "ythelnggbcgjbcaa", sum := "b72e2a474d791359f8b51ecde77dee93492f62227f5c88fb101b5d9eda1a0ad0", func := "lampbox/lampboxlaw04.SealsChecks", spec := "sealsChecks", unfollowed := true, recurses := true, plainKeys := false, apart := false }
def SealsChecksSaid : Prop := sealsChecksRow.holds Try.pinned (OpenSpec.ofChange sealsChecksSpec)

/-- ITS FALSE NEIGHBOUR: 'it returns false'. Refute it at one input. -/
def sealsChecksWrong : ChangeSpec := { name := "sealsChecks", fn := fun _ => fun
  | [d1, d2] => { results := [.lit (.bool false)], args := [d1, d2] }
  | _ => none }
def SealsChecksWrongFalsely : Prop := sealsChecksRow.holds Try.pinned (OpenSpec.ofChange sealsChecksWrong)

/-- 'lampboxlaw04.SealsRings': WHATEVER THE INPUT: true; the input reads as it did. -/
def sealsRingsSpec : ChangeSpec := { name := "sealsRings", fn := fun _ => fun
  | [d1, d2] => { results := [.lit (.bool true)], args := [d1, d2] }
  | _ => none }
def sealsRingsRow : OpenClaim := { program := "ythelnggbcgjbcaa", sum := "b72e2a474d791359f8b51ecde77dee93492f62227f5c88fb101b5d9eda1a0ad0", func := "lampbox/lampboxlaw04.SealsRings", spec := "sealsRings", unfollowed := true, recurses := true, plainKeys := false, apart := false }
def SealsRingsSaid : Prop := sealsRingsRow.holds Try.pinned (OpenSpec.ofChange sealsRingsSpec)

/-- ITS FALSE NEIGHBOUR: 'it returns false'. Refute it at one input. -/
def sealsRingsWrong : ChangeSpec := { name := "sealsRings", fn := fun _ => fun
  | [d1, d2] => { results := [.lit (.bool false)], args := [d1, d2] }
  | _ => none }
def SealsRingsWrongFalsely : Prop := sealsRingsRow.holds Try.pinned (OpenSpec.ofChange sealsRingsWrong)

/-- 'lampboxlaw04.SealsShared': WHATEVER THE INPUT: true; the input reads as it did. -/
def sealsSharedSpec : ChangeSpec := { name := "sealsShared", fn := fun _ => fun
  | [d1, d2] => { results := [.lit (.bool true)], args := [d1, d2] }
  | _ => none }
def sealsSharedRow : OpenClaim := { program := "ythelnggbcgjbcaa", sum := "b72e2a474d791359f8b51ecde77dee93492f62227f5c88fb101b5d9eda1a0ad0", func := "lampbox/lampboxlaw04.SealsShared", spec := "sealsShared", unfollowed := true, recurses := true, plainKeys := false, apart := false }
def SealsSharedSaid : Prop := sealsSharedRow.holds Try.pinned (OpenSpec.ofChange sealsSharedSpec)

/-- ITS FALSE NEIGHBOUR: 'it returns false'. Refute it at one input. -/
def sealsSharedWrong : ChangeSpec := { name := "sealsShared", fn := fun _ => fun
  | [d1, d2] => { results := [.lit (.bool false)], args := [d1, d2] }
  | _ => none }
def SealsSharedWrongFalsely : Prop := sealsSharedRow.holds Try.pinned (OpenSpec.ofChange sealsSharedWrong)

/-- 'lampboxlaw04.SealsRounds': WHATEVER THE INPUT: true; the input reads as it did. -/
def sealsRoundsSpec : ChangeSpec := { name := "sealsRounds", fn := fun _ => fun
  | [d1, d2] => { results := [.lit (.bool true)], args := [d1, d2] }
  | _ => none }
def sealsRoundsRow : OpenClaim := { program := "ythelnggbcgjbcaa", sum := "b72e2a474d791359f8b51ecde77dee93492f62227f5c88fb101b5d9eda1a0ad0", func := "lampbox/lampboxlaw04.SealsRounds", spec := "sealsRounds", unfollowed := true, recurses := true, plainKeys := false, apart := false }
def SealsRoundsSaid : Prop := sealsRoundsRow.holds Try.pinned (OpenSpec.ofChange sealsRoundsSpec)

/-- ITS FALSE NEIGHBOUR: 'it returns false'. Refute it at one input. -/
def sealsRoundsWrong : ChangeSpec := { name := "sealsRounds", fn := fun _ => fun
  | [d1, d2] => { results := [.lit (.bool false)], args := [d1, d2] }
  | _ => none }
def SealsRoundsWrongFalsely : Prop := sealsRoundsRow.holds Try.pinned (OpenSpec.ofChange sealsRoundsWrong)

/-- 'lampboxlaw04.SealsCuts': WHATEVER THE INPUT: true; the input reads as it did. -/
def sealsCutsSpec : ChangeSpec := { name := "sealsCuts", fn := fun _ => fun
  | [d] => { results := [.lit (.bool true)], args := [d] }
  | _ => none }
def sealsCutsRow : OpenClaim := { program := "ythelnggbcgjbcaa", sum := "b72e2a474d791359f8b51ecde77dee93492f62227f5c88fb101b5d9eda1a0ad0", func := "lampbox/lampboxlaw04.SealsCuts", spec := "sealsCuts", unfollowed := true, recurses := true, plainKeys := false, apart := false }
def SealsCutsSaid : Prop := sealsCutsRow.holds Try.pinned (OpenSpec.ofChange sealsCutsSpec)

/-- ITS FALSE NEIGHBOUR: 'it returns false'. Refute it at one input. -/
def sealsCutsWrong : ChangeSpec := { name := "sealsCuts", fn := fun _ => fun
  | [d] => { results := [.lit (.bool false)], args := [d] }
  | _ => none }
def SealsCutsWrongFalsely : Prop := sealsCutsRow.holds Try.pinned (OpenSpec.ofChange sealsCutsWrong)

/-- 'lampboxlaw04.SealsOwn': WHATEVER THE INPUT: true; the input reads as it did. -/
def sealsOwnSpec : ChangeSpec := { name := "sealsOwn", fn := fun _ => fun
  | [d1, d2] => { results := [.lit (.bool true)], args := [d1, d2] }
  | _ => none }
def sealsOwnRow : OpenClaim := { program := "ythelnggbcgjbcaa", sum := "b72e2a474d791359f8b51ecde77dee93492f62227f5c88fb101b5d9eda1a0ad0", func := "lampbox/lampboxlaw04.SealsOwn", spec := "sealsOwn", unfollowed := true, recurses := true, plainKeys := false, apart := false }
def SealsOwnSaid : Prop := sealsOwnRow.holds Try.pinned (OpenSpec.ofChange sealsOwnSpec)

/-- ITS FALSE NEIGHBOUR: 'it returns false'. Refute it at one input. -/
def sealsOwnWrong : ChangeSpec := { name := "sealsOwn", fn := fun _ => fun
  | [d1, d2] => { results := [.lit (.bool false)], args := [d1, d2] }
  | _ => none }
def SealsOwnWrongFalsely : Prop := sealsOwnRow.holds Try.pinned (OpenSpec.ofChange sealsOwnWrong)

/-- 'lampboxlaw04.SealsTurned': WHATEVER THE INPUT: true; the input reads as it did. -/
def sealsTurnedSpec : ChangeSpec := { name := "sealsTurned", fn := fun _ => fun
  | [d1, d2] => { results := [.lit (.bool true)], args := [d1, d2] }
  | _ => none }
def sealsTurnedRow : OpenClaim := { program := "ythelnggbcgjbcaa", sum := "b72e2a474d791359f8b51ecde77dee93492f62227f5c88fb101b5d9eda1a0ad0", func := "lampbox/lampboxlaw04.SealsTurned", spec := "sealsTurned", unfollowed := true, recurses := true, plainKeys := false, apart := false }
def SealsTurnedSaid : Prop := sealsTurnedRow.holds Try.pinned (OpenSpec.ofChange sealsTurnedSpec)

/-- ITS FALSE NEIGHBOUR: 'it returns false'. Refute it at one input. -/
def sealsTurnedWrong : ChangeSpec := { name := "sealsTurned", fn := fun _ => fun
  | [d1, d2] => { results := [.lit (.bool false)], args := [d1, d2] }
  | _ => none }
def SealsTurnedWrongFalsely : Prop := sealsTurnedRow.holds Try.pinned (OpenSpec.ofChange sealsTurnedWrong)

/-- 'lampboxlaw04.SealsLeast': WHATEVER THE INPUT: true; the input reads as it did. -/
def sealsLeastSpec : ChangeSpec := { name := "sealsLeast", fn := fun _ => fun
  | [d1, d2] => { results := [.lit (.bool true)], args := [d1, d2] }
  | _ => none }
def sealsLeastRow : OpenClaim := { program := "ythelnggbcgjbcaa", sum := "b72e2a474d791359f8b51ecde77dee93492f62227f5c88fb101b5d9eda1a0ad0", func := "lampbox/lampboxlaw04.SealsLeast", spec := "sealsLeast", unfollowed := true, recurses := true, plainKeys := false, apart := false }
def SealsLeastSaid : Prop := sealsLeastRow.holds Try.pinned (OpenSpec.ofChange sealsLeastSpec)

/-- ITS FALSE NEIGHBOUR: 'it returns false'. Refute it at one input. -/
def sealsLeastWrong : ChangeSpec := { name := "sealsLeast", fn := fun _ => fun
  | [d1, d2] => { results := [.lit (.bool false)], args := [d1, d2] }
  | _ => none }
def SealsLeastWrongFalsely : Prop := sealsLeastRow.holds Try.pinned (OpenSpec.ofChange sealsLeastWrong)

/-- 'lampboxlaw04.SealsWays': WHATEVER THE INPUT: true; the input reads as it did. -/
def sealsWaysSpec : ChangeSpec := { name := "sealsWays", fn := fun _ => fun
  | [d1, d2] => { results := [.lit (.bool true)], args := [d1, d2] }
  | _ => none }
def sealsWaysRow : OpenClaim := { program := "ythelnggbcgjbcaa", sum := "b72e2a474d791359f8b51ecde77dee93492f62227f5c88fb101b5d9eda1a0ad0", func := "lampbox/lampboxlaw04.SealsWays", spec := "sealsWays", unfollowed := true, recurses := true, plainKeys := false, apart := false }
def SealsWaysSaid : Prop := sealsWaysRow.holds Try.pinned (OpenSpec.ofChange sealsWaysSpec)

/-- ITS FALSE NEIGHBOUR: 'it returns false'. Refute it at one input. -/
def sealsWaysWrong : ChangeSpec := { name := "sealsWays", fn := fun _ => fun
  | [d1, d2] => { results := [.lit (.bool false)], args := [d1, d2] }
  | _ => none }
def SealsWaysWrongFalsely : Prop := sealsWaysRow.holds Try.pinned (OpenSpec.ofChange sealsWaysWrong)

/-- 'lampboxlaw04.SealsHalves': WHATEVER THE INPUT: true; the input reads as it did. -/
def sealsHalvesSpec : ChangeSpec := { name := "sealsHalves", fn := fun _ => fun
  | [d] => { results := [.lit (.bool true)], args := [d] }
  | _ => none }
def sealsHalvesRow : OpenClaim := { program := "ythelnggbcgjbcaa", sum := "b72e2a474d791359f8b51ecde77dee93492f62227f5c88fb101b5d9eda1a0ad0", func := "lampbox/lampboxlaw04.SealsHalves", spec := "sealsHalves", unfollowed := true, recurses := true, plainKeys := false, apart := false }
def SealsHalvesSaid : Prop := sealsHalvesRow.holds Try.pinned (OpenSpec.ofChange sealsHalvesSpec)

/-- ITS FALSE NEIGHBOUR: 'it returns false'. Refute it at one input. -/
def sealsHalvesWrong : ChangeSpec := { name := "sealsHalves", fn := fun _ => fun
  | [d] => { results := [.lit (.bool false)], args := [d] }
  | _ => none }
def SealsHalvesWrongFalsely : Prop := sealsHalvesRow.holds Try.pinned (OpenSpec.ofChange sealsHalvesWrong)

/- THE SECOND FORM. 'bulk': how many values and letters a reading holds, each counted each time it is reached (what is shared counts as often as it is met; a slice's spare places count too). A statement '..UptoSaid' is the law's where the arguments, and the package variables that the reading takes, are together of bulk at most 1048576: NARROWER than '..Said'. Prove '..Said' where nothing that the law and all that it calls make is longer than what came in: it says more and counts as full. Else prove '..UptoSaid'. A law counts once. -/
mutual
def uptoBulk {H : Type} : DataW H → Nat
  | .lit (.string bytes) => bytes.length + 1
  | .lit _ => 1
  | .nil => 1
  | .ptr d => uptoBulk d + 1
  | .slice elems spare => uptoBulkAll elems + uptoBulkAll spare + 1
  | .agg parts => uptoBulkAll parts + 1
  | .iface _ d => uptoBulk d + 1
  | .map entries => uptoBulkEntries entries + 1
  | .held _ => 1
def uptoBulkAll {H : Type} : List (DataW H) → Nat
  | [] => 0
  | d :: r => uptoBulk d + uptoBulkAll r
def uptoBulkEntries {H : Type} : List (Lit × DataW H) → Nat
  | [] => 0
  | x :: r => uptoBulkEntry x + uptoBulkEntries r
def uptoBulkEntry {H : Type} : Lit × DataW H → Nat
  | (.string bytes, d) => bytes.length + uptoBulk d + 1
  | (_, d) => uptoBulk d + 1
 end
def uptoSmall : (H : Type) → List (DataW H) → Bool := fun _ ds => decide (uptoBulkAll ds ≤ 1048576)
def OpenSpec.upto (s : _root_.Go.ChangeSpec) : _root_.Go.OpenSpec := { _root_.Go.OpenSpec.ofChange s with cond := some uptoSmall }

/-- 'lampboxlaw04.SealsGrouped', WHERE WHAT IT READS IS OF BULK AT MOST 1048576: true; the input reads as it did. -/
def sealsGroupedUptoRow : OpenClaim := { program := "ythelnggbcgjbcaa", sum := "b72e2a474d791359f8b51ecde77dee93492f62227f5c88fb101b5d9eda1a0ad0", func := "lampbox/lampboxlaw04.SealsGrouped", spec := "sealsGrouped", unfollowed := true, recurses := true, plainKeys := false, apart := false, narrowed := true }
def SealsGroupedUptoSaid : Prop := sealsGroupedUptoRow.holds Try.pinned (OpenSpec.upto sealsGroupedSpec)

/-- 'lampboxlaw04.SealsChecks', WHERE WHAT IT READS IS OF BULK AT MOST 1048576: true; the input reads as it did. -/
def sealsChecksUptoRow : OpenClaim := { program := "ythelnggbcgjbcaa", sum := "b72e2a474d791359f8b51ecde77dee93492f62227f5c88fb101b5d9eda1a0ad0", func := "lampbox/lampboxlaw04.SealsChecks", spec := "sealsChecks", unfollowed := true, recurses := true, plainKeys := false, apart := false, narrowed := true }
def SealsChecksUptoSaid : Prop := sealsChecksUptoRow.holds Try.pinned (OpenSpec.upto sealsChecksSpec)

/-- 'lampboxlaw04.SealsRings', WHERE WHAT IT READS IS OF BULK AT MOST 1048576: true; the input reads as it did. -/
def sealsRingsUptoRow : OpenClaim := { program := "ythelnggbcgjbcaa", sum := "b72e2a474d791359f8b51ecde77dee93492f62227f5c88fb101b5d9eda1a0ad0", func := "lampbox/lampboxlaw04.SealsRings", spec := "sealsRings", unfollowed := true, recurses := true, plainKeys := false, apart := false, narrowed := true }
def SealsRingsUptoSaid : Prop := sealsRingsUptoRow.holds Try.pinned (OpenSpec.upto sealsRingsSpec)

/-- 'lampboxlaw04.SealsShared', WHERE WHAT IT READS IS OF BULK AT MOST 1048576: true; the input reads as it did. -/
def sealsSharedUptoRow : OpenClaim := { program := "ythelnggbcgjbcaa", sum := "b72e2a474d791359f8b51ecde77dee93492f62227f5c88fb101b5d9eda1a0ad0", func := "lampbox/lampboxlaw04.SealsShared", spec := "sealsShared", unfollowed := true, recurses := true, plainKeys := false, apart := false, narrowed := true }
def SealsSharedUptoSaid : Prop := sealsSharedUptoRow.holds Try.pinned (OpenSpec.upto sealsSharedSpec)

/-- 'lampboxlaw04.SealsRounds', WHERE WHAT IT READS IS OF BULK AT MOST 1048576: true; the input reads as it did. -/
def sealsRoundsUptoRow : OpenClaim := { program := "ythelnggbcgjbcaa", sum := "b72e2a474d791359f8b51ecde77dee93492f62227f5c88fb101b5d9eda1a0ad0", func := "lampbox/lampboxlaw04.SealsRounds", spec := "sealsRounds", unfollowed := true, recurses := true, plainKeys := false, apart := false, narrowed := true }
def SealsRoundsUptoSaid : Prop := sealsRoundsUptoRow.holds Try.pinned (OpenSpec.upto sealsRoundsSpec)

/-- 'lampboxlaw04.SealsCuts', WHERE WHAT IT READS IS OF BULK AT MOST 1048576: true; the input reads as it did. -/
def sealsCutsUptoRow : OpenClaim := { program := "ythelnggbcgjbcaa", sum := "b72e2a474d791359f8b51ecde77dee93492f62227f5c88fb101b5d9eda1a0ad0", func := "lampbox/lampboxlaw04.SealsCuts", spec := "sealsCuts", unfollowed := true, recurses := true, plainKeys := false, apart := false, narrowed := true }
def SealsCutsUptoSaid : Prop := sealsCutsUptoRow.holds Try.pinned (OpenSpec.upto sealsCutsSpec)

/-- 'lampboxlaw04.SealsOwn', WHERE WHAT IT READS IS OF BULK AT MOST 1048576: true; the input reads as it did. -/
def sealsOwnUptoRow : OpenClaim := { program := "ythelnggbcgjbcaa", sum := "b72e2a474d791359f8b51ecde77dee93492f62227f5c88fb101b5d9eda1a0ad0", func := "lampbox/lampboxlaw04.SealsOwn", spec := "sealsOwn", unfollowed := true, recurses := true, plainKeys := false, apart := false, narrowed := true }
def SealsOwnUptoSaid : Prop := sealsOwnUptoRow.holds Try.pinned (OpenSpec.upto sealsOwnSpec)

/-- 'lampboxlaw04.SealsTurned', WHERE WHAT IT READS IS OF BULK AT MOST 1048576: true; the input reads as it did. -/
def sealsTurnedUptoRow : OpenClaim := { program := "ythelnggbcgjbcaa", sum := "b72e2a474d791359f8b51ecde77dee93492f62227f5c88fb101b5d9eda1a0ad0", func := "lampbox/lampboxlaw04.SealsTurned", spec := "sealsTurned", unfollowed := true, recurses := true, plainKeys := false, apart := false, narrowed := true }
def SealsTurnedUptoSaid : Prop := sealsTurnedUptoRow.holds Try.pinned (OpenSpec.upto sealsTurnedSpec)

/-- 'lampboxlaw04.SealsLeast', WHERE WHAT IT READS IS OF BULK AT MOST 1048576: true; the input reads as it did. -/
def sealsLeastUptoRow : OpenClaim := { program := "ythelnggbcgjbcaa", sum := "b72e2a474d791359f8b51ecde77dee93492f62227f5c88fb101b5d9eda1a0ad0", func := "lampbox/lampboxlaw04.SealsLeast", spec := "sealsLeast", unfollowed := true, recurses := true, plainKeys := false, apart := false, narrowed := true }
def SealsLeastUptoSaid : Prop := sealsLeastUptoRow.holds Try.pinned (OpenSpec.upto sealsLeastSpec)

/-- 'lampboxlaw04.SealsWays', WHERE WHAT IT READS IS OF BULK AT MOST 1048576: true; the input reads as it did. -/
def sealsWaysUptoRow : OpenClaim := { program := "ythelnggbcgjbcaa", sum := "b72e2a474d791359f8b51ecde77dee93492f62227f5c88fb101b5d9eda1a0ad0", func := "lampbox/lampboxlaw04.SealsWays", spec := "sealsWays", unfollowed := true, recurses := true, plainKeys := false, apart := false, narrowed := true }
def SealsWaysUptoSaid : Prop := sealsWaysUptoRow.holds Try.pinned (OpenSpec.upto sealsWaysSpec)

/-- 'lampboxlaw04.SealsHalves', WHERE WHAT IT READS IS OF BULK AT MOST 1048576: true; the input reads as it did. -/
def sealsHalvesUptoRow : OpenClaim := { program := "ythelnggbcgjbcaa", sum := "b72e2a474d791359f8b51ecde77dee93492f62227f5c88fb101b5d9eda1a0ad0", func := "lampbox/lampboxlaw04.SealsHalves", spec := "sealsHalves", unfollowed := true, recurses := true, plainKeys := false, apart := false, narrowed := true }
def SealsHalvesUptoSaid : Prop := sealsHalvesUptoRow.holds Try.pinned (OpenSpec.upto sealsHalvesSpec)

end Rows
end Go.Proofs.Ythelnggbcgjbcaa
