/-
  No cell of these rows narrows 'for every input' (looked for: loops, veiled, ifaces, maps, wideKeys, modest, calm, conditions, laid).
  DERIVED. THE GIVEN ROWS OF THIS SEAT. 4 by the template 'for every input the law returns true; each argument reads behind the call as it read before'; 0 by the template 'total and deterministic' (their statements: YtkmpdcckgibkhaaGreatTotals.lean).
  GIVEN WITH THE SEED: the statements are not yours to turn. If you find one false, say at which input.
  Laid BY PROGRAM, IN A SANDBOX (cutbox-rows.mjs): the forced cells as the released guide's own fill.sh prints them over the translation 845485f1b41f5279… (all of the seat's roots in one cut). By AI agents, Wed Nov 11 2026. No macro, syntax, notation, axiom, sorry.
-/
import Derived.Test.YtkmpdcckgibkhaaGreatChecked
import GoSem.Claim
import GoSem.ClaimJoined
import GoSem.ClaimMapViews
import Derived.JoinedTies
import Derived.KernelRfl
namespace Go.Proofs.YtkmpdcckgibkhaaGreat
/- THE CELL 'sum', in the pinned program and in every row, IS THE sha256 OF THE DUMP (.gsa) THAT YtkmpdcckgibkhaaGreatProg.lean LOADS. Nothing in Lean hashes anything: it is a label: what it is worth is what the hold of that sum in a sandbox is worth. -/
noncomputable def Tryz.pinned : Pinned := { name := "ytkmpdcckgibkhaagreat", sum := "845485f1b41f5279003e17d62e51f25ffd2bc159cf7dc34df709eee548930d1b", checked := Tryz.checked }
namespace Rows
def none {H : Type} : Left H := { results := [], args := [] }

/-- 'lampboxtop.TopAssigned': WHATEVER THE INPUT: true; the input reads as it did. -/
def topAssignedSpec : ChangeSpec := { name := "topAssigned", fn := fun _ => fun
  | [d1, d2] => { results := [.lit (.bool true)], args := [d1, d2] }
  | _ => none }
def topAssignedRow : OpenClaim := { program := "ytkmpdcckgibkhaagreat", sum := "845485f1b41f5279003e17d62e51f25ffd2bc159cf7dc34df709eee548930d1b", func := "lampbox/lampboxtop.TopAssigned", spec := "topAssigned", unfollowed := true, recurses := true, plainKeys := false, apart := false }
def TopAssignedSaid : Prop := topAssignedRow.holds Tryz.pinned (OpenSpec.ofChange topAssignedSpec)

/-- ITS FALSE NEIGHBOUR: 'it returns false'. Refute it at one input. -/
def topAssignedWrong : ChangeSpec := { name := "topAssigned", fn := fun _ => fun
  | [d1, d2] => { results := [.lit (.bool false)], args := [d1, d2] }
  | _ => none }
def TopAssignedWrongFalsely : Prop := topAssignedRow.holds Tryz.pinned (OpenSpec.ofChange topAssignedWrong)

/-- 'lampboxtop.TopDealt': WHATEVER THE INPUT: true; the input reads as it did. -/
def topDealtSpec : ChangeSpec := { name := "topDealt", fn := fun _ => fun
  | [d1, d2] => { results := [.lit (.bool true)], args := [d1, d2] }
  | _ => none }
def topDealtRow : OpenClaim := { program := "ytkmpdcckgibkhaagreat", sum := "845485f1b41f5279003e17d62e51f25ffd2bc159cf7dc34df709eee548930d1b", func := "lampbox/lampboxtop.TopDealt", spec := "topDealt", unfollowed := true, recurses := true, plainKeys := false, apart := false }
def TopDealtSaid : Prop := topDealtRow.holds Tryz.pinned (OpenSpec.ofChange topDealtSpec)

/-- ITS FALSE NEIGHBOUR: 'it returns false'. Refute it at one input. -/
def topDealtWrong : ChangeSpec := { name := "topDealt", fn := fun _ => fun
  | [d1, d2] => { results := [.lit (.bool false)], args := [d1, d2] }
  | _ => none }
def TopDealtWrongFalsely : Prop := topDealtRow.holds Tryz.pinned (OpenSpec.ofChange topDealtWrong)

/-- 'lampboxtop.TopHalved': WHATEVER THE INPUT: true; the input reads as it did. -/
def topHalvedSpec : ChangeSpec := { name := "topHalved", fn := fun _ => fun
  | [d] => { results := [.lit (.bool true)], args := [d] }
  | _ => none }
def topHalvedRow : OpenClaim := { program := "ytkmpdcckgibkhaagreat", sum := "845485f1b41f5279003e17d62e51f25ffd2bc159cf7dc34df709eee548930d1b", func := "lampbox/lampboxtop.TopHalved", spec := "topHalved", unfollowed := true, recurses := true, plainKeys := false, apart := false }
def TopHalvedSaid : Prop := topHalvedRow.holds Tryz.pinned (OpenSpec.ofChange topHalvedSpec)

/-- ITS FALSE NEIGHBOUR: 'it returns false'. Refute it at one input. -/
def topHalvedWrong : ChangeSpec := { name := "topHalved", fn := fun _ => fun
  | [d] => { results := [.lit (.bool false)], args := [d] }
  | _ => none }
def TopHalvedWrongFalsely : Prop := topHalvedRow.holds Tryz.pinned (OpenSpec.ofChange topHalvedWrong)

/-- 'lampboxtop.TopSquares': WHATEVER THE INPUT: true; the input reads as it did. -/
def topSquaresSpec : ChangeSpec := { name := "topSquares", fn := fun _ => fun
  | [d] => { results := [.lit (.bool true)], args := [d] }
  | _ => none }
def topSquaresRow : OpenClaim := { program := "ytkmpdcckgibkhaagreat", sum := "845485f1b41f5279003e17d62e51f25ffd2bc159cf7dc34df709eee548930d1b", func := "lampbox/lampboxtop.TopSquares", spec := "topSquares", unfollowed := true, recurses := true, plainKeys := false, apart := false }
def TopSquaresSaid : Prop := topSquaresRow.holds Tryz.pinned (OpenSpec.ofChange topSquaresSpec)

/-- ITS FALSE NEIGHBOUR: 'it returns false'. Refute it at one input. -/
def topSquaresWrong : ChangeSpec := { name := "topSquares", fn := fun _ => fun
  | [d] => { results := [.lit (.bool false)], args := [d] }
  | _ => none }
def TopSquaresWrongFalsely : Prop := topSquaresRow.holds Tryz.pinned (OpenSpec.ofChange topSquaresWrong)

/- THE SECOND FORM. 'bulk': how many values and letters a reading holds, each counted each time it is reached (what is shared counts as often as it is met; a slice's spare places count too). A statement '..UptoSaid' is the law's where the arguments, and the package variables that the reading takes, are together of bulk at most 1048576: NARROWER than '..Said'. Prove '..Said' where nothing that the law and all that it calls make is longer than what came in: it says more and counts as full. Else prove '..UptoSaid'. A law counts once. -/
mutual
def uptoBulk {H : Type} : DataW H → Nat
  | .lit (.string bytes) => bytes.length + 1
  | .lit _ => 1
  | .nil => 1
  | .ptr d => uptoBulk d + 1
  | .slice elems spare => uptoBulkAll elems + uptoBulkAll spare + 1
  | .agg parts => uptoBulkAll parts + 1
  | .iface _ d => uptoBulk d + 1
  | .map entries => uptoBulkEntries entries + 1
  | .held _ => 1
def uptoBulkAll {H : Type} : List (DataW H) → Nat
  | [] => 0
  | d :: r => uptoBulk d + uptoBulkAll r
def uptoBulkEntries {H : Type} : List (Lit × DataW H) → Nat
  | [] => 0
  | x :: r => uptoBulkEntry x + uptoBulkEntries r
def uptoBulkEntry {H : Type} : Lit × DataW H → Nat
  | (.string bytes, d) => bytes.length + uptoBulk d + 1
  | (_, d) => uptoBulk d + 1
 end
def uptoSmall : (H : Type) → List (DataW H) → Bool := fun _ ds => decide (uptoBulkAll ds ≤ 1048576)
def OpenSpec.upto (s : _root_.Go.ChangeSpec) : _root_.Go.OpenSpec := { _root_.Go.OpenSpec.ofChange s with cond := some uptoSmall }

/-- 'lampboxtop.TopAssigned', WHERE WHAT IT READS IS OF BULK AT MOST 1048576: true; the input reads as it did. -/
def topAssignedUptoRow : OpenClaim := { program := "ytkmpdcckgibkhaagreat", sum := "845485f1b41f5279003e17d62e51f25ffd2bc159cf7dc34df709eee548930d1b", func := "lampbox/lampboxtop.TopAssigned", spec := "topAssigned", unfollowed := true, recurses := true, plainKeys := false, apart := false, narrowed := true }
def TopAssignedUptoSaid : Prop := topAssignedUptoRow.holds Tryz.pinned (OpenSpec.upto topAssignedSpec)

/-- 'lampboxtop.TopDealt', WHERE WHAT IT READS IS OF BULK AT MOST 1048576: true; the input reads as it did. -/
def topDealtUptoRow : OpenClaim := { program := "ytkmpdcckgibkhaagreat", sum := "845485f1b41f5279003e17d62e51f25ffd2bc159cf7dc34df709eee548930d1b", func := "lampbox/lampboxtop.TopDealt", spec := "topDealt", unfollowed := true, recurses := true, plainKeys := false, apart := false, narrowed := true }
def TopDealtUptoSaid : Prop := topDealtUptoRow.holds Tryz.pinned (OpenSpec.upto topDealtSpec)

/-- 'lampboxtop.TopHalved', WHERE WHAT IT READS IS OF BULK AT MOST 1048576: true; the input reads as it did. -/
def topHalvedUptoRow : OpenClaim := { program := "ytkmpdcckgibkhaagreat", sum := "845485f1b41f5279003e17d62e51f25ffd2bc159cf7dc34df709eee548930d1b", func := "lampbox/lampboxtop.TopHalved", spec := "topHalved", unfollowed := true, recurses := true, plainKeys := false, apart := false, narrowed := true }
def TopHalvedUptoSaid : Prop := topHalvedUptoRow.holds Tryz.pinned (OpenSpec.upto topHalvedSpec)

/-- 'lampboxtop.TopSquares', WHERE WHAT IT READS IS OF BULK AT MOST 1048576: true; the input reads as it did. -/
def topSquaresUptoRow : OpenClaim := { program := "ytkmpdcckgibkhaagreat", sum := "845485f1b41f5279003e17d62e51f25ffd2bc159cf7dc34df709eee548930d1b", func := "lampbox/lampboxtop.TopSquares", spec := "topSquares", unfollowed := true, recurses := true, plainKeys := false, apart := false, narrowed := true }
def TopSquaresUptoSaid : Prop := topSquaresUptoRow.holds Tryz.pinned (OpenSpec.upto topSquaresSpec)

end Rows
end Go.Proofs.YtkmpdcckgibkhaaGreat
